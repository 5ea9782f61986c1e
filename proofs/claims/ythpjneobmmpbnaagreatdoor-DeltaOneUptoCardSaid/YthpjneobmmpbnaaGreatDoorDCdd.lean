/- What was written of a delta that may be is read back (plain). No program; no condition. -/
import Derived.Test.YthpjneobmmpbnaaGreatDoorDCdx
namespace Go.Proofs.YthpjneobmmpbnaaGreatDoor
open Go.RowKit
/-! ### a path is UTF-8 -/
theorem decodeL_drop (s : ByteArray) (p : Nat) : Lib.decodeL (s.data.toList.drop p) = Utf8.decode s p := by
  unfold Lib.decodeL
  rw [Lib.decode_at, Lib.decode_at]
  have g : ∀ k, (⟨(s.data.toList.drop p).toArray⟩ : ByteArray).get! k = s.get! (p + k) := fun k => by
    rw [← get_dropU s p k]
    show ((s.data.toList.drop p).toArray)[k]! = (s.data.toList.drop p).getD k 0
    generalize s.data.toList.drop p = l
    by_cases h : k < l.length
    · rw [getElem!_pos l.toArray k (by simpa using h)]; simp [List.getD, h]
    · rw [getElem!_neg l.toArray k (by simpa using h)]; simp [List.getD, List.getElem?_eq_none (Nat.le_of_not_lt h)]; rfl
  have hs : (⟨(s.data.toList.drop p).toArray⟩ : ByteArray).size = s.size - p := by show (s.data.toList.drop p).toArray.size = _; simp
  rw [hs, g 0, g (0 + 1), g (0 + 2), g (0 + 3)]
  rfl
theorem fine_valid (s : ByteArray) : ∀ f p, s.size ≤ p + f → fineF s f p = true → Lib.validD (s.data.toList.drop p) = true
  | 0, p, h, _ => by rw [List.drop_eq_nil_of_le (by simpa using h)]; exact Lib.validD_nil
  | f + 1, p, h, hf => by
    unfold fineF at hf
    by_cases hp : p < s.size
    · rw [if_pos hp] at hf
      simp only [Bool.and_eq_true] at hf
      obtain ⟨h1, h2⟩ := hf
      have hne : s.data.toList.drop p ≠ [] := by
        intro h'; have : (s.data.toList.drop p).length = 0 := by rw [h']; rfl
        simp at this; have : s.data.size = s.size := rfl; omega
      rw [Lib.validD_step _ hne, decodeL_drop]
      have hk : ¬ ((Utf8.decode s p).1 = 65533 ∧ (Utf8.decode s p).2 = 1) := by
        intro hk
        unfold stepOk charK at h1
        rw [if_pos hk] at h1
        simp at h1
      rw [if_neg hk, List.drop_drop]
      have hw := charW_pos s p
      exact fine_valid s f (p + (Utf8.decode s p).2) (by unfold charW at hw; omega) h2
    · rw [List.drop_eq_nil_of_le (by simpa using hp)]; exact Lib.validD_nil
theorem path_utf8 {s : ByteArray} (h : validP s = true) : s.size ≤ 4096 ∧ 1 ≤ s.size ∧ Lib.validD s.data.toList = true := by
  unfold validP at h
  simp only [Bool.and_eq_true, Bool.or_eq_true, decide_eq_true_eq] at h
  obtain ⟨⟨⟨h1, h2⟩, h3⟩, h4⟩ := h
  refine ⟨h2, by omega, ?_⟩
  rcases h4 with h4 | ⟨-, h4⟩
  · obtain ⟨⟨l⟩⟩ := s
    have hl : l.length = 1 := h4
    match l, hl with
    | [b], _ =>
      have hb : b = 47 := h3
      subst hb
      rfl
  · have := fine_valid s s.size 0 (by omega) h4
    rwa [List.drop_zero] at this
/-! ### readers, forth alone -/
structure Fw {α : Type} (D : α → Prop) (P : Bs → Nat → PR α) (B : α → Bs) : Prop where
  fwd : ∀ (a c : Bs) (x : α), D x → P (a ++ (B x ++ c)) a.length = .ok (x, a.length + (B x).length)
section
variable {α β : Type} {D : α → Prop} {P : Bs → Nat → PR α} {B : α → Bs}
theorem Cdc.fw (h : Cdc D P B) : Fw D P B := ⟨h.fwd⟩
theorem Fw.less (h : Fw D P B) {D' : α → Prop} (hd : ∀ x, D' x → D x) : Fw D' P B := ⟨fun a c x hx => h.fwd a c x (hd x hx)⟩
theorem Fw.bind (h : Fw D P B) {E : α → β → Prop} {Q : α → Bs → Nat → PR β} {C : α → β → Bs} (k : ∀ x, D x → Fw (E x) (Q x) (C x)) :
    Fw (fun z : α × β => D z.1 ∧ E z.1 z.2) (fun l p => (P l p).then fun x a => (Q x l a).then fun y b => .ok ((x, y), b)) (fun z => B z.1 ++ C z.1 z.2) where
  fwd a c z hz := by
    obtain ⟨x, y⟩ := z
    obtain ⟨h1, h2⟩ := hz
    have e1 : a ++ ((B x ++ C x y) ++ c) = a ++ (B x ++ (C x y ++ c)) := by simp
    have e2 : a ++ (B x ++ (C x y ++ c)) = (a ++ B x) ++ (C x y ++ c) := by simp
    show ((P (a ++ ((B x ++ C x y) ++ c)) a.length).then _) = _
    rw [e1, h.fwd a _ x h1, thenOk, e2]
    have h3 := (k x h1).fwd (a ++ B x) c y h2
    rw [List.length_append] at h3
    rw [h3, thenOk, List.length_append, Nat.add_assoc]
/-- a reader of f x, where x is read -/
theorem Fw.map (h : Fw D P B) (f : α → β) {E : β → Prop} {C : β → Bs} {P' : Bs → Nat → PR β} (hP : ∀ l p, P' l p = (P l p).then fun x a => .ok (f x, a)) (hE : ∀ y, E y → ∃ x, D x ∧ f x = y ∧ B x = C y) : Fw E P' C where
  fwd a c y hy := by
    obtain ⟨x, hx, rfl, hb⟩ := hE y hy
    rw [hP, ← hb, h.fwd a c x hx]; rfl
theorem Fw.rep (h : Fw D P B) : ∀ n, Fw (fun xs : List α => xs.length = n ∧ ∀ x ∈ xs, D x) (fun l p => repP (P l) n p) (fun xs => xs.flatMap B)
  | 0 => ⟨fun a c xs hx => by
      obtain rfl := List.length_eq_zero_iff.1 hx.1
      rfl⟩
  | n + 1 => ⟨fun a c xs hx => by
      obtain ⟨hl, hd⟩ := hx
      match xs, hl with
      | x :: r, hl =>
        have h1 := h.fwd a (r.flatMap B ++ c) x (hd x (List.mem_cons_self ..))
        have h2 := (h.rep n).fwd (a ++ B x) c r ⟨by simpa using hl, fun y hy => hd y (List.mem_cons_of_mem _ hy)⟩
        show ((P (a ++ ((x :: r).flatMap B ++ c)) a.length).then _) = _
        rw [List.flatMap_cons, List.append_assoc, h1, thenOk]
        rw [List.length_append] at h2
        rw [← List.append_assoc, h2, thenOk, List.length_append, Nat.add_assoc]⟩
theorem Fw.list (h : Fw D P B) {m k : Nat} (hm : m ≤ 1048576) (hk0 : 1 ≤ k) (hk : ∀ x, D x → k ≤ (B x).length) :
    Fw (fun xs : List α => xs.length ≤ m ∧ ∀ x ∈ xs, D x) (fun l p => listP l m k (P l) p) (fun xs => beB xs.length 4 ++ xs.flatMap B) where
  fwd a c xs hx := by
    have h1 := (sizeC hm).fwd a (xs.flatMap B ++ c) xs.length hx.1
    have h2 := (h.rep xs.length).fwd (a ++ beB xs.length 4) c xs ⟨rfl, hx.2⟩
    show listP _ _ _ _ _ = _
    unfold listP countP
    rw [List.append_assoc, h1, thenOk]
    have h3 := flat_ge hk xs hx.2
    have h4 : ¬ (1 ≤ k ∧ ((a ++ (beB xs.length 4 ++ (xs.flatMap B ++ c))).length - (a.length + (beB xs.length 4).length)) / k < xs.length) := by
      rintro ⟨-, h5⟩
      rw [Nat.div_lt_iff_lt_mul hk0, Nat.mul_comm] at h5
      simp only [List.length_append, beB_len] at h5
      omega
    rw [if_neg h4, thenOk]
    rw [List.length_append] at h2
    rw [← List.append_assoc, h2, List.length_append, Nat.add_assoc]
end
/-! ### texts, entries, identities -/
def bsOf8 (s : ByteArray) : Bs := s.data.toList
theorem toBA_of (s : ByteArray) : toBA (bsOf8 s) = s := rfl
theorem buf_txt (s : ByteArray) : bufB (bsOf8 s) = txtB s := by
  unfold bufB txtB bsOf8
  rw [show s.data.toList.length = s.size by simp]
def okTxt (m : Nat) (b : Bs) : Prop := b.length ≤ m ∧ Lib.validD b = true
theorem idFw : Fw (fun z : Bs × Bs => okTxt 256 z.1 ∧ okTxt 256 z.2) idP (fun z => bufB z.1 ++ bufB z.2) :=
  (textC (m := 256) (by decide)).fw.bind fun _ _ => (textC (m := 256) (by decide)).fw
theorem aclFw : Fw (fun z : Int × Bs × Bs => in32 z.1 ∧ okTxt 256 z.2.1 ∧ okTxt 256 z.2.2) aclP (fun z => beB (m32 z.1) 4 ++ (bufB z.2.1 ++ bufB z.2.2)) :=
  intC.fw.bind fun _ _ => idFw
def backI (x : IdV) : Bs × Bs := (bsOf8 x.1, bsOf8 x.2)
def backA (x : AclV) : Int × Bs × Bs := (x.1, backI x.2)
theorem backI_map (l : List IdV) : (l.map backI).map idV = l := by
  rw [List.map_map]
  exact (List.map_congr_left fun x _ => rfl).trans (List.map_id _)
theorem backA_map (l : List AclV) : (l.map backA).map aclV = l := by
  rw [List.map_map]
  exact (List.map_congr_left fun x _ => rfl).trans (List.map_id _)
theorem backT_map (l : List ByteArray) : (l.map bsOf8).map toBA = l := by
  rw [List.map_map]
  exact (List.map_congr_left fun x _ => rfl).trans (List.map_id _)
theorem flat_map_eq {α β : Type} (g : α → β) (B : β → Bs) (C : α → Bs) (h : ∀ x, B (g x) = C x) (l : List α) : (l.map g).flatMap B = l.flatMap C := by
  rw [List.flatMap_map]
  exact congrArg (fun f => l.flatMap f) (funext h)
theorem acls_eq (l : List AclV) : beB (l.map backA).length 4 ++ (l.map backA).flatMap (fun z => beB (m32 z.1) 4 ++ (bufB z.2.1 ++ bufB z.2.2)) = aclsB l := by
  rw [List.length_map, flat_map_eq backA _ aclB fun x => by
    show beB (m32 x.1) 4 ++ (bufB (bsOf8 x.2.1) ++ bufB (bsOf8 x.2.2)) = aclB x
    rw [buf_txt, buf_txt]; rfl]
  rfl
theorem ids_eq (l : List IdV) : beB (l.map backI).length 4 ++ (l.map backI).flatMap (fun z => bufB z.1 ++ bufB z.2) = idsB l := by
  rw [List.length_map, flat_map_eq backI _ idB fun x => by
    show bufB (bsOf8 x.1) ++ bufB (bsOf8 x.2) = idB x
    rw [buf_txt, buf_txt]; rfl]
  rfl
theorem txts_eq (l : List ByteArray) : beB (l.map bsOf8).length 4 ++ (l.map bsOf8).flatMap bufB = txtsB l := by
  rw [List.length_map, flat_map_eq bsOf8 _ txtB buf_txt]
  rfl
theorem bufB_ge (b : Bs) : 4 ≤ (bufB b).length := by rw [bufB_len]; omega
theorem aclsFw : Fw (fun xs : List (Int × Bs × Bs) => xs.length ≤ 16 ∧ ∀ x ∈ xs, in32 x.1 ∧ okTxt 256 x.2.1 ∧ okTxt 256 x.2.2) (fun l p => listP l 16 12 (aclP l) p) (fun xs => beB xs.length 4 ++ xs.flatMap fun z => beB (m32 z.1) 4 ++ (bufB z.2.1 ++ bufB z.2.2)) :=
  aclFw.list (by decide) (by decide) fun x _ => by rw [List.length_append, List.length_append, beB_len]; have := bufB_ge x.2.1; have := bufB_ge x.2.2; omega
theorem idsFw : Fw (fun xs : List (Bs × Bs) => xs.length ≤ 16 ∧ ∀ x ∈ xs, okTxt 256 x.1 ∧ okTxt 256 x.2) (fun l p => listP l 16 8 (idP l) p) (fun xs => beB xs.length 4 ++ xs.flatMap fun z => bufB z.1 ++ bufB z.2) :=
  idFw.list (by decide) (by decide) fun x _ => by rw [List.length_append]; have := bufB_ge x.1; have := bufB_ge x.2; omega
theorem txtsFw : Fw (fun xs : List Bs => xs.length ≤ 1024 ∧ ∀ x ∈ xs, okTxt 4096 x ∧ 1 ≤ x.length) (fun l p => listP l 1024 5 (textP l 4096) p) (fun xs => beB xs.length 4 ++ xs.flatMap bufB) :=
  Fw.list (P := fun l p => textP l 4096 p) ((textC (m := 4096) (by decide)).fw.less fun x h => h.1) (by decide) (by decide) fun x h => by rw [bufB_len]; have := h.2; omega
end Go.Proofs.YthpjneobmmpbnaaGreatDoor
