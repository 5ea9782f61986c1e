/- The walks that write identities and entries, and lists of them. -/
import Derived.Test.YthpjneobmmpbnaaGreatDoorDJutW2
import Derived.Test.YthpjneobmmpbnaaGreatDoorDAclDec
import Derived.Test.YthpjneobmmpbnaaGreatDoorDOpenS
import Derived.WalkKit
import Derived.Deep.Light
import Derived.Deep.Cut
import Derived.Deep.CutBlock
namespace Go.Proofs.YthpjneobmmpbnaaGreatDoor
open Go.RowKit Go.MapKept Go.Maps
def txtB (s : ByteArray) : Bs := beB s.size 4 ++ s.data.toList
def idB (x : IdV) : Bs := txtB x.1 ++ txtB x.2
def aclB (x : AclV) : Bs := beB (m32 x.1) 4 ++ idB x.2
theorem txtB_len (s : ByteArray) : (txtB s).length = 4 + s.size := by
  rw [txtB, List.length_append, beB_len]; simp
theorem idB_len (x : IdV) : (idB x).length = 8 + x.1.size + x.2.size := by rw [idB, List.length_append, txtB_len, txtB_len]; omega
theorem aclB_len (x : AclV) : (aclB x).length = 12 + x.2.1.size + x.2.2.size := by rw [aclB, List.length_append, beB_len, idB_len]; omega
theorem Kw.heap {wb base : Nat} {w w' : World} {g : Nat} {cs : Array Value} {T : TypeId} {f : Nat × Nat} (h : Kw wb base w w') (hg : w.heap[g]? = some (.cells cs T f)) (hT : T ≠ 5) (hn : g ≠ wb) : w'.heap[g]? = some (.cells cs T f) :=
  h.other g _ hg (fun c e => by injection e with _ e _; exact hT e) hn
theorem Sl.kw {α : Type} [Inhabited α] {w w' : World} {wb base : Nat} {enc : α → List Value} {k n : Nat} {A : Option Addr} {zs : List α} (h : Sl w base enc k A n zs) (hk : Kw wb base w w') (hn : 0 < n → ∀ a, A = some a → a.block ≠ wb) : Sl w' base enc k A n zs :=
  ⟨h.1, fun h0 => by
    obtain ⟨b, off, e, hb, hc⟩ := h.2 h0
    exact ⟨b, off, e, hb, fun j hj i u hu => hk.cell hb (show b ≠ wb from hn h0 _ e) (hc j hj i u hu)⟩⟩
set_option maxRecDepth 100000 in
theorem putId_any (wb base : Nat) (l : Bs) (x : IdV) (w : World) (h : WrB w wb base l) (hn : l.length ≤ 35184372088832) (h1 : x.1.size ≤ 1048576) (h2 : x.2.size ≤ 1048576) :
    Calls Tryz.prog 140 #[.pointer (some ⟨wb, 0, none⟩), .agg #[.string x.1, .string x.2]] w (WrPost (l ++ idB x) wb base w) := by
  obtain ⟨s, t⟩ := x
  dsimp only at h1 h2 ⊢
  have hb1 : Below w.heap.size w (w.alloc (.cells #[.string s, .string t] 108)) := (Below.refl _ w).alloc (Nat.le_refl _) _
  have hlt : w.heap.size ≠ wb := by have := h.lt; have := h.size; omega
  have HW := Lib.hid (h.below hb1)
  have HK := Lib.hid (Kw.of_below (wb := wb) (base := base) hb1)
  have hg := heap_alloc_new w (.cells #[.string s, .string t] 108)
  have HG := Lib.hid hg
  clear h hb1 hg
  go_enter Tryz.func140, Tryz.ntmps140
  go_wp2_with fail
  generalize w.alloc (.cells #[.string s, .string t] 108) = W at *
  refine (wText_any wb base l s W HW.out (by omega) (by omega)).mono ?_
  rintro e w1 ⟨rfl, hw, hk⟩
  have hg1 := hk.heap HG.out (by decide) hlt
  have x1 : w1.cell? ⟨w.heap.size, 1, none⟩ = some (.string t) := by rw [cellH hg1]; rfl
  have HW1 := Lib.hid hw; have HK1 := Lib.hid (HK.out.trans hk)
  have HL := Lib.hid (show (l ++ txtB s).length ≤ 70368744177664 by rw [List.length_append, txtB_len]; omega)
  clear hw hk hg1 HG
  go_wp2_with fail
  refine (wText_any wb base (l ++ txtB s) t w1 HW1.out HL.out (by omega)).mono ?_
  rintro e w2 ⟨rfl, hw, hk⟩
  have HW2 := Lib.hid (show WrB w2 wb base (l ++ idB (s, t)) by rw [idB, ← List.append_assoc]; exact hw)
  have HK2 := Lib.hid (HK1.out.trans hk)
  clear hw hk
  go_wp2_with fail
  refine bodyPost_ret (results_none rfl _ _ _) rfl ?_
  exact ⟨rfl, HW2.out, HK2.out⟩
set_option maxRecDepth 100000 in
theorem putAcl_any (wb base : Nat) (l : Bs) (x : AclV) (w : World) (h : WrB w wb base l) (hn : l.length ≤ 17592186044416) (h1 : x.2.1.size ≤ 1048576) (h2 : x.2.2.size ≤ 1048576) :
    Calls Tryz.prog 139 #[.pointer (some ⟨wb, 0, none⟩), .agg #[.int .i32 x.1, .string x.2.1, .string x.2.2]] w (WrPost (l ++ aclB x) wb base w) := by
  obtain ⟨p, s, t⟩ := x
  dsimp only at h1 h2 ⊢
  have hb1 : Below w.heap.size w (w.alloc (.cells #[.int .i32 p, .string s, .string t] 110)) := (Below.refl _ w).alloc (Nat.le_refl _) _
  have hlt : w.heap.size ≠ wb := by have := h.lt; have := h.size; omega
  have HW := Lib.hid (h.below hb1)
  have HK := Lib.hid (Kw.of_below (wb := wb) (base := base) hb1)
  have hg := heap_alloc_new w (.cells #[.int .i32 p, .string s, .string t] 110)
  have HG := Lib.hid hg
  clear h hb1 hg
  go_enter Tryz.func139, Tryz.ntmps139
  go_wp2_with fail
  generalize w.alloc (.cells #[.int .i32 p, .string s, .string t] 110) = W at *
  refine (wInt_any wb base l p W HW.out (by omega)).mono ?_
  rintro e w1 ⟨rfl, hw, hk⟩
  have hg1 := hk.heap HG.out (by decide) hlt
  have x1 : w1.cell? ⟨w.heap.size, 1, none⟩ = some (.string s) := by rw [cellH hg1]; rfl
  have x2 : w1.cell? ⟨w.heap.size, 2, none⟩ = some (.string t) := by rw [cellH hg1]; rfl
  have HW1 := Lib.hid hw; have HK1 := Lib.hid (HK.out.trans hk)
  have HL := Lib.hid (show (l ++ beB (m32 p) 4).length ≤ 35184372088832 by rw [List.length_append, beB_len]; omega)
  clear hw hk hg1 HG
  go_wp2_with fail
  refine (putId_any wb base (l ++ beB (m32 p) 4) (s, t) w1 HW1.out HL.out h1 h2).mono ?_
  rintro e w2 ⟨rfl, hw, hk⟩
  have HW2 := Lib.hid (show WrB w2 wb base (l ++ aclB (p, s, t)) by rw [aclB, ← List.append_assoc]; exact hw)
  have HK2 := Lib.hid (HK1.out.trans hk)
  clear hw hk
  go_wp2_with fail
  refine bodyPost_ret (results_none rfl _ _ _) rfl ?_
  exact ⟨rfl, HW2.out, HK2.out⟩
theorem flat_small {α : Type} [Inhabited α] (f : α → Bs) (zs : List α) (m : Nat) (h : ∀ j, j < zs.length → (f zs[j]!).length ≤ m) : ∀ k, k ≤ zs.length → ((zs.take k).flatMap f).length ≤ k * m
  | 0, _ => by simp
  | k + 1, hk => by
    have h1 := flat_small f zs m h k (by omega)
    have h2 := h k (by omega)
    rw [List.take_succ_eq_append_getElem (by omega), List.flatMap_append, List.length_append, Nat.succ_mul]
    rw [getElem!_pos zs k (by omega)] at h2
    simp only [List.flatMap_cons, List.flatMap_nil, List.append_nil]
    omega
theorem flat_step {α : Type} [Inhabited α] (f : α → Bs) (zs : List α) {k : Nat} (h : k < zs.length) : (zs.take (k + 1)).flatMap f = (zs.take k).flatMap f ++ f zs[k]! := by
  rw [List.take_succ_eq_append_getElem h, List.flatMap_append, getElem!_pos zs k h]
  simp
/-- a list, some of it written -/
def LPI (wb base n : Nat) (l : Bs) (zs : List IdV) (w : World) (i : Value) (wr : World) : Prop := ∃ k : Nat, i = .int .i64 ↑k ∧ k ≤ n ∧ WrB wr wb base (l ++ beB n 4 ++ (zs.take k).flatMap idB) ∧ Kw wb base w wr
set_option maxRecDepth 100000 in
theorem listI_any (wb base : Nat) (l : Bs) (A : Option Addr) (n c : Nat) (zs : List IdV) (w : World) (h : WrB w wb base l) (hz : Sl w base encId 2 A n zs) (hA : 0 < n → ∀ a, A = some a → a.block ≠ wb) (hl : l.length ≤ 8796093022208) (hn : n ≤ 1048576) (hs : ∀ j, j < n → (zs[j]!.1.size ≤ 1048576 ∧ zs[j]!.2.size ≤ 1048576)) :
    Calls Tryz.prog 141 #[.pointer (some ⟨wb, 0, none⟩), .slice A n c, .func (.func 140) #[] #[]] w (WrPost (l ++ (beB n 4 ++ zs.flatMap idB)) wb base w) := by
  have HZ := Lib.hid hz; have HA := Lib.hid hA; have HS := Lib.hid hs
  have HL := Lib.hid hz.len
  have HC := Lib.hid (wCount_any wb base l n w h (by omega) (by omega))
  have HF := Lib.hid (flat_small idB zs 2097164 (fun j hj => by have h1 := hs j (by rw [hz.len] at hj; exact hj); rw [idB_len]; omega))
  have hq : ∀ w : World, (binOp .eql 159 (.func (.func 140) #[] #[]) .nilFunc).run Tryz.prog w = .ok (.bool false) w := fun w => by kernel_rfl
  clear h hz hA hs
  go_enter Tryz.func141, Tryz.ntmps141
  go_wp2_with fail
  refine HC.out.mono ?_
  rintro e w1 ⟨rfl, hw, hk⟩
  have HW1 := Lib.hid hw; have HK1 := Lib.hid hk
  clear hw hk
  go_wp2_with fail
  go_loopw [16] (fun i wr => LPI wb base n l zs w i wr) (fun i _ => n - (RowKit.intOf i).toNat)
  case atStart => exact ⟨0, rfl, Nat.zero_le _, by rw [List.take_zero, List.flatMap_nil, List.append_nil]; exact HW1.out, HK1.out⟩
  case round =>
    obtain ⟨k, rfl, hk, hw, hkw⟩ := hrel
    have HW := Lib.hid hw; have HK := Lib.hid hkw
    by_cases hkn : k < n
    · have hkn2 : (k : Int) < (n : Int) := by omega
      obtain ⟨b, off, hA, hb, hc⟩ := (HZ.out.kw hkw HA.out).cells hkn
      have HSJ := Lib.hid (HS.out k hkn)
      have HST := Lib.hid (flat_step idB zs (k := k) (by rw [HL.out]; exact hkn))
      have hfl := HF.out k (by rw [HL.out]; exact hk)
      have HLN := Lib.hid (show (l ++ beB n 4 ++ (zs.take k).flatMap idB).length ≤ 17592186044416 by
        rw [List.length_append, List.length_append, beB_len]
        have : k * 2097164 ≤ 1048576 * 2097164 := Nat.mul_le_mul_right _ (by omega)
        omega)
      subst hA
      generalize zs[k]! = z at *
      obtain ⟨s, t⟩ := z
      have c0 : wr.cell? ⟨b, off + k * 2, none⟩ = some (.string s) := hc 0 _ rfl
      have c1 : wr.cell? ⟨b, off + k * 2 + 1, none⟩ = some (.string t) := hc 1 _ rfl
      have hb1 : Below wr.heap.size wr (wr.alloc (.cells #[.string s, .string t] 108)) := (Below.refl _ wr).alloc (Nat.le_refl _) _
      have HW2 := Lib.hid (HW.out.below hb1)
      have HK2 := Lib.hid (HK.out.trans (Kw.of_below hb1))
      clear hw hkw hb1 hc hb hfl
      go_wp2_with fail
      generalize wr.alloc (.cells #[.string s, .string t] 108) = W at *
      refine (putId_any wb base _ (s, t) W HW2.out (Nat.le_trans HLN.out (by decide)) HSJ.out.1 HSJ.out.2).mono ?_
      rintro e w3 ⟨rfl, hw, hkw⟩
      have HW3 := Lib.hid (show WrB w3 wb base (l ++ beB n 4 ++ (zs.take (k + 1)).flatMap idB) by rw [HST.out, ← List.append_assoc]; exact hw)
      have HK3 := Lib.hid (HK2.out.trans hkw)
      clear hw hkw
      go_wp2_with fail
      go_roundw
      case rel => exact ⟨k + 1, by go_num, by omega, HW3.out, HK3.out⟩
      case measure => simp [RowKit.intOf]; omega
    · have hkn2 : ¬ (k : Int) < (n : Int) := by omega
      have hkk : k = n := by omega
      subst hkk
      have HW3 := Lib.hid (show WrB wr wb base (l ++ (beB k 4 ++ zs.flatMap idB)) by
        have h9 := HW.out
        rw [List.take_of_length_le (by rw [HL.out]; exact Nat.le_refl _), List.append_assoc] at h9
        exact h9)
      clear hw hkw
      go_wp2_with fail
      refine bodyPost_ret (results_none rfl _ _ _) rfl ?_
      exact ⟨rfl, HW3.out, HK.out⟩
set_option maxRecDepth 100000 in
theorem aclPutIds_any (wb base : Nat) (l : Bs) (A : Option Addr) (n c : Nat) (zs : List IdV) (w : World) (h : WrB w wb base l) (hz : Sl w base encId 2 A n zs) (hA : 0 < n → ∀ a, A = some a → a.block ≠ wb) (hl : l.length ≤ 8796093022208) (hn : n ≤ 1048576) (hs : ∀ j, j < n → (zs[j]!.1.size ≤ 1048576 ∧ zs[j]!.2.size ≤ 1048576)) :
    Calls Tryz.prog 81 #[.pointer (some ⟨wb, 0, none⟩), .slice A n c] w (WrPost (l ++ (beB n 4 ++ zs.flatMap idB)) wb base w) := by
  have HC := Lib.hid (listI_any wb base l A n c zs w h hz hA hl hn hs)
  clear h hz hA hs
  go_enter Tryz.func81, Tryz.ntmps81
  go_wp2_with fail
  refine HC.out.mono ?_
  rintro e w1 ⟨rfl, hw, hk⟩
  have HW1 := Lib.hid hw; have HK1 := Lib.hid hk
  clear hw hk
  go_wp2_with fail
  refine bodyPost_ret (results_none rfl _ _ _) rfl ?_
  exact ⟨rfl, HW1.out, HK1.out⟩
/-- a list, some of it written -/
def LPA (wb base n : Nat) (l : Bs) (zs : List AclV) (w : World) (i : Value) (wr : World) : Prop := ∃ k : Nat, i = .int .i64 ↑k ∧ k ≤ n ∧ WrB wr wb base (l ++ beB n 4 ++ (zs.take k).flatMap aclB) ∧ Kw wb base w wr
set_option maxRecDepth 100000 in
theorem listA_any (wb base : Nat) (l : Bs) (A : Option Addr) (n c : Nat) (zs : List AclV) (w : World) (h : WrB w wb base l) (hz : Sl w base encAcl 3 A n zs) (hA : 0 < n → ∀ a, A = some a → a.block ≠ wb) (hl : l.length ≤ 8796093022208) (hn : n ≤ 1048576) (hs : ∀ j, j < n → (zs[j]!.2.1.size ≤ 1048576 ∧ zs[j]!.2.2.size ≤ 1048576)) :
    Calls Tryz.prog 138 #[.pointer (some ⟨wb, 0, none⟩), .slice A n c, .func (.func 139) #[] #[]] w (WrPost (l ++ (beB n 4 ++ zs.flatMap aclB)) wb base w) := by
  have HZ := Lib.hid hz; have HA := Lib.hid hA; have HS := Lib.hid hs
  have HL := Lib.hid hz.len
  have HC := Lib.hid (wCount_any wb base l n w h (by omega) (by omega))
  have HF := Lib.hid (flat_small aclB zs 2097164 (fun j hj => by have h1 := hs j (by rw [hz.len] at hj; exact hj); rw [aclB_len]; omega))
  have hq : ∀ w : World, (binOp .eql 160 (.func (.func 139) #[] #[]) .nilFunc).run Tryz.prog w = .ok (.bool false) w := fun w => by kernel_rfl
  clear h hz hA hs
  go_enter Tryz.func138, Tryz.ntmps138
  go_wp2_with fail
  refine HC.out.mono ?_
  rintro e w1 ⟨rfl, hw, hk⟩
  have HW1 := Lib.hid hw; have HK1 := Lib.hid hk
  clear hw hk
  go_wp2_with fail
  go_loopw [16] (fun i wr => LPA wb base n l zs w i wr) (fun i _ => n - (RowKit.intOf i).toNat)
  case atStart => exact ⟨0, rfl, Nat.zero_le _, by rw [List.take_zero, List.flatMap_nil, List.append_nil]; exact HW1.out, HK1.out⟩
  case round =>
    obtain ⟨k, rfl, hk, hw, hkw⟩ := hrel
    have HW := Lib.hid hw; have HK := Lib.hid hkw
    by_cases hkn : k < n
    · have hkn2 : (k : Int) < (n : Int) := by omega
      obtain ⟨b, off, hA, hb, hc⟩ := (HZ.out.kw hkw HA.out).cells hkn
      have HSJ := Lib.hid (HS.out k hkn)
      have HST := Lib.hid (flat_step aclB zs (k := k) (by rw [HL.out]; exact hkn))
      have hfl := HF.out k (by rw [HL.out]; exact hk)
      have HLN := Lib.hid (show (l ++ beB n 4 ++ (zs.take k).flatMap aclB).length ≤ 17592186044416 by
        rw [List.length_append, List.length_append, beB_len]
        have : k * 2097164 ≤ 1048576 * 2097164 := Nat.mul_le_mul_right _ (by omega)
        omega)
      subst hA
      generalize zs[k]! = z at *
      obtain ⟨p, s, t⟩ := z
      have c0 : wr.cell? ⟨b, off + k * 3, none⟩ = some (.int .i32 p) := hc 0 _ rfl
      have c1 : wr.cell? ⟨b, off + k * 3 + 1, none⟩ = some (.string s) := hc 1 _ rfl
      have c2 : wr.cell? ⟨b, off + k * 3 + 2, none⟩ = some (.string t) := hc 2 _ rfl
      have hb1 : Below wr.heap.size wr (wr.alloc (.cells #[.int .i32 p, .string s, .string t] 110)) := (Below.refl _ wr).alloc (Nat.le_refl _) _
      have HW2 := Lib.hid (HW.out.below hb1)
      have HK2 := Lib.hid (HK.out.trans (Kw.of_below hb1))
      clear hw hkw hb1 hc hb hfl
      go_wp2_with fail
      generalize wr.alloc (.cells #[.int .i32 p, .string s, .string t] 110) = W at *
      refine (putAcl_any wb base _ (p, s, t) W HW2.out HLN.out HSJ.out.1 HSJ.out.2).mono ?_
      rintro e w3 ⟨rfl, hw, hkw⟩
      have HW3 := Lib.hid (show WrB w3 wb base (l ++ beB n 4 ++ (zs.take (k + 1)).flatMap aclB) by rw [HST.out, ← List.append_assoc]; exact hw)
      have HK3 := Lib.hid (HK2.out.trans hkw)
      clear hw hkw
      go_wp2_with fail
      go_roundw
      case rel => exact ⟨k + 1, by go_num, by omega, HW3.out, HK3.out⟩
      case measure => simp [RowKit.intOf]; omega
    · have hkn2 : ¬ (k : Int) < (n : Int) := by omega
      have hkk : k = n := by omega
      subst hkk
      have HW3 := Lib.hid (show WrB wr wb base (l ++ (beB k 4 ++ zs.flatMap aclB)) by
        have h9 := HW.out
        rw [List.take_of_length_le (by rw [HL.out]; exact Nat.le_refl _), List.append_assoc] at h9
        exact h9)
      clear hw hkw
      go_wp2_with fail
      refine bodyPost_ret (results_none rfl _ _ _) rfl ?_
      exact ⟨rfl, HW3.out, HK.out⟩
set_option maxRecDepth 100000 in
theorem aclPut_any (wb base : Nat) (l : Bs) (A : Option Addr) (n c : Nat) (zs : List AclV) (w : World) (h : WrB w wb base l) (hz : Sl w base encAcl 3 A n zs) (hA : 0 < n → ∀ a, A = some a → a.block ≠ wb) (hl : l.length ≤ 8796093022208) (hn : n ≤ 1048576) (hs : ∀ j, j < n → (zs[j]!.2.1.size ≤ 1048576 ∧ zs[j]!.2.2.size ≤ 1048576)) :
    Calls Tryz.prog 78 #[.pointer (some ⟨wb, 0, none⟩), .slice A n c] w (WrPost (l ++ (beB n 4 ++ zs.flatMap aclB)) wb base w) := by
  have HC := Lib.hid (listA_any wb base l A n c zs w h hz hA hl hn hs)
  clear h hz hA hs
  go_enter Tryz.func78, Tryz.ntmps78
  go_wp2_with fail
  refine HC.out.mono ?_
  rintro e w1 ⟨rfl, hw, hk⟩
  have HW1 := Lib.hid hw; have HK1 := Lib.hid hk
  clear hw hk
  go_wp2_with fail
  refine bodyPost_ret (results_none rfl _ _ _) rfl ?_
  exact ⟨rfl, HW1.out, HK1.out⟩
end Go.Proofs.YthpjneobmmpbnaaGreatDoor
namespace Go.Proofs.YthpjneobmmpbnaaGreatDoor
open Go.RowKit Go.MapKept
def partB (t : Int) : Bool := decide (t = 1 ∨ t = 2 ∨ t = 5 ∨ t = 7 ∨ t = 13 ∨ t = 120 ∨ t = 121)
def knownB (t : Int) : Bool := partB t || decide (t = 14 ∨ t = -10 ∨ t = -11 ∨ t = -1)
def RetBw (w : World) (b : Bool) (e : Ending) (w' : World) : Prop := e = .returned (.bool b) ∧ w' = w
theorem RetBw.mk {w : World} {a b : Bool} (e : b = a) : RetBw w a (.returned (.bool b)) w := ⟨by rw [e], rfl⟩
theorem part_any (t : Int) (w : World) : Calls Tryz.prog 52 #[.int .i32 t] w (RetBw w (partB t)) := by
  by_cases h : t = 1 ∨ t = 2 ∨ t = 5 ∨ t = 7 ∨ t = 13 ∨ t = 120 ∨ t = 121
  · rcases h with rfl | rfl | rfl | rfl | rfl | rfl | rfl
    all_goals
      go_enter Tryz.func52, Tryz.ntmps52
      go_wp2_with fail
      go_ret
      exact RetBw.mk rfl
  · have H := Lib.hid (show partB t = false from decide_eq_false h)
    have h1 : (t == 1) = false := beq_eq_false_iff_ne.2 fun e => h (by simp [e])
    have h2 : (t == 2) = false := beq_eq_false_iff_ne.2 fun e => h (by simp [e])
    have h3 : (t == 5) = false := beq_eq_false_iff_ne.2 fun e => h (by simp [e])
    have h4 : (t == 7) = false := beq_eq_false_iff_ne.2 fun e => h (by simp [e])
    have h5 : (t == 13) = false := beq_eq_false_iff_ne.2 fun e => h (by simp [e])
    have h6 : (t == 120) = false := beq_eq_false_iff_ne.2 fun e => h (by simp [e])
    have h7 : (t == 121) = false := beq_eq_false_iff_ne.2 fun e => h (by simp [e])
    clear h
    go_enter Tryz.func52, Tryz.ntmps52
    go_wp2_with fail
    go_ret
    exact RetBw.mk H.out.symm
theorem known_any (t : Int) (w : World) : Calls Tryz.prog 50 #[.int .i32 t] w (RetBw w (knownB t)) := by
  have hp := part_any t w
  cases hb : partB t with
  | true =>
    have H := Lib.hid (show knownB t = true by unfold knownB; rw [hb]; rfl)
    rw [hb] at hp
    clear hb
    go_enter Tryz.func50, Tryz.ntmps50
    go_wp2_with (go_at_call 52; refine hp.mono ?_; rintro e w' ⟨rfl, rfl⟩)
    go_ret
    exact RetBw.mk H.out.symm
  | false =>
    rw [hb] at hp
    by_cases h : t = 14 ∨ t = -10 ∨ t = -11 ∨ t = -1
    · have H := Lib.hid (show knownB t = true by unfold knownB; rw [hb, decide_eq_true h]; rfl)
      clear hb
      rcases h with rfl | rfl | rfl | rfl
      all_goals
        go_enter Tryz.func50, Tryz.ntmps50
        go_wp2_with (go_at_call 52; refine hp.mono ?_; rintro e w' ⟨rfl, rfl⟩)
        go_ret
        exact RetBw.mk H.out.symm
    · have H := Lib.hid (show knownB t = false by unfold knownB; rw [hb, decide_eq_false h]; rfl)
      have h1 : (t == 14) = false := beq_eq_false_iff_ne.2 fun e => h (by simp [e])
      have h2 : (t == -10) = false := beq_eq_false_iff_ne.2 fun e => h (by simp [e])
      have h3 : (t == -11) = false := beq_eq_false_iff_ne.2 fun e => h (by simp [e])
      have h4 : (t == -1) = false := beq_eq_false_iff_ne.2 fun e => h (by simp [e])
      clear h hb
      go_enter Tryz.func50, Tryz.ntmps50
      go_wp2_with (go_at_call 52; refine hp.mono ?_; rintro e w' ⟨rfl, rfl⟩)
      go_ret
      exact RetBw.mk H.out.symm
def nilS : SlC := (none, 0, 0)
/-- a transaction with those of its fields that its type has -/
def keptH (h : TxH) : TxH :=
  ⟨⟨h.n.ty, if h.n.ty = 14 ∨ h.n.ty = -10 ∨ h.n.ty = -11 ∨ h.n.ty = -1 then ⟨#[]⟩ else h.n.path, if h.n.ty = 1 then h.n.ow else 0, if h.n.ty = 5 ∨ h.n.ty = 7 ∨ h.n.ty = 13 then h.n.ve else 0, if h.n.ty = 1 then h.n.cr else 0,
    if h.n.ty = 120 then h.n.qh else false, if h.n.ty = 120 then h.n.qc else 0, if h.n.ty = 120 then h.n.qb else 0, if h.n.ty = -10 then h.n.si else 0, if h.n.ty = -10 then h.n.st else 0, if h.n.ty = -1 then h.n.co else 0⟩,
    if h.n.ty = 1 ∨ h.n.ty = 5 then h.d else nilS, if h.n.ty = 1 ∨ h.n.ty = 7 then h.a else nilS, if h.n.ty = -10 then h.i else nilS, if h.n.ty = -11 then h.p else nilS, if h.n.ty = 14 then h.s else nilS⟩
def KeptP (h : TxH) (w : World) (e : Ending) (w' : World) : Prop := e = .returned (txV (keptH h)) ∧ Below w.heap.size w w'
theorem KeptP.mk {h h' : TxH} {w w' : World} (e : keptH h = h') (hb : Below w.heap.size w w') : KeptP h w (.returned (txV h')) w' := ⟨by rw [e], hb⟩
theorem three_below (w : World) (a b c : Obj) : Below w.heap.size w (((w.alloc a).alloc b).alloc c) := (((Below.refl _ w).alloc (Nat.le_refl _) _).alloc (by simp) _).alloc (by simp; omega) _
set_option maxRecDepth 100000 in
theorem kept_14 (h : TxH) (w : World) (ht : h.n.ty = 14) : Calls Tryz.prog 161 #[txV h] w (KeptP h w) := by
  have e0 : (h.n.ty == 14) = true := by rw [ht]; rfl
  have e1 : (h.n.ty == -10) = false := by rw [ht]; rfl
  have e2 : (h.n.ty == -11) = false := by rw [ht]; rfl
  have e3 : (h.n.ty == -1) = false := by rw [ht]; rfl
  have e4 : (h.n.ty == 1) = false := by rw [ht]; rfl
  have e5 : (h.n.ty == 5) = false := by rw [ht]; rfl
  have e6 : (h.n.ty == 7) = false := by rw [ht]; rfl
  have e7 : (h.n.ty == 13) = false := by rw [ht]; rfl
  have e8 : (h.n.ty == 120) = false := by rw [ht]; rfl
  have HK := Lib.hid (show keptH h = ⟨⟨h.n.ty, ⟨#[]⟩, 0, 0, 0, false, 0, 0, 0, 0, 0⟩, nilS, nilS, nilS, nilS, h.s⟩ by simp [keptH, ht])
  clear ht
  unfold txV
  go_enter Tryz.func161, Tryz.ntmps161
  go_wp2_with (first
    | (apply wpList_storeTop 33 33; exact rfl; exact rfl; exact rfl; (first | (with_reducible rfl) | (exact sz1 _ _) | (exact sz2 _ _ _) | (exact sz3 _ _ _ _)); exact rfl; exact infTx; exact rfl; simp [Value.oneCell'])
    | (apply wpList_loadRow 33 33; exact rfl; exact rfl; exact rfl; (first | assumption | (exact heap_s0 _ _) | (exact heap_s1 _ _ _) | (exact heap_s2 _ _ _ _) | (exact heap_s3 _ _ _ _ _) | (exact heap_under (heap_s0 _ _)) | (exact heap_under (heap_s1 _ _ _)) | (exact heap_under (heap_s2 _ _ _ _)) | (exact heap_under (heap_under (heap_s0 _ _))) | (exact heap_under (heap_under (heap_s1 _ _ _))) | (exact heap_under (heap_under (heap_under (heap_s0 _ _))))); exact undTx; exact rfl; exact infTx)
    | (apply wpList_storeRow 33 33; exact rfl; exact rfl; exact rfl; exact rfl; (first | assumption | (exact heap_s0 _ _) | (exact heap_s1 _ _ _) | (exact heap_s2 _ _ _ _) | (exact heap_s3 _ _ _ _ _) | (exact heap_under (heap_s0 _ _)) | (exact heap_under (heap_s1 _ _ _)) | (exact heap_under (heap_s2 _ _ _ _)) | (exact heap_under (heap_under (heap_s0 _ _))) | (exact heap_under (heap_under (heap_s1 _ _ _))) | (exact heap_under (heap_under (heap_under (heap_s0 _ _))))); exact infTx; exact rfl; simp [Value.oneCell'])
    | fail)
  all_goals
    (try simp only [Exit.inBlock, Exit.then])
    exact bodyPost_cell rfl rfl (setRow_heap _ _ _ _ _ _ (by first | assumption | (exact heap_under (heap_s1 _ _ _)))) undTx rfl infTx rfl (KeptP.mk HK.out (below_setRow (three_below w _ _ _) (by omega) _))
set_option maxRecDepth 100000 in
theorem kept_m10 (h : TxH) (w : World) (ht : h.n.ty = -10) : Calls Tryz.prog 161 #[txV h] w (KeptP h w) := by
  have e0 : (h.n.ty == 14) = false := by rw [ht]; rfl
  have e1 : (h.n.ty == -10) = true := by rw [ht]; rfl
  have e2 : (h.n.ty == -11) = false := by rw [ht]; rfl
  have e3 : (h.n.ty == -1) = false := by rw [ht]; rfl
  have e4 : (h.n.ty == 1) = false := by rw [ht]; rfl
  have e5 : (h.n.ty == 5) = false := by rw [ht]; rfl
  have e6 : (h.n.ty == 7) = false := by rw [ht]; rfl
  have e7 : (h.n.ty == 13) = false := by rw [ht]; rfl
  have e8 : (h.n.ty == 120) = false := by rw [ht]; rfl
  have HK := Lib.hid (show keptH h = ⟨⟨h.n.ty, ⟨#[]⟩, 0, 0, 0, false, 0, 0, h.n.si, h.n.st, 0⟩, nilS, nilS, h.i, nilS, nilS⟩ by simp [keptH, ht])
  clear ht
  unfold txV
  go_enter Tryz.func161, Tryz.ntmps161
  go_wp2_with (first
    | (apply wpList_storeTop 33 33; exact rfl; exact rfl; exact rfl; (first | (with_reducible rfl) | (exact sz1 _ _) | (exact sz2 _ _ _) | (exact sz3 _ _ _ _)); exact rfl; exact infTx; exact rfl; simp [Value.oneCell'])
    | (apply wpList_loadRow 33 33; exact rfl; exact rfl; exact rfl; (first | assumption | (exact heap_s0 _ _) | (exact heap_s1 _ _ _) | (exact heap_s2 _ _ _ _) | (exact heap_s3 _ _ _ _ _) | (exact heap_under (heap_s0 _ _)) | (exact heap_under (heap_s1 _ _ _)) | (exact heap_under (heap_s2 _ _ _ _)) | (exact heap_under (heap_under (heap_s0 _ _))) | (exact heap_under (heap_under (heap_s1 _ _ _))) | (exact heap_under (heap_under (heap_under (heap_s0 _ _))))); exact undTx; exact rfl; exact infTx)
    | (apply wpList_storeRow 33 33; exact rfl; exact rfl; exact rfl; exact rfl; (first | assumption | (exact heap_s0 _ _) | (exact heap_s1 _ _ _) | (exact heap_s2 _ _ _ _) | (exact heap_s3 _ _ _ _ _) | (exact heap_under (heap_s0 _ _)) | (exact heap_under (heap_s1 _ _ _)) | (exact heap_under (heap_s2 _ _ _ _)) | (exact heap_under (heap_under (heap_s0 _ _))) | (exact heap_under (heap_under (heap_s1 _ _ _))) | (exact heap_under (heap_under (heap_under (heap_s0 _ _))))); exact infTx; exact rfl; simp [Value.oneCell'])
    | fail)
  all_goals
    (try simp only [Exit.inBlock, Exit.then])
    exact bodyPost_cell rfl rfl (setRow_heap _ _ _ _ _ _ (by first | assumption | (exact heap_under (heap_s1 _ _ _)))) undTx rfl infTx rfl (KeptP.mk HK.out (below_setRow (three_below w _ _ _) (by omega) _))
set_option maxRecDepth 100000 in
theorem kept_m11 (h : TxH) (w : World) (ht : h.n.ty = -11) : Calls Tryz.prog 161 #[txV h] w (KeptP h w) := by
  have e0 : (h.n.ty == 14) = false := by rw [ht]; rfl
  have e1 : (h.n.ty == -10) = false := by rw [ht]; rfl
  have e2 : (h.n.ty == -11) = true := by rw [ht]; rfl
  have e3 : (h.n.ty == -1) = false := by rw [ht]; rfl
  have e4 : (h.n.ty == 1) = false := by rw [ht]; rfl
  have e5 : (h.n.ty == 5) = false := by rw [ht]; rfl
  have e6 : (h.n.ty == 7) = false := by rw [ht]; rfl
  have e7 : (h.n.ty == 13) = false := by rw [ht]; rfl
  have e8 : (h.n.ty == 120) = false := by rw [ht]; rfl
  have HK := Lib.hid (show keptH h = ⟨⟨h.n.ty, ⟨#[]⟩, 0, 0, 0, false, 0, 0, 0, 0, 0⟩, nilS, nilS, nilS, h.p, nilS⟩ by simp [keptH, ht])
  clear ht
  unfold txV
  go_enter Tryz.func161, Tryz.ntmps161
  go_wp2_with (first
    | (apply wpList_storeTop 33 33; exact rfl; exact rfl; exact rfl; (first | (with_reducible rfl) | (exact sz1 _ _) | (exact sz2 _ _ _) | (exact sz3 _ _ _ _)); exact rfl; exact infTx; exact rfl; simp [Value.oneCell'])
    | (apply wpList_loadRow 33 33; exact rfl; exact rfl; exact rfl; (first | assumption | (exact heap_s0 _ _) | (exact heap_s1 _ _ _) | (exact heap_s2 _ _ _ _) | (exact heap_s3 _ _ _ _ _) | (exact heap_under (heap_s0 _ _)) | (exact heap_under (heap_s1 _ _ _)) | (exact heap_under (heap_s2 _ _ _ _)) | (exact heap_under (heap_under (heap_s0 _ _))) | (exact heap_under (heap_under (heap_s1 _ _ _))) | (exact heap_under (heap_under (heap_under (heap_s0 _ _))))); exact undTx; exact rfl; exact infTx)
    | (apply wpList_storeRow 33 33; exact rfl; exact rfl; exact rfl; exact rfl; (first | assumption | (exact heap_s0 _ _) | (exact heap_s1 _ _ _) | (exact heap_s2 _ _ _ _) | (exact heap_s3 _ _ _ _ _) | (exact heap_under (heap_s0 _ _)) | (exact heap_under (heap_s1 _ _ _)) | (exact heap_under (heap_s2 _ _ _ _)) | (exact heap_under (heap_under (heap_s0 _ _))) | (exact heap_under (heap_under (heap_s1 _ _ _))) | (exact heap_under (heap_under (heap_under (heap_s0 _ _))))); exact infTx; exact rfl; simp [Value.oneCell'])
    | fail)
  all_goals
    (try simp only [Exit.inBlock, Exit.then])
    exact bodyPost_cell rfl rfl (setRow_heap _ _ _ _ _ _ (by first | assumption | (exact heap_under (heap_s1 _ _ _)))) undTx rfl infTx rfl (KeptP.mk HK.out (below_setRow (three_below w _ _ _) (by omega) _))
set_option maxRecDepth 100000 in
theorem kept_m1 (h : TxH) (w : World) (ht : h.n.ty = -1) : Calls Tryz.prog 161 #[txV h] w (KeptP h w) := by
  have e0 : (h.n.ty == 14) = false := by rw [ht]; rfl
  have e1 : (h.n.ty == -10) = false := by rw [ht]; rfl
  have e2 : (h.n.ty == -11) = false := by rw [ht]; rfl
  have e3 : (h.n.ty == -1) = true := by rw [ht]; rfl
  have e4 : (h.n.ty == 1) = false := by rw [ht]; rfl
  have e5 : (h.n.ty == 5) = false := by rw [ht]; rfl
  have e6 : (h.n.ty == 7) = false := by rw [ht]; rfl
  have e7 : (h.n.ty == 13) = false := by rw [ht]; rfl
  have e8 : (h.n.ty == 120) = false := by rw [ht]; rfl
  have HK := Lib.hid (show keptH h = ⟨⟨h.n.ty, ⟨#[]⟩, 0, 0, 0, false, 0, 0, 0, 0, h.n.co⟩, nilS, nilS, nilS, nilS, nilS⟩ by simp [keptH, ht])
  clear ht
  unfold txV
  go_enter Tryz.func161, Tryz.ntmps161
  go_wp2_with (first
    | (apply wpList_storeTop 33 33; exact rfl; exact rfl; exact rfl; (first | (with_reducible rfl) | (exact sz1 _ _) | (exact sz2 _ _ _) | (exact sz3 _ _ _ _)); exact rfl; exact infTx; exact rfl; simp [Value.oneCell'])
    | (apply wpList_loadRow 33 33; exact rfl; exact rfl; exact rfl; (first | assumption | (exact heap_s0 _ _) | (exact heap_s1 _ _ _) | (exact heap_s2 _ _ _ _) | (exact heap_s3 _ _ _ _ _) | (exact heap_under (heap_s0 _ _)) | (exact heap_under (heap_s1 _ _ _)) | (exact heap_under (heap_s2 _ _ _ _)) | (exact heap_under (heap_under (heap_s0 _ _))) | (exact heap_under (heap_under (heap_s1 _ _ _))) | (exact heap_under (heap_under (heap_under (heap_s0 _ _))))); exact undTx; exact rfl; exact infTx)
    | (apply wpList_storeRow 33 33; exact rfl; exact rfl; exact rfl; exact rfl; (first | assumption | (exact heap_s0 _ _) | (exact heap_s1 _ _ _) | (exact heap_s2 _ _ _ _) | (exact heap_s3 _ _ _ _ _) | (exact heap_under (heap_s0 _ _)) | (exact heap_under (heap_s1 _ _ _)) | (exact heap_under (heap_s2 _ _ _ _)) | (exact heap_under (heap_under (heap_s0 _ _))) | (exact heap_under (heap_under (heap_s1 _ _ _))) | (exact heap_under (heap_under (heap_under (heap_s0 _ _))))); exact infTx; exact rfl; simp [Value.oneCell'])
    | fail)
  all_goals
    (try simp only [Exit.inBlock, Exit.then])
    exact bodyPost_cell rfl rfl (setRow_heap _ _ _ _ _ _ (by first | assumption | (exact heap_under (heap_s1 _ _ _)))) undTx rfl infTx rfl (KeptP.mk HK.out (below_setRow (three_below w _ _ _) (by omega) _))
set_option maxRecDepth 100000 in
set_option maxHeartbeats 4000000 in
theorem kept_1 (h : TxH) (w : World) (ht : h.n.ty = 1) : Calls Tryz.prog 161 #[txV h] w (KeptP h w) := by
  have e0 : (h.n.ty == 14) = false := by rw [ht]; rfl
  have e1 : (h.n.ty == -10) = false := by rw [ht]; rfl
  have e2 : (h.n.ty == -11) = false := by rw [ht]; rfl
  have e3 : (h.n.ty == -1) = false := by rw [ht]; rfl
  have e4 : (h.n.ty == 1) = true := by rw [ht]; rfl
  have e5 : (h.n.ty == 5) = false := by rw [ht]; rfl
  have e6 : (h.n.ty == 7) = false := by rw [ht]; rfl
  have e7 : (h.n.ty == 13) = false := by rw [ht]; rfl
  have e8 : (h.n.ty == 120) = false := by rw [ht]; rfl
  have HK := Lib.hid (show keptH h = ⟨⟨h.n.ty, h.n.path, h.n.ow, 0, h.n.cr, false, 0, 0, 0, 0, 0⟩, h.d, h.a, nilS, nilS, nilS⟩ by simp [keptH, ht])
  clear ht
  unfold txV
  go_enter Tryz.func161, Tryz.ntmps161
  go_upto_block 1 with (first | (apply wpList_storeTop 33 33; exact rfl; exact rfl; exact rfl; (first | (with_reducible rfl) | (exact sz1 _ _) | (exact sz2 _ _ _) | (exact sz3 _ _ _ _)); exact rfl; exact infTx; exact rfl; simp [Value.oneCell']) | fail)
  go_cut [38] from 39 to 77 (fun _ wx => ∃ q, wx = (((w.alloc (.cells #[.int .i32 h.n.ty, .string h.n.path, slV h.d, slV h.a, .int .i64 h.n.ow, .int .i32 h.n.ve, .int .i32 h.n.cr, .bool h.n.qh, .int .i64 h.n.qc, .int .i64 h.n.qb, .int .i64 h.n.si, .int .i32 h.n.st, slV h.i, slV h.p, .int .i32 h.n.co, slV h.s] 33)).alloc (.cells #[.int .i32 0, .string ⟨#[]⟩, .slice none 0 0, .slice none 0 0, .int .i64 0, .int .i32 0, .int .i32 0, .bool false, .int .i64 0, .int .i64 0, .int .i64 0, .int .i32 0, .slice none 0 0, .slice none 0 0, .int .i32 0, .slice none 0 0] 33)).alloc (.cells #[.int .i32 h.n.ty, .string h.n.path, .slice h.d.1 h.d.2.1 h.d.2.2, .slice h.a.1 h.a.2.1 h.a.2.2, .int .i64 h.n.ow, .int .i32 0, .int .i32 h.n.cr, .bool false, .int .i64 0, .int .i64 0, .int .i64 0, .int .i32 0, .slice none 0 0, .slice none 0 0, .int .i32 0, .slice none 0 0] 33)).drewN q)
  case first =>
    go_wp2_with fail
    go_region
    all_goals go_wp2_with fail
    all_goals go_meet
    all_goals exact ⟨_, rfl⟩
  case rest =>
  obtain ⟨q, rfl⟩ := hcut
  have g1 : ((((w.alloc (.cells #[.int .i32 h.n.ty, .string h.n.path, slV h.d, slV h.a, .int .i64 h.n.ow, .int .i32 h.n.ve, .int .i32 h.n.cr, .bool h.n.qh, .int .i64 h.n.qc, .int .i64 h.n.qb, .int .i64 h.n.si, .int .i32 h.n.st, slV h.i, slV h.p, .int .i32 h.n.co, slV h.s] 33)).alloc (.cells #[.int .i32 0, .string ⟨#[]⟩, .slice none 0 0, .slice none 0 0, .int .i64 0, .int .i32 0, .int .i32 0, .bool false, .int .i64 0, .int .i64 0, .int .i64 0, .int .i32 0, .slice none 0 0, .slice none 0 0, .int .i32 0, .slice none 0 0] 33)).alloc (.cells #[.int .i32 h.n.ty, .string h.n.path, .slice h.d.1 h.d.2.1 h.d.2.2, .slice h.a.1 h.a.2.1 h.a.2.2, .int .i64 h.n.ow, .int .i32 0, .int .i32 h.n.cr, .bool false, .int .i64 0, .int .i64 0, .int .i64 0, .int .i32 0, .slice none 0 0, .slice none 0 0, .int .i32 0, .slice none 0 0] 33)).drewN q).heap[w.heap.size + 1]? = some (.cells #[.int .i32 0, .string ⟨#[]⟩, .slice none 0 0, .slice none 0 0, .int .i64 0, .int .i32 0, .int .i32 0, .bool false, .int .i64 0, .int .i64 0, .int .i64 0, .int .i32 0, .slice none 0 0, .slice none 0 0, .int .i32 0, .slice none 0 0] 33) := heap_under (heap_s1 w _ _)
  have g2 : ((((w.alloc (.cells #[.int .i32 h.n.ty, .string h.n.path, slV h.d, slV h.a, .int .i64 h.n.ow, .int .i32 h.n.ve, .int .i32 h.n.cr, .bool h.n.qh, .int .i64 h.n.qc, .int .i64 h.n.qb, .int .i64 h.n.si, .int .i32 h.n.st, slV h.i, slV h.p, .int .i32 h.n.co, slV h.s] 33)).alloc (.cells #[.int .i32 0, .string ⟨#[]⟩, .slice none 0 0, .slice none 0 0, .int .i64 0, .int .i32 0, .int .i32 0, .bool false, .int .i64 0, .int .i64 0, .int .i64 0, .int .i32 0, .slice none 0 0, .slice none 0 0, .int .i32 0, .slice none 0 0] 33)).alloc (.cells #[.int .i32 h.n.ty, .string h.n.path, .slice h.d.1 h.d.2.1 h.d.2.2, .slice h.a.1 h.a.2.1 h.a.2.2, .int .i64 h.n.ow, .int .i32 0, .int .i32 h.n.cr, .bool false, .int .i64 0, .int .i64 0, .int .i64 0, .int .i32 0, .slice none 0 0, .slice none 0 0, .int .i32 0, .slice none 0 0] 33)).drewN q).heap[w.heap.size + 1 + 1]? = some (.cells #[.int .i32 h.n.ty, .string h.n.path, .slice h.d.1 h.d.2.1 h.d.2.2, .slice h.a.1 h.a.2.1 h.a.2.2, .int .i64 h.n.ow, .int .i32 0, .int .i32 h.n.cr, .bool false, .int .i64 0, .int .i64 0, .int .i64 0, .int .i32 0, .slice none 0 0, .slice none 0 0, .int .i32 0, .slice none 0 0] 33) := heap_s2 w _ _ _
  have HB := Lib.hid (show Below w.heap.size w ((((w.alloc (.cells #[.int .i32 h.n.ty, .string h.n.path, slV h.d, slV h.a, .int .i64 h.n.ow, .int .i32 h.n.ve, .int .i32 h.n.cr, .bool h.n.qh, .int .i64 h.n.qc, .int .i64 h.n.qb, .int .i64 h.n.si, .int .i32 h.n.st, slV h.i, slV h.p, .int .i32 h.n.co, slV h.s] 33)).alloc (.cells #[.int .i32 0, .string ⟨#[]⟩, .slice none 0 0, .slice none 0 0, .int .i64 0, .int .i32 0, .int .i32 0, .bool false, .int .i64 0, .int .i64 0, .int .i64 0, .int .i32 0, .slice none 0 0, .slice none 0 0, .int .i32 0, .slice none 0 0] 33)).alloc (.cells #[.int .i32 h.n.ty, .string h.n.path, .slice h.d.1 h.d.2.1 h.d.2.2, .slice h.a.1 h.a.2.1 h.a.2.2, .int .i64 h.n.ow, .int .i32 0, .int .i32 h.n.cr, .bool false, .int .i64 0, .int .i64 0, .int .i64 0, .int .i32 0, .slice none 0 0, .slice none 0 0, .int .i32 0, .slice none 0 0] 33)).drewN q) from drewN_below (three_below w _ _ _) q)
  generalize (((w.alloc (.cells #[.int .i32 h.n.ty, .string h.n.path, slV h.d, slV h.a, .int .i64 h.n.ow, .int .i32 h.n.ve, .int .i32 h.n.cr, .bool h.n.qh, .int .i64 h.n.qc, .int .i64 h.n.qb, .int .i64 h.n.si, .int .i32 h.n.st, slV h.i, slV h.p, .int .i32 h.n.co, slV h.s] 33)).alloc (.cells #[.int .i32 0, .string ⟨#[]⟩, .slice none 0 0, .slice none 0 0, .int .i64 0, .int .i32 0, .int .i32 0, .bool false, .int .i64 0, .int .i64 0, .int .i64 0, .int .i32 0, .slice none 0 0, .slice none 0 0, .int .i32 0, .slice none 0 0] 33)).alloc (.cells #[.int .i32 h.n.ty, .string h.n.path, .slice h.d.1 h.d.2.1 h.d.2.2, .slice h.a.1 h.a.2.1 h.a.2.2, .int .i64 h.n.ow, .int .i32 0, .int .i32 h.n.cr, .bool false, .int .i64 0, .int .i64 0, .int .i64 0, .int .i32 0, .slice none 0 0, .slice none 0 0, .int .i32 0, .slice none 0 0] 33)).drewN q = V at *
  go_wp2_with (first
    | (apply wpList_storeTop 33 33; exact rfl; exact rfl; exact rfl; (first | (with_reducible rfl) | (exact sz1 _ _) | (exact sz2 _ _ _) | (exact sz3 _ _ _ _)); exact rfl; exact infTx; exact rfl; simp [Value.oneCell'])
    | (apply wpList_loadRow 33 33; exact rfl; exact rfl; exact rfl; (first | assumption | (exact heap_s0 _ _) | (exact heap_s1 _ _ _) | (exact heap_s2 _ _ _ _) | (exact heap_s3 _ _ _ _ _) | (exact heap_under (heap_s0 _ _)) | (exact heap_under (heap_s1 _ _ _)) | (exact heap_under (heap_s2 _ _ _ _)) | (exact heap_under (heap_under (heap_s0 _ _))) | (exact heap_under (heap_under (heap_s1 _ _ _))) | (exact heap_under (heap_under (heap_under (heap_s0 _ _))))); exact undTx; exact rfl; exact infTx)
    | (apply wpList_storeRow 33 33; exact rfl; exact rfl; exact rfl; exact rfl; (first | assumption | (exact heap_s0 _ _) | (exact heap_s1 _ _ _) | (exact heap_s2 _ _ _ _) | (exact heap_s3 _ _ _ _ _) | (exact heap_under (heap_s0 _ _)) | (exact heap_under (heap_s1 _ _ _)) | (exact heap_under (heap_s2 _ _ _ _)) | (exact heap_under (heap_under (heap_s0 _ _))) | (exact heap_under (heap_under (heap_s1 _ _ _))) | (exact heap_under (heap_under (heap_under (heap_s0 _ _))))); exact infTx; exact rfl; simp [Value.oneCell'])
    | fail)
  all_goals
    (try simp only [Exit.inBlock, Exit.then])
    exact bodyPost_cell rfl rfl (setRow_heap _ _ _ _ _ _ (by first | assumption | (exact heap_under (heap_s1 _ _ _)))) undTx rfl infTx rfl (KeptP.mk HK.out (below_setRow HB.out (by omega) _))
set_option maxRecDepth 100000 in
theorem kept_5 (h : TxH) (w : World) (ht : h.n.ty = 5) : Calls Tryz.prog 161 #[txV h] w (KeptP h w) := by
  have e0 : (h.n.ty == 14) = false := by rw [ht]; rfl
  have e1 : (h.n.ty == -10) = false := by rw [ht]; rfl
  have e2 : (h.n.ty == -11) = false := by rw [ht]; rfl
  have e3 : (h.n.ty == -1) = false := by rw [ht]; rfl
  have e4 : (h.n.ty == 1) = false := by rw [ht]; rfl
  have e5 : (h.n.ty == 5) = true := by rw [ht]; rfl
  have e6 : (h.n.ty == 7) = false := by rw [ht]; rfl
  have e7 : (h.n.ty == 13) = false := by rw [ht]; rfl
  have e8 : (h.n.ty == 120) = false := by rw [ht]; rfl
  have HK := Lib.hid (show keptH h = ⟨⟨h.n.ty, h.n.path, 0, h.n.ve, 0, false, 0, 0, 0, 0, 0⟩, h.d, nilS, nilS, nilS, nilS⟩ by simp [keptH, ht])
  clear ht
  unfold txV
  go_enter Tryz.func161, Tryz.ntmps161
  go_upto_block 1 with (first | (apply wpList_storeTop 33 33; exact rfl; exact rfl; exact rfl; (first | (with_reducible rfl) | (exact sz1 _ _) | (exact sz2 _ _ _) | (exact sz3 _ _ _ _)); exact rfl; exact infTx; exact rfl; simp [Value.oneCell']) | fail)
  go_cut [38] from 39 to 77 (fun _ wx => ∃ q, wx = (((w.alloc (.cells #[.int .i32 h.n.ty, .string h.n.path, slV h.d, slV h.a, .int .i64 h.n.ow, .int .i32 h.n.ve, .int .i32 h.n.cr, .bool h.n.qh, .int .i64 h.n.qc, .int .i64 h.n.qb, .int .i64 h.n.si, .int .i32 h.n.st, slV h.i, slV h.p, .int .i32 h.n.co, slV h.s] 33)).alloc (.cells #[.int .i32 0, .string ⟨#[]⟩, .slice none 0 0, .slice none 0 0, .int .i64 0, .int .i32 0, .int .i32 0, .bool false, .int .i64 0, .int .i64 0, .int .i64 0, .int .i32 0, .slice none 0 0, .slice none 0 0, .int .i32 0, .slice none 0 0] 33)).alloc (.cells #[.int .i32 h.n.ty, .string h.n.path, .slice h.d.1 h.d.2.1 h.d.2.2, .slice none 0 0, .int .i64 0, .int .i32 h.n.ve, .int .i32 0, .bool false, .int .i64 0, .int .i64 0, .int .i64 0, .int .i32 0, .slice none 0 0, .slice none 0 0, .int .i32 0, .slice none 0 0] 33)).drewN q)
  case first =>
    go_wp2_with fail
    go_region
    all_goals go_wp2_with fail
    all_goals go_meet
    all_goals exact ⟨_, rfl⟩
  case rest =>
  obtain ⟨q, rfl⟩ := hcut
  have g1 : ((((w.alloc (.cells #[.int .i32 h.n.ty, .string h.n.path, slV h.d, slV h.a, .int .i64 h.n.ow, .int .i32 h.n.ve, .int .i32 h.n.cr, .bool h.n.qh, .int .i64 h.n.qc, .int .i64 h.n.qb, .int .i64 h.n.si, .int .i32 h.n.st, slV h.i, slV h.p, .int .i32 h.n.co, slV h.s] 33)).alloc (.cells #[.int .i32 0, .string ⟨#[]⟩, .slice none 0 0, .slice none 0 0, .int .i64 0, .int .i32 0, .int .i32 0, .bool false, .int .i64 0, .int .i64 0, .int .i64 0, .int .i32 0, .slice none 0 0, .slice none 0 0, .int .i32 0, .slice none 0 0] 33)).alloc (.cells #[.int .i32 h.n.ty, .string h.n.path, .slice h.d.1 h.d.2.1 h.d.2.2, .slice none 0 0, .int .i64 0, .int .i32 h.n.ve, .int .i32 0, .bool false, .int .i64 0, .int .i64 0, .int .i64 0, .int .i32 0, .slice none 0 0, .slice none 0 0, .int .i32 0, .slice none 0 0] 33)).drewN q).heap[w.heap.size + 1]? = some (.cells #[.int .i32 0, .string ⟨#[]⟩, .slice none 0 0, .slice none 0 0, .int .i64 0, .int .i32 0, .int .i32 0, .bool false, .int .i64 0, .int .i64 0, .int .i64 0, .int .i32 0, .slice none 0 0, .slice none 0 0, .int .i32 0, .slice none 0 0] 33) := heap_under (heap_s1 w _ _)
  have g2 : ((((w.alloc (.cells #[.int .i32 h.n.ty, .string h.n.path, slV h.d, slV h.a, .int .i64 h.n.ow, .int .i32 h.n.ve, .int .i32 h.n.cr, .bool h.n.qh, .int .i64 h.n.qc, .int .i64 h.n.qb, .int .i64 h.n.si, .int .i32 h.n.st, slV h.i, slV h.p, .int .i32 h.n.co, slV h.s] 33)).alloc (.cells #[.int .i32 0, .string ⟨#[]⟩, .slice none 0 0, .slice none 0 0, .int .i64 0, .int .i32 0, .int .i32 0, .bool false, .int .i64 0, .int .i64 0, .int .i64 0, .int .i32 0, .slice none 0 0, .slice none 0 0, .int .i32 0, .slice none 0 0] 33)).alloc (.cells #[.int .i32 h.n.ty, .string h.n.path, .slice h.d.1 h.d.2.1 h.d.2.2, .slice none 0 0, .int .i64 0, .int .i32 h.n.ve, .int .i32 0, .bool false, .int .i64 0, .int .i64 0, .int .i64 0, .int .i32 0, .slice none 0 0, .slice none 0 0, .int .i32 0, .slice none 0 0] 33)).drewN q).heap[w.heap.size + 1 + 1]? = some (.cells #[.int .i32 h.n.ty, .string h.n.path, .slice h.d.1 h.d.2.1 h.d.2.2, .slice none 0 0, .int .i64 0, .int .i32 h.n.ve, .int .i32 0, .bool false, .int .i64 0, .int .i64 0, .int .i64 0, .int .i32 0, .slice none 0 0, .slice none 0 0, .int .i32 0, .slice none 0 0] 33) := heap_s2 w _ _ _
  have HB := Lib.hid (show Below w.heap.size w ((((w.alloc (.cells #[.int .i32 h.n.ty, .string h.n.path, slV h.d, slV h.a, .int .i64 h.n.ow, .int .i32 h.n.ve, .int .i32 h.n.cr, .bool h.n.qh, .int .i64 h.n.qc, .int .i64 h.n.qb, .int .i64 h.n.si, .int .i32 h.n.st, slV h.i, slV h.p, .int .i32 h.n.co, slV h.s] 33)).alloc (.cells #[.int .i32 0, .string ⟨#[]⟩, .slice none 0 0, .slice none 0 0, .int .i64 0, .int .i32 0, .int .i32 0, .bool false, .int .i64 0, .int .i64 0, .int .i64 0, .int .i32 0, .slice none 0 0, .slice none 0 0, .int .i32 0, .slice none 0 0] 33)).alloc (.cells #[.int .i32 h.n.ty, .string h.n.path, .slice h.d.1 h.d.2.1 h.d.2.2, .slice none 0 0, .int .i64 0, .int .i32 h.n.ve, .int .i32 0, .bool false, .int .i64 0, .int .i64 0, .int .i64 0, .int .i32 0, .slice none 0 0, .slice none 0 0, .int .i32 0, .slice none 0 0] 33)).drewN q) from drewN_below (three_below w _ _ _) q)
  generalize (((w.alloc (.cells #[.int .i32 h.n.ty, .string h.n.path, slV h.d, slV h.a, .int .i64 h.n.ow, .int .i32 h.n.ve, .int .i32 h.n.cr, .bool h.n.qh, .int .i64 h.n.qc, .int .i64 h.n.qb, .int .i64 h.n.si, .int .i32 h.n.st, slV h.i, slV h.p, .int .i32 h.n.co, slV h.s] 33)).alloc (.cells #[.int .i32 0, .string ⟨#[]⟩, .slice none 0 0, .slice none 0 0, .int .i64 0, .int .i32 0, .int .i32 0, .bool false, .int .i64 0, .int .i64 0, .int .i64 0, .int .i32 0, .slice none 0 0, .slice none 0 0, .int .i32 0, .slice none 0 0] 33)).alloc (.cells #[.int .i32 h.n.ty, .string h.n.path, .slice h.d.1 h.d.2.1 h.d.2.2, .slice none 0 0, .int .i64 0, .int .i32 h.n.ve, .int .i32 0, .bool false, .int .i64 0, .int .i64 0, .int .i64 0, .int .i32 0, .slice none 0 0, .slice none 0 0, .int .i32 0, .slice none 0 0] 33)).drewN q = V at *
  go_wp2_with (first
    | (apply wpList_storeTop 33 33; exact rfl; exact rfl; exact rfl; (first | (with_reducible rfl) | (exact sz1 _ _) | (exact sz2 _ _ _) | (exact sz3 _ _ _ _)); exact rfl; exact infTx; exact rfl; simp [Value.oneCell'])
    | (apply wpList_loadRow 33 33; exact rfl; exact rfl; exact rfl; (first | assumption | (exact heap_s0 _ _) | (exact heap_s1 _ _ _) | (exact heap_s2 _ _ _ _) | (exact heap_s3 _ _ _ _ _) | (exact heap_under (heap_s0 _ _)) | (exact heap_under (heap_s1 _ _ _)) | (exact heap_under (heap_s2 _ _ _ _)) | (exact heap_under (heap_under (heap_s0 _ _))) | (exact heap_under (heap_under (heap_s1 _ _ _))) | (exact heap_under (heap_under (heap_under (heap_s0 _ _))))); exact undTx; exact rfl; exact infTx)
    | (apply wpList_storeRow 33 33; exact rfl; exact rfl; exact rfl; exact rfl; (first | assumption | (exact heap_s0 _ _) | (exact heap_s1 _ _ _) | (exact heap_s2 _ _ _ _) | (exact heap_s3 _ _ _ _ _) | (exact heap_under (heap_s0 _ _)) | (exact heap_under (heap_s1 _ _ _)) | (exact heap_under (heap_s2 _ _ _ _)) | (exact heap_under (heap_under (heap_s0 _ _))) | (exact heap_under (heap_under (heap_s1 _ _ _))) | (exact heap_under (heap_under (heap_under (heap_s0 _ _))))); exact infTx; exact rfl; simp [Value.oneCell'])
    | fail)
  all_goals
    (try simp only [Exit.inBlock, Exit.then])
    exact bodyPost_cell rfl rfl (setRow_heap _ _ _ _ _ _ (by first | assumption | (exact heap_under (heap_s1 _ _ _)))) undTx rfl infTx rfl (KeptP.mk HK.out (below_setRow HB.out (by omega) _))
set_option maxRecDepth 100000 in
theorem kept_7 (h : TxH) (w : World) (ht : h.n.ty = 7) : Calls Tryz.prog 161 #[txV h] w (KeptP h w) := by
  have e0 : (h.n.ty == 14) = false := by rw [ht]; rfl
  have e1 : (h.n.ty == -10) = false := by rw [ht]; rfl
  have e2 : (h.n.ty == -11) = false := by rw [ht]; rfl
  have e3 : (h.n.ty == -1) = false := by rw [ht]; rfl
  have e4 : (h.n.ty == 1) = false := by rw [ht]; rfl
  have e5 : (h.n.ty == 5) = false := by rw [ht]; rfl
  have e6 : (h.n.ty == 7) = true := by rw [ht]; rfl
  have e7 : (h.n.ty == 13) = false := by rw [ht]; rfl
  have e8 : (h.n.ty == 120) = false := by rw [ht]; rfl
  have HK := Lib.hid (show keptH h = ⟨⟨h.n.ty, h.n.path, 0, h.n.ve, 0, false, 0, 0, 0, 0, 0⟩, nilS, h.a, nilS, nilS, nilS⟩ by simp [keptH, ht])
  clear ht
  unfold txV
  go_enter Tryz.func161, Tryz.ntmps161
  go_upto_block 1 with (first | (apply wpList_storeTop 33 33; exact rfl; exact rfl; exact rfl; (first | (with_reducible rfl) | (exact sz1 _ _) | (exact sz2 _ _ _) | (exact sz3 _ _ _ _)); exact rfl; exact infTx; exact rfl; simp [Value.oneCell']) | fail)
  go_cut [38] from 39 to 77 (fun _ wx => ∃ q, wx = (((w.alloc (.cells #[.int .i32 h.n.ty, .string h.n.path, slV h.d, slV h.a, .int .i64 h.n.ow, .int .i32 h.n.ve, .int .i32 h.n.cr, .bool h.n.qh, .int .i64 h.n.qc, .int .i64 h.n.qb, .int .i64 h.n.si, .int .i32 h.n.st, slV h.i, slV h.p, .int .i32 h.n.co, slV h.s] 33)).alloc (.cells #[.int .i32 0, .string ⟨#[]⟩, .slice none 0 0, .slice none 0 0, .int .i64 0, .int .i32 0, .int .i32 0, .bool false, .int .i64 0, .int .i64 0, .int .i64 0, .int .i32 0, .slice none 0 0, .slice none 0 0, .int .i32 0, .slice none 0 0] 33)).alloc (.cells #[.int .i32 h.n.ty, .string h.n.path, .slice none 0 0, .slice h.a.1 h.a.2.1 h.a.2.2, .int .i64 0, .int .i32 h.n.ve, .int .i32 0, .bool false, .int .i64 0, .int .i64 0, .int .i64 0, .int .i32 0, .slice none 0 0, .slice none 0 0, .int .i32 0, .slice none 0 0] 33)).drewN q)
  case first =>
    go_wp2_with fail
    go_region
    all_goals go_wp2_with fail
    all_goals go_meet
    all_goals exact ⟨_, rfl⟩
  case rest =>
  obtain ⟨q, rfl⟩ := hcut
  have g1 : ((((w.alloc (.cells #[.int .i32 h.n.ty, .string h.n.path, slV h.d, slV h.a, .int .i64 h.n.ow, .int .i32 h.n.ve, .int .i32 h.n.cr, .bool h.n.qh, .int .i64 h.n.qc, .int .i64 h.n.qb, .int .i64 h.n.si, .int .i32 h.n.st, slV h.i, slV h.p, .int .i32 h.n.co, slV h.s] 33)).alloc (.cells #[.int .i32 0, .string ⟨#[]⟩, .slice none 0 0, .slice none 0 0, .int .i64 0, .int .i32 0, .int .i32 0, .bool false, .int .i64 0, .int .i64 0, .int .i64 0, .int .i32 0, .slice none 0 0, .slice none 0 0, .int .i32 0, .slice none 0 0] 33)).alloc (.cells #[.int .i32 h.n.ty, .string h.n.path, .slice none 0 0, .slice h.a.1 h.a.2.1 h.a.2.2, .int .i64 0, .int .i32 h.n.ve, .int .i32 0, .bool false, .int .i64 0, .int .i64 0, .int .i64 0, .int .i32 0, .slice none 0 0, .slice none 0 0, .int .i32 0, .slice none 0 0] 33)).drewN q).heap[w.heap.size + 1]? = some (.cells #[.int .i32 0, .string ⟨#[]⟩, .slice none 0 0, .slice none 0 0, .int .i64 0, .int .i32 0, .int .i32 0, .bool false, .int .i64 0, .int .i64 0, .int .i64 0, .int .i32 0, .slice none 0 0, .slice none 0 0, .int .i32 0, .slice none 0 0] 33) := heap_under (heap_s1 w _ _)
  have g2 : ((((w.alloc (.cells #[.int .i32 h.n.ty, .string h.n.path, slV h.d, slV h.a, .int .i64 h.n.ow, .int .i32 h.n.ve, .int .i32 h.n.cr, .bool h.n.qh, .int .i64 h.n.qc, .int .i64 h.n.qb, .int .i64 h.n.si, .int .i32 h.n.st, slV h.i, slV h.p, .int .i32 h.n.co, slV h.s] 33)).alloc (.cells #[.int .i32 0, .string ⟨#[]⟩, .slice none 0 0, .slice none 0 0, .int .i64 0, .int .i32 0, .int .i32 0, .bool false, .int .i64 0, .int .i64 0, .int .i64 0, .int .i32 0, .slice none 0 0, .slice none 0 0, .int .i32 0, .slice none 0 0] 33)).alloc (.cells #[.int .i32 h.n.ty, .string h.n.path, .slice none 0 0, .slice h.a.1 h.a.2.1 h.a.2.2, .int .i64 0, .int .i32 h.n.ve, .int .i32 0, .bool false, .int .i64 0, .int .i64 0, .int .i64 0, .int .i32 0, .slice none 0 0, .slice none 0 0, .int .i32 0, .slice none 0 0] 33)).drewN q).heap[w.heap.size + 1 + 1]? = some (.cells #[.int .i32 h.n.ty, .string h.n.path, .slice none 0 0, .slice h.a.1 h.a.2.1 h.a.2.2, .int .i64 0, .int .i32 h.n.ve, .int .i32 0, .bool false, .int .i64 0, .int .i64 0, .int .i64 0, .int .i32 0, .slice none 0 0, .slice none 0 0, .int .i32 0, .slice none 0 0] 33) := heap_s2 w _ _ _
  have HB := Lib.hid (show Below w.heap.size w ((((w.alloc (.cells #[.int .i32 h.n.ty, .string h.n.path, slV h.d, slV h.a, .int .i64 h.n.ow, .int .i32 h.n.ve, .int .i32 h.n.cr, .bool h.n.qh, .int .i64 h.n.qc, .int .i64 h.n.qb, .int .i64 h.n.si, .int .i32 h.n.st, slV h.i, slV h.p, .int .i32 h.n.co, slV h.s] 33)).alloc (.cells #[.int .i32 0, .string ⟨#[]⟩, .slice none 0 0, .slice none 0 0, .int .i64 0, .int .i32 0, .int .i32 0, .bool false, .int .i64 0, .int .i64 0, .int .i64 0, .int .i32 0, .slice none 0 0, .slice none 0 0, .int .i32 0, .slice none 0 0] 33)).alloc (.cells #[.int .i32 h.n.ty, .string h.n.path, .slice none 0 0, .slice h.a.1 h.a.2.1 h.a.2.2, .int .i64 0, .int .i32 h.n.ve, .int .i32 0, .bool false, .int .i64 0, .int .i64 0, .int .i64 0, .int .i32 0, .slice none 0 0, .slice none 0 0, .int .i32 0, .slice none 0 0] 33)).drewN q) from drewN_below (three_below w _ _ _) q)
  generalize (((w.alloc (.cells #[.int .i32 h.n.ty, .string h.n.path, slV h.d, slV h.a, .int .i64 h.n.ow, .int .i32 h.n.ve, .int .i32 h.n.cr, .bool h.n.qh, .int .i64 h.n.qc, .int .i64 h.n.qb, .int .i64 h.n.si, .int .i32 h.n.st, slV h.i, slV h.p, .int .i32 h.n.co, slV h.s] 33)).alloc (.cells #[.int .i32 0, .string ⟨#[]⟩, .slice none 0 0, .slice none 0 0, .int .i64 0, .int .i32 0, .int .i32 0, .bool false, .int .i64 0, .int .i64 0, .int .i64 0, .int .i32 0, .slice none 0 0, .slice none 0 0, .int .i32 0, .slice none 0 0] 33)).alloc (.cells #[.int .i32 h.n.ty, .string h.n.path, .slice none 0 0, .slice h.a.1 h.a.2.1 h.a.2.2, .int .i64 0, .int .i32 h.n.ve, .int .i32 0, .bool false, .int .i64 0, .int .i64 0, .int .i64 0, .int .i32 0, .slice none 0 0, .slice none 0 0, .int .i32 0, .slice none 0 0] 33)).drewN q = V at *
  go_wp2_with (first
    | (apply wpList_storeTop 33 33; exact rfl; exact rfl; exact rfl; (first | (with_reducible rfl) | (exact sz1 _ _) | (exact sz2 _ _ _) | (exact sz3 _ _ _ _)); exact rfl; exact infTx; exact rfl; simp [Value.oneCell'])
    | (apply wpList_loadRow 33 33; exact rfl; exact rfl; exact rfl; (first | assumption | (exact heap_s0 _ _) | (exact heap_s1 _ _ _) | (exact heap_s2 _ _ _ _) | (exact heap_s3 _ _ _ _ _) | (exact heap_under (heap_s0 _ _)) | (exact heap_under (heap_s1 _ _ _)) | (exact heap_under (heap_s2 _ _ _ _)) | (exact heap_under (heap_under (heap_s0 _ _))) | (exact heap_under (heap_under (heap_s1 _ _ _))) | (exact heap_under (heap_under (heap_under (heap_s0 _ _))))); exact undTx; exact rfl; exact infTx)
    | (apply wpList_storeRow 33 33; exact rfl; exact rfl; exact rfl; exact rfl; (first | assumption | (exact heap_s0 _ _) | (exact heap_s1 _ _ _) | (exact heap_s2 _ _ _ _) | (exact heap_s3 _ _ _ _ _) | (exact heap_under (heap_s0 _ _)) | (exact heap_under (heap_s1 _ _ _)) | (exact heap_under (heap_s2 _ _ _ _)) | (exact heap_under (heap_under (heap_s0 _ _))) | (exact heap_under (heap_under (heap_s1 _ _ _))) | (exact heap_under (heap_under (heap_under (heap_s0 _ _))))); exact infTx; exact rfl; simp [Value.oneCell'])
    | fail)
  all_goals
    (try simp only [Exit.inBlock, Exit.then])
    exact bodyPost_cell rfl rfl (setRow_heap _ _ _ _ _ _ (by first | assumption | (exact heap_under (heap_s1 _ _ _)))) undTx rfl infTx rfl (KeptP.mk HK.out (below_setRow HB.out (by omega) _))
set_option maxRecDepth 100000 in
theorem kept_13 (h : TxH) (w : World) (ht : h.n.ty = 13) : Calls Tryz.prog 161 #[txV h] w (KeptP h w) := by
  have e0 : (h.n.ty == 14) = false := by rw [ht]; rfl
  have e1 : (h.n.ty == -10) = false := by rw [ht]; rfl
  have e2 : (h.n.ty == -11) = false := by rw [ht]; rfl
  have e3 : (h.n.ty == -1) = false := by rw [ht]; rfl
  have e4 : (h.n.ty == 1) = false := by rw [ht]; rfl
  have e5 : (h.n.ty == 5) = false := by rw [ht]; rfl
  have e6 : (h.n.ty == 7) = false := by rw [ht]; rfl
  have e7 : (h.n.ty == 13) = true := by rw [ht]; rfl
  have e8 : (h.n.ty == 120) = false := by rw [ht]; rfl
  have HK := Lib.hid (show keptH h = ⟨⟨h.n.ty, h.n.path, 0, h.n.ve, 0, false, 0, 0, 0, 0, 0⟩, nilS, nilS, nilS, nilS, nilS⟩ by simp [keptH, ht])
  clear ht
  unfold txV
  go_enter Tryz.func161, Tryz.ntmps161
  go_wp2_with (first
    | (apply wpList_storeTop 33 33; exact rfl; exact rfl; exact rfl; (first | (with_reducible rfl) | (exact sz1 _ _) | (exact sz2 _ _ _) | (exact sz3 _ _ _ _)); exact rfl; exact infTx; exact rfl; simp [Value.oneCell'])
    | (apply wpList_loadRow 33 33; exact rfl; exact rfl; exact rfl; (first | assumption | (exact heap_s0 _ _) | (exact heap_s1 _ _ _) | (exact heap_s2 _ _ _ _) | (exact heap_s3 _ _ _ _ _) | (exact heap_under (heap_s0 _ _)) | (exact heap_under (heap_s1 _ _ _)) | (exact heap_under (heap_s2 _ _ _ _)) | (exact heap_under (heap_under (heap_s0 _ _))) | (exact heap_under (heap_under (heap_s1 _ _ _))) | (exact heap_under (heap_under (heap_under (heap_s0 _ _))))); exact undTx; exact rfl; exact infTx)
    | (apply wpList_storeRow 33 33; exact rfl; exact rfl; exact rfl; exact rfl; (first | assumption | (exact heap_s0 _ _) | (exact heap_s1 _ _ _) | (exact heap_s2 _ _ _ _) | (exact heap_s3 _ _ _ _ _) | (exact heap_under (heap_s0 _ _)) | (exact heap_under (heap_s1 _ _ _)) | (exact heap_under (heap_s2 _ _ _ _)) | (exact heap_under (heap_under (heap_s0 _ _))) | (exact heap_under (heap_under (heap_s1 _ _ _))) | (exact heap_under (heap_under (heap_under (heap_s0 _ _))))); exact infTx; exact rfl; simp [Value.oneCell'])
    | fail)
  all_goals
    (try simp only [Exit.inBlock, Exit.then])
    exact bodyPost_cell rfl rfl (setRow_heap _ _ _ _ _ _ (by first | assumption | (exact heap_under (heap_s1 _ _ _)))) undTx rfl infTx rfl (KeptP.mk HK.out (below_setRow (three_below w _ _ _) (by omega) _))
set_option maxRecDepth 100000 in
theorem kept_120 (h : TxH) (w : World) (ht : h.n.ty = 120) : Calls Tryz.prog 161 #[txV h] w (KeptP h w) := by
  have e0 : (h.n.ty == 14) = false := by rw [ht]; rfl
  have e1 : (h.n.ty == -10) = false := by rw [ht]; rfl
  have e2 : (h.n.ty == -11) = false := by rw [ht]; rfl
  have e3 : (h.n.ty == -1) = false := by rw [ht]; rfl
  have e4 : (h.n.ty == 1) = false := by rw [ht]; rfl
  have e5 : (h.n.ty == 5) = false := by rw [ht]; rfl
  have e6 : (h.n.ty == 7) = false := by rw [ht]; rfl
  have e7 : (h.n.ty == 13) = false := by rw [ht]; rfl
  have e8 : (h.n.ty == 120) = true := by rw [ht]; rfl
  have HK := Lib.hid (show keptH h = ⟨⟨h.n.ty, h.n.path, 0, 0, 0, h.n.qh, h.n.qc, h.n.qb, 0, 0, 0⟩, nilS, nilS, nilS, nilS, nilS⟩ by simp [keptH, ht])
  clear ht
  unfold txV
  go_enter Tryz.func161, Tryz.ntmps161
  go_wp2_with (first
    | (apply wpList_storeTop 33 33; exact rfl; exact rfl; exact rfl; (first | (with_reducible rfl) | (exact sz1 _ _) | (exact sz2 _ _ _) | (exact sz3 _ _ _ _)); exact rfl; exact infTx; exact rfl; simp [Value.oneCell'])
    | (apply wpList_loadRow 33 33; exact rfl; exact rfl; exact rfl; (first | assumption | (exact heap_s0 _ _) | (exact heap_s1 _ _ _) | (exact heap_s2 _ _ _ _) | (exact heap_s3 _ _ _ _ _) | (exact heap_under (heap_s0 _ _)) | (exact heap_under (heap_s1 _ _ _)) | (exact heap_under (heap_s2 _ _ _ _)) | (exact heap_under (heap_under (heap_s0 _ _))) | (exact heap_under (heap_under (heap_s1 _ _ _))) | (exact heap_under (heap_under (heap_under (heap_s0 _ _))))); exact undTx; exact rfl; exact infTx)
    | (apply wpList_storeRow 33 33; exact rfl; exact rfl; exact rfl; exact rfl; (first | assumption | (exact heap_s0 _ _) | (exact heap_s1 _ _ _) | (exact heap_s2 _ _ _ _) | (exact heap_s3 _ _ _ _ _) | (exact heap_under (heap_s0 _ _)) | (exact heap_under (heap_s1 _ _ _)) | (exact heap_under (heap_s2 _ _ _ _)) | (exact heap_under (heap_under (heap_s0 _ _))) | (exact heap_under (heap_under (heap_s1 _ _ _))) | (exact heap_under (heap_under (heap_under (heap_s0 _ _))))); exact infTx; exact rfl; simp [Value.oneCell'])
    | fail)
  all_goals
    (try simp only [Exit.inBlock, Exit.then])
    exact bodyPost_cell rfl rfl (setRow_heap _ _ _ _ _ _ (by first | assumption | (exact heap_under (heap_s1 _ _ _)))) undTx rfl infTx rfl (KeptP.mk HK.out (below_setRow (three_below w _ _ _) (by omega) _))
set_option maxRecDepth 100000 in
theorem kept_x (h : TxH) (w : World) (ht : ¬ (h.n.ty = 14 ∨ h.n.ty = -10 ∨ h.n.ty = -11 ∨ h.n.ty = -1 ∨ h.n.ty = 1 ∨ h.n.ty = 5 ∨ h.n.ty = 7 ∨ h.n.ty = 13 ∨ h.n.ty = 120)) : Calls Tryz.prog 161 #[txV h] w (KeptP h w) := by
  have e0 : (h.n.ty == 14) = false := beq_eq_false_iff_ne.2 fun e => ht (by simp [e])
  have e1 : (h.n.ty == -10) = false := beq_eq_false_iff_ne.2 fun e => ht (by simp [e])
  have e2 : (h.n.ty == -11) = false := beq_eq_false_iff_ne.2 fun e => ht (by simp [e])
  have e3 : (h.n.ty == -1) = false := beq_eq_false_iff_ne.2 fun e => ht (by simp [e])
  have e4 : (h.n.ty == 1) = false := beq_eq_false_iff_ne.2 fun e => ht (by simp [e])
  have e5 : (h.n.ty == 5) = false := beq_eq_false_iff_ne.2 fun e => ht (by simp [e])
  have e6 : (h.n.ty == 7) = false := beq_eq_false_iff_ne.2 fun e => ht (by simp [e])
  have e7 : (h.n.ty == 13) = false := beq_eq_false_iff_ne.2 fun e => ht (by simp [e])
  have e8 : (h.n.ty == 120) = false := beq_eq_false_iff_ne.2 fun e => ht (by simp [e])
  have HK := Lib.hid (show keptH h = ⟨⟨h.n.ty, h.n.path, 0, 0, 0, false, 0, 0, 0, 0, 0⟩, nilS, nilS, nilS, nilS, nilS⟩ by
    simp only [not_or] at ht
    simp [keptH, ht])
  clear ht
  unfold txV
  go_enter Tryz.func161, Tryz.ntmps161
  go_wp2_with (first
    | (apply wpList_storeTop 33 33; exact rfl; exact rfl; exact rfl; (first | (with_reducible rfl) | (exact sz1 _ _) | (exact sz2 _ _ _) | (exact sz3 _ _ _ _)); exact rfl; exact infTx; exact rfl; simp [Value.oneCell'])
    | (apply wpList_loadRow 33 33; exact rfl; exact rfl; exact rfl; (first | assumption | (exact heap_s0 _ _) | (exact heap_s1 _ _ _) | (exact heap_s2 _ _ _ _) | (exact heap_s3 _ _ _ _ _) | (exact heap_under (heap_s0 _ _)) | (exact heap_under (heap_s1 _ _ _)) | (exact heap_under (heap_s2 _ _ _ _)) | (exact heap_under (heap_under (heap_s0 _ _))) | (exact heap_under (heap_under (heap_s1 _ _ _))) | (exact heap_under (heap_under (heap_under (heap_s0 _ _))))); exact undTx; exact rfl; exact infTx)
    | (apply wpList_storeRow 33 33; exact rfl; exact rfl; exact rfl; exact rfl; (first | assumption | (exact heap_s0 _ _) | (exact heap_s1 _ _ _) | (exact heap_s2 _ _ _ _) | (exact heap_s3 _ _ _ _ _) | (exact heap_under (heap_s0 _ _)) | (exact heap_under (heap_s1 _ _ _)) | (exact heap_under (heap_s2 _ _ _ _)) | (exact heap_under (heap_under (heap_s0 _ _))) | (exact heap_under (heap_under (heap_s1 _ _ _))) | (exact heap_under (heap_under (heap_under (heap_s0 _ _))))); exact infTx; exact rfl; simp [Value.oneCell'])
    | fail)
  all_goals
    (try simp only [Exit.inBlock, Exit.then])
    exact bodyPost_cell rfl rfl (setRow_heap _ _ _ _ _ _ (by first | assumption | (exact heap_under (heap_s1 _ _ _)))) undTx rfl infTx rfl (KeptP.mk HK.out (below_setRow (three_below w _ _ _) (by omega) _))
theorem kept_any (h : TxH) (w : World) : Calls Tryz.prog 161 #[txV h] w (KeptP h w) := by
  by_cases h0 : h.n.ty = 14
  · exact kept_14 h w h0
  by_cases h1 : h.n.ty = -10
  · exact kept_m10 h w h1
  by_cases h2 : h.n.ty = -11
  · exact kept_m11 h w h2
  by_cases h3 : h.n.ty = -1
  · exact kept_m1 h w h3
  by_cases h4 : h.n.ty = 1
  · exact kept_1 h w h4
  by_cases h5 : h.n.ty = 5
  · exact kept_5 h w h5
  by_cases h6 : h.n.ty = 7
  · exact kept_7 h w h6
  by_cases h7 : h.n.ty = 13
  · exact kept_13 h w h7
  by_cases h8 : h.n.ty = 120
  · exact kept_120 h w h8
  exact kept_x h w (by simp only [not_or]; exact ⟨h0, h1, h2, h3, h4, h5, h6, h7, h8⟩)
end Go.Proofs.YthpjneobmmpbnaaGreatDoor
namespace Go.Proofs.YthpjneobmmpbnaaGreatDoor
open Go.RowKit Go.MapKept
theorem store_new1 {P : Program} (w0 : World) (t : TypeId) (old v : Value) (hv : v.oneCell' = true) {g : Nat} (hg : w0.heap.size = g) (m : Mode) : (store ⟨g, 0, none⟩ v m).run P (w0.alloc (.cells #[old] t)) = .ok () (w0.alloc (.cells #[v] t)) := by
  subst hg
  rw [run_store P _ _ _ _ hv]
  have h1 : (w0.alloc (.cells #[old] t)).cell? ⟨w0.heap.size, 0, none⟩ = some old := by simp
  have h2 : (w0.alloc (.cells #[old] t)).frozen? ⟨w0.heap.size, 0, none⟩ = false := by simp
  rw [h1]
  simp only [h2]
  have h3 : (w0.alloc (.cells #[old] t)).setCell ⟨w0.heap.size, 0, none⟩ v = w0.alloc (.cells #[v] t) := by
    rw [setCell_eq_setRow _ _ 0 #[old] t (0, 0) v (heap_alloc_last w0 _), World.setRow_alloc_new]; rfl
  rw [h3]
  rfl
end Go.Proofs.YthpjneobmmpbnaaGreatDoor
namespace Go.Proofs.YthpjneobmmpbnaaGreatDoor
open Go.RowKit
/-- a Stat's numbers -/
structure StN where
  (a b c d e f g h i j k : Int)
instance : Inhabited StN := ⟨⟨0, 0, 0, 0, 0, 0, 0, 0, 0, 0, 0⟩⟩
/-- what of a result lies outside its lists -/
structure RsN where
  (ty co : Int) (path : ByteArray) (q : StN) (ct si st : Int)
instance : Inhabited RsN := ⟨⟨0, 0, ByteArray.empty, default, 0, 0, 0⟩⟩
structure RsH where
  (n : RsN) (d a m i s : SlC)
instance : Inhabited RsH := ⟨⟨default, (none, 0, 0), (none, 0, 0), (none, 0, 0), (none, 0, 0), (none, 0, 0)⟩⟩
structure RsF where
  (n : RsN) (data : Bs) (acl : List AclV) (names : List ByteArray) (ids : List IdV)
instance : Inhabited RsF := ⟨⟨default, [], [], [], []⟩⟩
abbrev RsT := Tr RsF
structure RpH where
  (xi zx co : Int) (r : RsH)
instance : Inhabited RpH := ⟨⟨0, 0, 0, default⟩⟩
structure RpT where
  (xi zx co : Int) (r : RsT)
instance : Inhabited RpT := ⟨⟨0, 0, 0, default⟩⟩
/-- a proposal: a delta and a reply -/
structure PrH where
  (d : DlH) (r : RpH)
instance : Inhabited PrH := ⟨⟨default, default⟩⟩
structure PrT where
  (d : DlT) (r : RpT)
instance : Inhabited PrT := ⟨⟨default, default⟩⟩
theorem DlAt.keep {w w' : World} {R : Nat → Prop} {h : DlH} {t : DlT} (H : DlAt w R h t) (hk : ∀ p : Addr, R p.block → w'.cell? p = w.cell? p) : DlAt w' R h t := ⟨H.1, TxAt.keep H.2 hk⟩
end Go.Proofs.YthpjneobmmpbnaaGreatDoor
