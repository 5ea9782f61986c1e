/- The walks of the document's Fields, Part, has of a transaction's types. -/
import Derived.Test.YthpjneobmmpbnaaGreatDoorDDltG
import Derived.Test.YthpjneobmmpbnaaGreatDoorDPathW
import Derived.Test.YthpjneobmmpbnaaGreatDoorDCloR
import Derived.Test.YthpjneobmmpbnaaGreatDoorDTreC
import Derived.Test.YthpjneobmmpbnaaGreatDoorDRplP
import Derived.Test.YthpjneobmmpbnaaGreatDoorDAclF
import Derived.Deep.RegionHeld3
import Derived.Deep.Cut
import Derived.Deep.Onto
import Derived.Test.YthpjneobmmpbnaaGreatDoorDHeld
namespace Go.Proofs.YthpjneobmmpbnaaGreatDoor
open Go.RowKit
def fieldsS (t : Int) : ByteArray :=
  if t = 1 then ⟨#[112, 100, 97, 111, 110]⟩ else if t = 2 ∨ t = 121 then ⟨#[112]⟩ else if t = 5 then ⟨#[112, 100, 118]⟩ else if t = 7 then ⟨#[112, 97, 118]⟩ else if t = 13 then ⟨#[112, 118]⟩
  else if t = 120 then ⟨#[112, 113]⟩ else if t = 14 then ⟨#[109]⟩ else if t = -10 then ⟨#[115]⟩ else if t = -11 then ⟨#[108]⟩ else if t = -1 then ⟨#[99]⟩ else ⟨#[]⟩
def FldP (t : Int) (w : World) (e : Ending) (w' : World) : Prop := e = .returned (.string (fieldsS t)) ∧ w' = w
theorem FldP.mk {t : Int} {s : ByteArray} {w : World} (h : s = fieldsS t) : FldP t w (.returned (.string s)) w := ⟨by rw [h], rfl⟩
theorem ty_cases (t : Int) : t = 1 ∨ t = 2 ∨ t = 121 ∨ t = 5 ∨ t = 7 ∨ t = 13 ∨ t = 120 ∨ t = 14 ∨ t = -10 ∨ t = -11 ∨ t = -1 ∨ (t ≠ 1 ∧ t ≠ 2 ∧ t ≠ 121 ∧ t ≠ 5 ∧ t ≠ 7 ∧ t ≠ 13 ∧ t ≠ 120 ∧ t ≠ 14 ∧ t ≠ -10 ∧ t ≠ -11 ∧ t ≠ -1) := by omega
set_option maxRecDepth 100000 in
theorem refFields_any (t : Int) (w : World) : Calls Tryz.prog 53 #[.int .i32 t] w (FldP t w) := by
  rcases ty_cases t with rfl | rfl | rfl | rfl | rfl | rfl | rfl | rfl | rfl | rfl | rfl | ⟨h1, h2, h3, h4, h5, h6, h7, h8, h9, h10, h11⟩
  case inr.inr.inr.inr.inr.inr.inr.inr.inr.inr.inr =>
    have HF := Lib.hid (show fieldsS t = ⟨#[]⟩ by unfold fieldsS; simp [h1, h2, h3, h4, h5, h6, h7, h8, h9, h10, h11])
    have b1 : (t == 1) = false := beq_eq_false_iff_ne.2 h1
    have b2 : (t == 2) = false := beq_eq_false_iff_ne.2 h2
    have b3 : (t == 121) = false := beq_eq_false_iff_ne.2 h3
    have b4 : (t == 5) = false := beq_eq_false_iff_ne.2 h4
    have b5 : (t == 7) = false := beq_eq_false_iff_ne.2 h5
    have b6 : (t == 13) = false := beq_eq_false_iff_ne.2 h6
    have b7 : (t == 120) = false := beq_eq_false_iff_ne.2 h7
    have b8 : (t == 14) = false := beq_eq_false_iff_ne.2 h8
    have b9 : (t == -10) = false := beq_eq_false_iff_ne.2 h9
    have b10 : (t == -11) = false := beq_eq_false_iff_ne.2 h10
    have b11 : (t == -1) = false := beq_eq_false_iff_ne.2 h11
    clear h1 h2 h3 h4 h5 h6 h7 h8 h9 h10 h11
    go_enter Tryz.func53, Tryz.ntmps53
    go_wp2_with fail
    go_ret
    exact FldP.mk HF.out.symm
  all_goals
    go_enter Tryz.func53, Tryz.ntmps53
    go_wp2_with fail
    go_ret
    exact FldP.mk rfl
set_option maxRecDepth 100000 in
theorem refPart13_any (t : Int) (w : World) : Calls Tryz.prog 55 #[.int .i32 t] w (RetBw w (partB t)) := by
  by_cases h : t = 1 ∨ t = 2 ∨ t = 5 ∨ t = 7 ∨ t = 13 ∨ t = 120 ∨ t = 121
  · have HP := Lib.hid (show partB t = true from decide_eq_true h)
    rcases h with rfl | rfl | rfl | rfl | rfl | rfl | rfl
    all_goals
      go_enter Tryz.func55, Tryz.ntmps55
      go_wp2_with fail
      go_ret
      exact RetBw.mk HP.out.symm
  · have HP := Lib.hid (show partB t = false from decide_eq_false h)
    have b1 : (t == 1) = false := beq_eq_false_iff_ne.2 (fun e => h (by omega))
    have b2 : (t == 2) = false := beq_eq_false_iff_ne.2 (fun e => h (by omega))
    have b3 : (t == 121) = false := beq_eq_false_iff_ne.2 (fun e => h (by omega))
    have b4 : (t == 5) = false := beq_eq_false_iff_ne.2 (fun e => h (by omega))
    have b5 : (t == 7) = false := beq_eq_false_iff_ne.2 (fun e => h (by omega))
    have b6 : (t == 13) = false := beq_eq_false_iff_ne.2 (fun e => h (by omega))
    have b7 : (t == 120) = false := beq_eq_false_iff_ne.2 (fun e => h (by omega))
    clear h
    go_enter Tryz.func55, Tryz.ntmps55
    go_wp2_with fail
    go_ret
    exact RetBw.mk HP.out.symm
/-- is a letter one of a text's? -/
def hasN (s : ByteArray) (f : Int) : Bool := s.data.toList.any fun x => (x.toNat : Int) == f
set_option maxRecDepth 100000 in
theorem refHas_any (s : ByteArray) (f : Int) (hs : s.size < 2147483648) (w : World) : Calls Tryz.prog 163 #[.string s, .int .u8 f] w (RetBw w (hasN s f)) := by
  go_enter Tryz.func163, Tryz.ntmps163
  go_wp2_with fail
  go_loop [5] (fun i => ∃ p : Nat, i = .int .i64 ↑p ∧ p ≤ s.size ∧ (s.data.toList.drop p).any (fun x => (x.toNat : Int) == f) = hasN s f) (fun i => s.size - (RowKit.intOf i).toNat)
  case atStart => exact ⟨0, rfl, Nat.zero_le _, by rw [List.drop_zero]; rfl⟩
  case round =>
    obtain ⟨p, rfl, hp, hc⟩ := hrel
    by_cases hlt : p < s.size
    · have hl : p < s.data.toList.length := hlt
      rw [List.drop_eq_getElem_cons hl, List.any_cons, show s.data.toList[p] = s[p] from rfl] at hc
      cases hb : ((s[p].toNat : Int) == f) with
      | true =>
        rw [hb, Bool.true_or] at hc
        have HC := Lib.hid hc
        clear hc
        go_wp2_with fail
        go_ret
        exact RetBw.mk HC.out
      | false =>
        rw [hb, Bool.false_or] at hc
        have HC := Lib.hid hc
        clear hc
        go_wp2_with fail
        go_round
        case rel => exact ⟨p + 1, by go_num, by omega, HC.out⟩
        case measure => simp [RowKit.intOf]; omega
    · have HC := Lib.hid (show hasN s f = false by rw [← hc, List.drop_eq_nil_of_le (by show s.data.toList.length ≤ p; rw [Array.length_toList]; exact Nat.le_of_not_lt hlt)]; rfl)
      clear hc
      obtain rfl : p = s.size := by omega
      go_wp2_with fail
      go_ret
      exact RetBw.mk HC.out.symm
theorem fieldsS_size (t : Int) : (fieldsS t).size < 2147483648 := by
  rcases ty_cases t with rfl | rfl | rfl | rfl | rfl | rfl | rfl | rfl | rfl | rfl | rfl | ⟨h1, h2, h3, h4, h5, h6, h7, h8, h9, h10, h11⟩
  case inr.inr.inr.inr.inr.inr.inr.inr.inr.inr.inr =>
    rw [show fieldsS t = ⟨#[]⟩ by unfold fieldsS; simp [h1, h2, h3, h4, h5, h6, h7, h8, h9, h10, h11]]; decide
  all_goals decide
theorem hasF_any (t : Int) (f : Int) (w : World) : Calls Tryz.prog 163 #[.string (fieldsS t), .int .u8 f] w (RetBw w (hasN (fieldsS t) f)) := refHas_any _ _ (fieldsS_size t) w
/-- which letters a type has: p d a o n v q s l c m -/
theorem has_all (t : Int) : hasN (fieldsS t) 112 = partB t ∧ hasN (fieldsS t) 100 = decide (t = 1 ∨ t = 5) ∧ hasN (fieldsS t) 97 = decide (t = 1 ∨ t = 7) ∧ hasN (fieldsS t) 111 = decide (t = 1) ∧ hasN (fieldsS t) 110 = decide (t = 1) ∧
    hasN (fieldsS t) 118 = decide (t = 5 ∨ t = 7 ∨ t = 13) ∧ hasN (fieldsS t) 113 = decide (t = 120) ∧ hasN (fieldsS t) 115 = decide (t = -10) ∧ hasN (fieldsS t) 108 = decide (t = -11) ∧ hasN (fieldsS t) 99 = decide (t = -1) ∧ hasN (fieldsS t) 109 = decide (t = 14) := by
  rcases ty_cases t with rfl | rfl | rfl | rfl | rfl | rfl | rfl | rfl | rfl | rfl | rfl | ⟨h1, h2, h3, h4, h5, h6, h7, h8, h9, h10, h11⟩
  case inr.inr.inr.inr.inr.inr.inr.inr.inr.inr.inr =>
    rw [show fieldsS t = ⟨#[]⟩ by unfold fieldsS; simp [h1, h2, h3, h4, h5, h6, h7, h8, h9, h10, h11]]
    unfold partB
    simp [h1, h2, h3, h4, h5, h6, h7, h8, h9, h10, h11, hasN]
  all_goals decide
theorem fields_empty (t : Int) : ((fieldsS t).toList.isEmpty) = !knownB t := by
  rcases ty_cases t with rfl | rfl | rfl | rfl | rfl | rfl | rfl | rfl | rfl | rfl | rfl | ⟨h1, h2, h3, h4, h5, h6, h7, h8, h9, h10, h11⟩
  case inr.inr.inr.inr.inr.inr.inr.inr.inr.inr.inr =>
    rw [show fieldsS t = ⟨#[]⟩ by unfold fieldsS; simp [h1, h2, h3, h4, h5, h6, h7, h8, h9, h10, h11]]
    unfold knownB partB
    simp [h1, h2, h3, h4, h5, h6, h7, h8, h9, h10, h11, Lib.toList_data]
  all_goals (rw [Lib.toList_data]; decide)
end Go.Proofs.YthpjneobmmpbnaaGreatDoor
namespace Go.Proofs.YthpjneobmmpbnaaGreatDoor
open Go.RowKit Go.MapKept
theorem kTxOk : KdOk kTx where
  len := fun _ => rfl
  pos := by decide
  one := fun x u hu => by
    simp [encTx] at hu
    rcases hu with rfl | rfl | rfl | rfl | rfl | rfl | rfl | rfl | rfl | rfl | rfl | rfl | rfl | rfl | rfl | rfl <;> rfl
  loc := fun H hf hR => ⟨H.1, H.2.1.fr hf hR (fun _ => by simp [enc8]), H.2.2.1.fr hf hR (fun _ => by simp [encAcl]), H.2.2.2.1.fr hf hR (fun _ => by simp [encId]), H.2.2.2.2.fr hf hR (fun _ => by simp [encStr])⟩
def ClonedP (t : TxT) (w : World) (e : Ending) (w' : World) : Prop := (∃ h', e = .returned (txV h') ∧ TxAt w' (w.heap.size ≤ ·) h' t) ∧ Below w.heap.size w w'
/-- a copy that was made at w0 -/
theorem CloneP.slr {α : Type} [Inhabited α] {T : TypeId} {enc : α → List Value} {k n : Nat} {l : List α} {w w' : World} {A : Option Addr} {c : Nat} (h : w'.ownsRow w.heap.size T k (.slice A n c) n (l.flatMap enc)) (hk : ∀ x, (enc x).length = k) (hl : l.length = n) {g : Nat} (hg : g + 2 ≤ w.heap.size) : SlR w' (g + 2 ≤ ·) enc k (A, n, c) l := by
  have := own_slr h hk hl
  exact ⟨this.1, this.2.1, fun h0 => by
    obtain ⟨b, off, e, hb, hc⟩ := this.2.2 h0
    exact ⟨b, off, e, Nat.le_trans hg hb, hc⟩⟩
theorem rangeAt_heapC {w : World} {b o : Nat} {cs : Array Value} {T : TypeId} {fr : Nat × Nat} {pre mid post : List Value} (h : w.heap[b]? = some (.cells cs T fr)) (hc : cs.toList = pre ++ (mid ++ post)) (hp : pre.length = o) : w.rangeAt b o mid := fun j v hv => by
  have hj : j < mid.length := (List.getElem?_eq_some_iff.1 hv).1
  rw [cellH h, ← Array.getElem?_toList, hc, ← hp, List.getElem?_append_right (by omega), show pre.length + j - pre.length = j by omega, List.getElem?_append_left hj]
  exact hv
theorem fr_setRow9 (w : World) (g : Nat) (cs : Array Value) : Fr [g] w (w.setRow g cs) :=
  ⟨rfl, rfl, rfl, by simp [World.setRow], fun i _ hn => by simp only [List.mem_singleton] at hn; simp [World.setRow, Array.getElem?_modify, Ne.symm hn]⟩
theorem there_fr9 {w w' : World} {own : List Nat} {b o n : Nat} (h : w.there b o n) (hf : Fr own w w') (hn : b ∉ own) : w'.there b o n := fun j hj => by
  obtain ⟨h1, h2⟩ := h j hj
  obtain ⟨u, hu⟩ := Option.isSome_iff_exists.1 h1
  have hlt : b < w.heap.size := World.block_lt_of_cell? w _ hu
  exact ⟨by rw [hf.cell (p := ⟨b, o + j, none⟩) hlt hn]; exact h1, by rw [World.frozen?_of_block (w := w) (hf.block b hlt hn)]; exact h2⟩
/-- the two variables of a copying function: what is copied (C), the result (Z) -/
structure CnSt (w V : World) (C Z : Array Value) (T : TypeId) : Prop where
  c : V.heap[w.heap.size]? = some (.cells C T (0, 0))
  z : V.heap[w.heap.size + 1]? = some (.cells Z T (0, 0))
  b : Below w.heap.size w V
  s : w.heap.size + 2 ≤ V.heap.size
theorem CnSt.call {w V V' : World} {C Z : Array Value} {T : TypeId} (H : CnSt w V C Z T) (hb : Below V.heap.size V V') : CnSt w V' C Z T :=
  ⟨(hb.block _ (by have := H.s; omega)).trans H.c, (hb.block _ (by have := H.s; omega)).trans H.z, H.b.trans (hb.mono H.b.size), Nat.le_trans H.s hb.size⟩
theorem CnSt.set {w V : World} {C Z : Array Value} {T : TypeId} (H : CnSt w V C Z T) (o : Nat) (v : Value) : CnSt w (V.setCell ⟨w.heap.size, o, none⟩ v) (C.setIfInBounds o v) Z T :=
  ⟨heap_setN H.c v, (heap_set_other V w.heap.size o v (by omega)).trans H.z, H.b.setCell (Nat.le_refl _) v, Nat.le_trans H.s (fr_set V w.heap.size o v).size⟩
theorem CnSt.cell {w V : World} {C Z : Array Value} {T : TypeId} (H : CnSt w V C Z T) {i : Nat} {v : Value} (hv : C[i]? = some v) : V.cell? ⟨w.heap.size, i, none⟩ = some v := by rw [cellH H.c]; exact hv
theorem CnSt.frz {w V : World} {C Z : Array Value} {T : TypeId} (H : CnSt w V C Z T) (i : Nat) : V.frozen? ⟨w.heap.size, i, none⟩ = false := by simp [World.frozen?, H.c]
theorem CnSt.start (w : World) (C Z : Array Value) (T : TypeId) : CnSt w ((w.alloc (.cells C T)).alloc (.cells Z T)) C Z T :=
  ⟨heap_under (heap_s0 w _), heap_s1 w _ _, ((Below.refl _ w).alloc (Nat.le_refl _) _).alloc (by simp) _, by simp⟩
/-- a copy stays as it is behind a store into the variable -/
theorem SlR.put {α : Type} [Inhabited α] {w : World} {k : Nat} {enc : α → List Value} {h : SlC} {zs : List α} {g : Nat} (H : SlR w (g + 2 ≤ ·) enc k h zs) (hk : ∀ x, 0 < (enc x).length) (o : Nat) (v : Value) : SlR (w.setCell ⟨g, o, none⟩ v) (g + 2 ≤ ·) enc k h zs :=
  H.fr (fr_set w g o v) (fun b _ h => ⟨by simp; omega, h⟩) hk
theorem SlR.later {α : Type} [Inhabited α] {w w' : World} {R : Nat → Prop} {k : Nat} {enc : α → List Value} {h : SlC} {zs : List α} (H : SlR w R enc k h zs) (hb : Below w.heap.size w w') (hk : ∀ x, 0 < (enc x).length) : SlR w' R enc k h zs :=
  H.fr (Fr.of_below (own := []) hb) (fun b _ h => ⟨by simp, h⟩) hk

/-- the loop's state: k elements are copied -/
structure ClR (w : World) (h' : TxH) (v : TxF) (subs : List TxT) (n gs hi : Nat) (Z : Array Value) (k : Nat) (wr : World) : Prop where
  s : CnSt w wr (encTx h').toArray Z 33
  l : locTx wr (fun b => w.heap.size + 2 ≤ b ∧ b ≠ gs) h' v
  r : ClSt kTx w.heap.size hi gs n subs k wr
  hi : hi ≤ wr.heap.size
theorem ClR.step {w : World} {h' : TxH} {v : TxF} {subs : List TxT} {n gs hi : Nat} {Z : Array Value} {k : Nat} {wr w2 : World} (H : ClR w h' v subs n gs hi Z k wr) (hb : Below wr.heap.size wr w2) {hh : TxH} (ht : TxAt w2 (wr.heap.size ≤ ·) hh subs[k]!) (hk : k < n) (hgs : gs < hi) (hB : w.heap.size + 2 ≤ gs) :
    ClR w h' v subs n gs hi Z (k + 1) (w2.setCells gs (k * 16) (encTx hh)) where
  s := ⟨((fr_setCells w2 gs (k * 16) (encTx hh)).block _ (by have := H.s.s; have := hb.size; omega) (by simp; omega)).trans (H.s.call hb).c, ((fr_setCells w2 gs (k * 16) (encTx hh)).block _ (by have := H.s.s; have := hb.size; omega) (by simp; omega)).trans (H.s.call hb).z, (H.s.call hb).b.trans ((fr_setCells w2 gs (k * 16) (encTx hh)).below (H.s.call hb).b.size (by simp; omega)), Nat.le_trans (H.s.call hb).s (fr_setCells w2 gs (k * 16) (encTx hh)).size⟩
  l := kTxOk.loc (kTxOk.loc (R' := fun b => w.heap.size + 2 ≤ b ∧ b ≠ gs) H.l (Fr.of_below (own := []) hb) (fun b _ h => ⟨by simp, h⟩)) (fr_setCells w2 gs (k * 16) (encTx hh)) (fun b _ h => ⟨by simpa using h.2, h⟩)
  r := H.r.step kTxOk hb ht hk hgs H.hi (by omega)
  hi := Nat.le_trans H.hi (Nat.le_trans hb.size (fr_setCells w2 gs (k * 16) (encTx hh)).size)

set_option linter.unusedSimpArgs false in
set_option maxRecDepth 100000 in
set_option maxHeartbeats 20000000 in
theorem cloned_any : ∀ (t : TxT) (h : TxH) (w : World) (R : Nat → Prop), TxAt w R h t → TxOk 1048576 t → Calls Tryz.prog 56 #[txV h] w (ClonedP t w) := by
  refine Tr.ind ?_
  intro v subs ih h w R ht0 hok
  have ht : TxAt w (· < w.heap.size) h (.mk v subs) := ht0.more (fun b hb _ => hb)
  have hl := ht.loc
  obtain ⟨L, hL, hsub⟩ := ht.subs_at
  have hlen := ht.len
  have hsm := hok.top
  have hb1 : Below w.heap.size w ((w.alloc (.cells #[.int .i32 h.n.ty, .string h.n.path, slV h.d, slV h.a, .int .i64 h.n.ow, .int .i32 h.n.ve, .int .i32 h.n.cr, .bool h.n.qh, .int .i64 h.n.qc, .int .i64 h.n.qb, .int .i64 h.n.si, .int .i32 h.n.st, slV h.i, slV h.p, .int .i32 h.n.co, slV h.s] 33)).alloc (.cells #[.int .i32 0, .string ⟨#[]⟩, .slice none 0 0, .slice none 0 0, .int .i64 0, .int .i32 0, .int .i32 0, .bool false, .int .i64 0, .int .i64 0, .int .i64 0, .int .i32 0, .slice none 0 0, .slice none 0 0, .int .i32 0, .slice none 0 0] 33)) := ((Below.refl _ w).alloc (Nat.le_refl _) _).alloc (by simp) _
  have HS := Lib.hid (CnSt.start w #[.int .i32 h.n.ty, .string h.n.path, slV h.d, slV h.a, .int .i64 h.n.ow, .int .i32 h.n.ve, .int .i32 h.n.cr, .bool h.n.qh, .int .i64 h.n.qc, .int .i64 h.n.qb, .int .i64 h.n.si, .int .i32 h.n.st, slV h.i, slV h.p, .int .i32 h.n.co, slV h.s] #[.int .i32 0, .string ⟨#[]⟩, .slice none 0 0, .slice none 0 0, .int .i64 0, .int .i32 0, .int .i32 0, .bool false, .int .i64 0, .int .i64 0, .int .i64 0, .int .i32 0, .slice none 0 0, .slice none 0 0, .int .i32 0, .slice none 0 0] 33)
  have HCd := Lib.hid (fun (W : World) (hW : Below w.heap.size w W) => cloneByte_any h.d.1 h.d.2.1 h.d.2.2 v.data W ((hl.2.1.sl (fun _ => by simp [enc8])).belowMore hW hW.size) hl.2.1.hd.1 (by have h1 := hsm.2.2.1; have h2 := hl.2.1.1; simp only [Tr.v, Tr.subs] at *; omega))
  have HLd := Lib.hid hl.2.1.len
  have HCa := Lib.hid (fun (W : World) (hW : Below w.heap.size w W) => cloneAcl_any h.a.1 h.a.2.1 h.a.2.2 v.acl W ((hl.2.2.1.sl (fun _ => by simp [encAcl])).belowMore hW hW.size) hl.2.2.1.hd.1 (by have h1 := hsm.2.2.2.1; have h2 := hl.2.2.1.1; simp only [Tr.v, Tr.subs] at *; omega))
  have HLa := Lib.hid hl.2.2.1.len
  have HCi := Lib.hid (fun (W : World) (hW : Below w.heap.size w W) => cloneIds_any h.i.1 h.i.2.1 h.i.2.2 v.ids W ((hl.2.2.2.1.sl (fun _ => by simp [encId])).belowMore hW hW.size) hl.2.2.2.1.hd.1 (by have h1 := hsm.2.2.2.2.1; have h2 := hl.2.2.2.1.1; simp only [Tr.v, Tr.subs] at *; omega))
  have HLi := Lib.hid hl.2.2.2.1.len
  have HCp := Lib.hid (fun (W : World) (hW : Below w.heap.size w W) => cloneStr_any h.p.1 h.p.2.1 h.p.2.2 v.paths W ((hl.2.2.2.2.sl (fun _ => by simp [encStr])).belowMore hW hW.size) hl.2.2.2.2.hd.1 (by have h1 := hsm.2.2.2.2.2.1; have h2 := hl.2.2.2.2.1; simp only [Tr.v, Tr.subs] at *; omega))
  have HLp := Lib.hid hl.2.2.2.2.len
  have HCs := Lib.hid (fun (W : World) (hW : Below w.heap.size w W) => cloneTx_any h.s.1 h.s.2.1 h.s.2.2 L W ((hL.sl (fun _ => by simp [encTx])).belowMore hW hW.size) hL.hd.1 (Nat.le_trans (show h.s.2.1 ≤ 1048576 by have h1 := hsm.2.2.2.2.2.2.1; rw [hlen] at h1; exact h1) (by omega)))
  have HLs := Lib.hid hL.len
  have HSUB := Lib.hid hsub; have HLEN := Lib.hid (show subs.length = h.s.2.1 from hlen); have HN := Lib.hid hl.1
  have HIH := Lib.hid ih; have HOK := Lib.hid (fun k (hk : k < subs.length) => hok.subAt (j := k) hk)
  have HSB := Lib.hid (show h.s.2.1 ≤ 1048576 by have h1 := hsm.2.2.2.2.2.2.1; rw [hlen] at h1; exact h1)
  have HB := Lib.hid hb1
  clear ht0 ht hl hL hsub hlen hsm hb1 ih hok
  go_enter Tryz.func56, Tryz.ntmps56
  go_wp2_with (first
    | (apply wpList_storeTop 33 33; exact rfl; exact rfl; exact rfl; (first | (with_reducible rfl) | (exact sz1 _ _) | (exact sz2 _ _ _) | (exact sz3 _ _ _ _)); exact rfl; exact infTx; exact rfl; simp [Value.oneCell'])
    | fail)
  refine (HCd.out _ HS.out.b).mono ?_
  generalize ((w.alloc (.cells #[.int .i32 h.n.ty, .string h.n.path, slV h.d, slV h.a, .int .i64 h.n.ow, .int .i32 h.n.ve, .int .i32 h.n.cr, .bool h.n.qh, .int .i64 h.n.qc, .int .i64 h.n.qb, .int .i64 h.n.si, .int .i32 h.n.st, slV h.i, slV h.p, .int .i32 h.n.co, slV h.s] 33)).alloc (.cells #[.int .i32 0, .string ⟨#[]⟩, .slice none 0 0, .slice none 0 0, .int .i64 0, .int .i32 0, .int .i32 0, .bool false, .int .i64 0, .int .i64 0, .int .i64 0, .int .i32 0, .slice none 0 0, .slice none 0 0, .int .i32 0, .slice none 0 0] 33)) = V0 at *
  rintro e w0 ⟨⟨A0, c0, rfl, hr⟩, hb⟩
  have HRd := Lib.hid hr; have HSZ0 := Lib.hid (show w.heap.size + 2 ≤ V0.heap.size from HS.out.s); have HBX0 := Lib.hid hb
  replace HRd := Lib.hid (CloneP.slr hr (fun _ => rfl) HLd.out HSZ0.out)
  replace HS := Lib.hid (HS.out.call hb)
  have z0 := HS.out.cell (i := 2) (v := slV h.d) rfl
  have f0 := HS.out.frz 2
  have y0 := HS.out.cell (i := 3) (v := slV h.a) rfl
  clear hr hb
  go_wp2_with fail
  replace HS := Lib.hid (HS.out.set 2 (.slice A0 h.d.2.1 c0))
  replace HS := Lib.hid (show CnSt w (w0.setCell ⟨w.heap.size, 2, none⟩ (.slice A0 h.d.2.1 c0)) #[.int .i32 h.n.ty, .string h.n.path, .slice A0 h.d.2.1 c0, slV h.a, .int .i64 h.n.ow, .int .i32 h.n.ve, .int .i32 h.n.cr, .bool h.n.qh, .int .i64 h.n.qc, .int .i64 h.n.qb, .int .i64 h.n.si, .int .i32 h.n.st, slV h.i, slV h.p, .int .i32 h.n.co, slV h.s] _ _ from HS.out)
  replace HRd := Lib.hid (HRd.out.put (fun _ => by simp [enc8]) 2 (.slice A0 h.d.2.1 c0))
  generalize w0.setCell ⟨w.heap.size, 2, none⟩ (.slice A0 h.d.2.1 c0) = V1 at *
  clear z0 f0 y0 HSZ0 HBX0
  refine (HCa.out _ HS.out.b).mono ?_
  rintro e w1 ⟨⟨A1, c1, rfl, hr⟩, hb⟩
  have HRa := Lib.hid hr; have HSZ1 := Lib.hid (show w.heap.size + 2 ≤ V1.heap.size from HS.out.s); have HBX1 := Lib.hid hb
  replace HRd := Lib.hid (HRd.out.later hb (fun _ => by simp [enc8]))
  replace HRa := Lib.hid (CloneP.slr hr (fun _ => rfl) HLa.out HSZ1.out)
  replace HS := Lib.hid (HS.out.call hb)
  have z1 := HS.out.cell (i := 3) (v := slV h.a) rfl
  have f1 := HS.out.frz 3
  have y1 := HS.out.cell (i := 12) (v := slV h.i) rfl
  clear hr hb
  go_wp2_with fail
  replace HS := Lib.hid (HS.out.set 3 (.slice A1 h.a.2.1 c1))
  replace HS := Lib.hid (show CnSt w (w1.setCell ⟨w.heap.size, 3, none⟩ (.slice A1 h.a.2.1 c1)) #[.int .i32 h.n.ty, .string h.n.path, .slice A0 h.d.2.1 c0, .slice A1 h.a.2.1 c1, .int .i64 h.n.ow, .int .i32 h.n.ve, .int .i32 h.n.cr, .bool h.n.qh, .int .i64 h.n.qc, .int .i64 h.n.qb, .int .i64 h.n.si, .int .i32 h.n.st, slV h.i, slV h.p, .int .i32 h.n.co, slV h.s] _ _ from HS.out)
  replace HRd := Lib.hid (HRd.out.put (fun _ => by simp [enc8]) 3 (.slice A1 h.a.2.1 c1))
  replace HRa := Lib.hid (HRa.out.put (fun _ => by simp [encAcl]) 3 (.slice A1 h.a.2.1 c1))
  generalize w1.setCell ⟨w.heap.size, 3, none⟩ (.slice A1 h.a.2.1 c1) = V2 at *
  clear z1 f1 y1 HSZ1 HBX1
  refine (HCi.out _ HS.out.b).mono ?_
  rintro e w2 ⟨⟨A2, c2, rfl, hr⟩, hb⟩
  have HRi := Lib.hid hr; have HSZ2 := Lib.hid (show w.heap.size + 2 ≤ V2.heap.size from HS.out.s); have HBX2 := Lib.hid hb
  replace HRd := Lib.hid (HRd.out.later hb (fun _ => by simp [enc8]))
  replace HRa := Lib.hid (HRa.out.later hb (fun _ => by simp [encAcl]))
  replace HRi := Lib.hid (CloneP.slr hr (fun _ => rfl) HLi.out HSZ2.out)
  replace HS := Lib.hid (HS.out.call hb)
  have z2 := HS.out.cell (i := 12) (v := slV h.i) rfl
  have f2 := HS.out.frz 12
  have y2 := HS.out.cell (i := 13) (v := slV h.p) rfl
  clear hr hb
  go_wp2_with fail
  replace HS := Lib.hid (HS.out.set 12 (.slice A2 h.i.2.1 c2))
  replace HS := Lib.hid (show CnSt w (w2.setCell ⟨w.heap.size, 12, none⟩ (.slice A2 h.i.2.1 c2)) #[.int .i32 h.n.ty, .string h.n.path, .slice A0 h.d.2.1 c0, .slice A1 h.a.2.1 c1, .int .i64 h.n.ow, .int .i32 h.n.ve, .int .i32 h.n.cr, .bool h.n.qh, .int .i64 h.n.qc, .int .i64 h.n.qb, .int .i64 h.n.si, .int .i32 h.n.st, .slice A2 h.i.2.1 c2, slV h.p, .int .i32 h.n.co, slV h.s] _ _ from HS.out)
  replace HRd := Lib.hid (HRd.out.put (fun _ => by simp [enc8]) 12 (.slice A2 h.i.2.1 c2))
  replace HRa := Lib.hid (HRa.out.put (fun _ => by simp [encAcl]) 12 (.slice A2 h.i.2.1 c2))
  replace HRi := Lib.hid (HRi.out.put (fun _ => by simp [encId]) 12 (.slice A2 h.i.2.1 c2))
  generalize w2.setCell ⟨w.heap.size, 12, none⟩ (.slice A2 h.i.2.1 c2) = V3 at *
  clear z2 f2 y2 HSZ2 HBX2
  refine (HCp.out _ HS.out.b).mono ?_
  rintro e w3 ⟨⟨A3, c3, rfl, hr⟩, hb⟩
  have HRp := Lib.hid hr; have HSZ3 := Lib.hid (show w.heap.size + 2 ≤ V3.heap.size from HS.out.s); have HBX3 := Lib.hid hb
  replace HRd := Lib.hid (HRd.out.later hb (fun _ => by simp [enc8]))
  replace HRa := Lib.hid (HRa.out.later hb (fun _ => by simp [encAcl]))
  replace HRi := Lib.hid (HRi.out.later hb (fun _ => by simp [encId]))
  replace HRp := Lib.hid (CloneP.slr hr (fun _ => rfl) HLp.out HSZ3.out)
  replace HS := Lib.hid (HS.out.call hb)
  have z3 := HS.out.cell (i := 13) (v := slV h.p) rfl
  have f3 := HS.out.frz 13
  have y3 := HS.out.cell (i := 15) (v := slV h.s) rfl
  clear hr hb
  go_wp2_with fail
  replace HS := Lib.hid (HS.out.set 13 (.slice A3 h.p.2.1 c3))
  replace HS := Lib.hid (show CnSt w (w3.setCell ⟨w.heap.size, 13, none⟩ (.slice A3 h.p.2.1 c3)) #[.int .i32 h.n.ty, .string h.n.path, .slice A0 h.d.2.1 c0, .slice A1 h.a.2.1 c1, .int .i64 h.n.ow, .int .i32 h.n.ve, .int .i32 h.n.cr, .bool h.n.qh, .int .i64 h.n.qc, .int .i64 h.n.qb, .int .i64 h.n.si, .int .i32 h.n.st, .slice A2 h.i.2.1 c2, .slice A3 h.p.2.1 c3, .int .i32 h.n.co, slV h.s] _ _ from HS.out)
  replace HRd := Lib.hid (HRd.out.put (fun _ => by simp [enc8]) 13 (.slice A3 h.p.2.1 c3))
  replace HRa := Lib.hid (HRa.out.put (fun _ => by simp [encAcl]) 13 (.slice A3 h.p.2.1 c3))
  replace HRi := Lib.hid (HRi.out.put (fun _ => by simp [encId]) 13 (.slice A3 h.p.2.1 c3))
  replace HRp := Lib.hid (HRp.out.put (fun _ => by simp [encStr]) 13 (.slice A3 h.p.2.1 c3))
  generalize w3.setCell ⟨w.heap.size, 13, none⟩ (.slice A3 h.p.2.1 c3) = V4 at *
  clear z3 f3 y3 HSZ3 HBX3
  refine (HCs.out _ HS.out.b).mono ?_
  rintro e w4 ⟨⟨A4, c4, rfl, hr⟩, hb⟩
  have HRs := Lib.hid hr; have HSZ4 := Lib.hid (show w.heap.size + 2 ≤ V4.heap.size from HS.out.s); have HBX4 := Lib.hid hb
  replace HRd := Lib.hid (HRd.out.fr (R' := fun b => w.heap.size + 2 ≤ b ∧ b < V4.heap.size) (Fr.of_below (own := []) hb) (fun b hlt h => ⟨by simp, h, hlt⟩) (fun _ => by simp [enc8]))
  replace HRa := Lib.hid (HRa.out.fr (R' := fun b => w.heap.size + 2 ≤ b ∧ b < V4.heap.size) (Fr.of_below (own := []) hb) (fun b hlt h => ⟨by simp, h, hlt⟩) (fun _ => by simp [encAcl]))
  replace HRi := Lib.hid (HRi.out.fr (R' := fun b => w.heap.size + 2 ≤ b ∧ b < V4.heap.size) (Fr.of_below (own := []) hb) (fun b hlt h => ⟨by simp, h, hlt⟩) (fun _ => by simp [encId]))
  replace HRp := Lib.hid (HRp.out.fr (R' := fun b => w.heap.size + 2 ≤ b ∧ b < V4.heap.size) (Fr.of_below (own := []) hb) (fun b hlt h => ⟨by simp, h, hlt⟩) (fun _ => by simp [encStr]))
  replace HS := Lib.hid (HS.out.call hb)
  have z4 := HS.out.cell (i := 15) (v := slV h.s) rfl
  have f4 := HS.out.frz 15
  clear hr hb
  go_wp2_with fail
  obtain ⟨hA, hnc, gs, hgs, hgA, hst⟩ := ClSt.start kTxOk (B := w.heap.size) (subs := subs) HRs.out HLs.out (fun j hj => (HSUB.out j hj).fr kTxOk (Fr.of_below (own := []) HS.out.b) (fun b hlt _ => ⟨by simp, hlt⟩))
  have hst' := hst.other kTxOk (fr_set w4 w.heap.size 15 (.slice A4 h.s.2.1 c4)) (World.there_setCells hst.th w.heap.size 15 [.slice A4 h.s.2.1 c4]) (by have := HSZ4.out; simp; omega) (fun g hg => by have := HS.out.s; simp at hg; omega)
  have HR0 := Lib.hid (show ClR w ⟨h.n, (A0, h.d.2.1, c0), (A1, h.a.2.1, c1), (A2, h.i.2.1, c2), (A3, h.p.2.1, c3), (A4, h.s.2.1, c4)⟩ v subs h.s.2.1 gs w4.heap.size _ 0 (w4.setCell ⟨w.heap.size, 15, none⟩ (.slice A4 h.s.2.1 c4)) from
    ⟨HS.out.set 15 _, ⟨HN.out, HRd.out.fr (fr_set _ _ _ _) (fun b _ h => ⟨by simp; omega, h.1, by have := HBX4.out.size; omega⟩) (fun _ => by simp [enc8]), HRa.out.fr (fr_set _ _ _ _) (fun b _ h => ⟨by simp; omega, h.1, by omega⟩) (fun _ => by simp [encAcl]), HRi.out.fr (fr_set _ _ _ _) (fun b _ h => ⟨by simp; omega, h.1, by omega⟩) (fun _ => by simp [encId]), HRp.out.fr (fr_set _ _ _ _) (fun b _ h => ⟨by simp; omega, h.1, by omega⟩) (fun _ => by simp [encStr])⟩, hst', (fr_set w4 w.heap.size 15 _).size⟩)
  have HA := Lib.hid (And.intro hA (And.intro hnc hgA)); have HGS := Lib.hid (show w.heap.size + 2 ≤ gs from Nat.le_trans HSZ4.out hgs); have HHI := Lib.hid (show 0 < h.s.2.1 → gs < w4.heap.size from fun h0 => (hgA h0).2)
  clear hA hnc hgs hgA hst hst' HRd HRa HRi HRp HRs HCd HCa HCi HCp HCs HLd HLa HLi HLp HLs z4 f4 HS HSUB HB
  generalize w4.setCell ⟨w.heap.size, 15, none⟩ (.slice A4 h.s.2.1 c4) = V5 at *
  have HSH := Lib.hid (show w.heap.size + 2 ≤ w4.heap.size from Nat.le_trans HSZ4.out HBX4.out.size)
  clear HBX4 HSZ4
  generalize w4.heap.size = hi at *
  go_loopw [30] (fun i wr => ∃ k : Nat, i = .int .i64 ↑k ∧ k ≤ h.s.2.1 ∧ ClR w ⟨h.n, (A0, h.d.2.1, c0), (A1, h.a.2.1, c1), (A2, h.i.2.1, c2), (A3, h.p.2.1, c3), (A4, h.s.2.1, c4)⟩ v subs h.s.2.1 gs hi #[.int .i32 0, .string ⟨#[]⟩, .slice none 0 0, .slice none 0 0, .int .i64 0, .int .i32 0, .int .i32 0, .bool false, .int .i64 0, .int .i64 0, .int .i64 0, .int .i32 0, .slice none 0 0, .slice none 0 0, .int .i32 0, .slice none 0 0] k wr) (fun i _ => h.s.2.1 - (RowKit.intOf i).toNat)
  case atStart => exact ⟨0, rfl, Nat.zero_le _, HR0.out⟩
  case round =>
    obtain ⟨k, rfl, hk, hR⟩ := hrel
    have hsb := HSB.out
    by_cases hlt : k < h.s.2.1
    · have hA4 := (HA.out.2.2 (by omega)).1
      have hb9 : Below wr.heap.size wr wr := Below.refl _ _
      obtain ⟨hh, hr, htk⟩ := hR.r.old k (Nat.le_refl _) hlt
      have HIHk := Lib.hid (fun (W : World) (hW : Below wr.heap.size wr W) => HIH.out k (by rw [HLEN.out]; exact hlt) hh W _ (htk.fr kTxOk (Fr.of_below (own := []) hW) (fun b hb h => ⟨by simp, h⟩)) (HOK.out k (by rw [HLEN.out]; exact hlt)))
      have HR := Lib.hid hR
      have x15 : wr.cell? ⟨w.heap.size, 15, none⟩ = some (.slice A4 h.s.2.1 c4) := hR.s.cell rfl
      have HLT := Lib.hid hlt
      subst hA4
      obtain ⟨W9, HW9⟩ : ∃ W9 : World, Hid (W9 = wr.alloc (.cells #[.int .i32 hh.n.ty, .string hh.n.path, slV hh.d, slV hh.a, .int .i64 hh.n.ow, .int .i32 hh.n.ve, .int .i32 hh.n.cr, .bool hh.n.qh, .int .i64 hh.n.qc, .int .i64 hh.n.qb, .int .i64 hh.n.si, .int .i32 hh.n.st, slV hh.i, slV hh.p, .int .i32 hh.n.co, slV hh.s] 33)) := ⟨_, Lib.hid rfl⟩
      have hbw : Below wr.heap.size wr W9 := HW9.out ▸ (Below.refl _ wr).alloc (Nat.le_refl _) _
      have hg9 : W9.heap[wr.heap.size]? = some (.cells #[.int .i32 hh.n.ty, .string hh.n.path, slV hh.d, slV hh.a, .int .i64 hh.n.ow, .int .i32 hh.n.ve, .int .i32 hh.n.cr, .bool hh.n.qh, .int .i64 hh.n.qc, .int .i64 hh.n.qb, .int .i64 hh.n.si, .int .i32 hh.n.st, slV hh.i, slV hh.p, .int .i32 hh.n.co, slV hh.s] 33 (0, 0)) := HW9.out ▸ heap_alloc_new wr _
      have HSO := Lib.hid (fun (W : World) (hW : Below W9.heap.size W9 W) => And.intro (hbw.trans (hW.mono hbw.size)) (And.intro (keep1 x15 (hbw.trans (hW.mono hbw.size))) (range_below (rangeAt_heapC (pre := []) (mid := encTx hh) (post := []) hg9 rfl rfl) hW)))
      have S0 := HSO.out W9 (Below.refl _ _)
      clear hR x15 htk hbw hg9
      go_wp2_with (first
        | (apply wpList_loadMid 33; exact rfl; exact rfl; exact rfl; assumption; exact undTx; exact rfl; exact infTx)
        | (apply wpList_storeTop 33 33; exact rfl; exact rfl; exact rfl; (first | (with_reducible rfl) | (exact sz1 _ _) | (exact sz2 _ _ _) | (exact sz3 _ _ _ _)); exact rfl; exact infTx; exact rfl; simp [Value.oneCell'])
        | fail)
      rw [← HW9.out]
      refine wp_region_held_drew (S := fun w' => w'.cell? ⟨w.heap.size, 15, none⟩ = some (.slice (some ⟨gs, 0, none⟩) h.s.2.1 c4) ∧ w'.rangeAt wr.heap.size 0 (encTx hh)) (by kernel_rfl) (HSO.out _ (drew_self _)).2 (fun hHeld => ?_)
      refine wpAnyH_take (i := 0) (v := .pointer (some ⟨w.heap.size, 15, none⟩)) rfl (by kernel_rfl) (by kernel_rfl) (by kernel_rfl) (fun _ _ _ h => h) (Or.inl ⟨by rfl, by intro w hSw; clear hSw; go_simp⟩) (by assumption) ?_
      simp only [Act.put, List.setIfInBounds_toArray, List.set_cons_zero, List.set_cons_succ]
      refine wpAnyH_take (i := 1) (v := .slice (some ⟨gs, 0, none⟩) h.s.2.1 c4) rfl (by kernel_rfl) (by kernel_rfl) (by kernel_rfl) (fun _ _ _ h => h) (Or.inl ⟨by rfl, by intro w hSw; obtain ⟨hSw, _⟩ := hSw; go_simp⟩) (by assumption) ?_
      simp only [Act.put, List.setIfInBounds_toArray, List.set_cons_zero, List.set_cons_succ]
      refine wpAnyH_take (i := 2) (v := .int .i64 ↑k) rfl (by kernel_rfl) (by kernel_rfl) (by kernel_rfl) (fun _ _ _ h => h) (Or.inl ⟨by rfl, by intro w hSw; clear hSw; go_simp⟩) (by assumption) ?_
      simp only [Act.put, List.setIfInBounds_toArray, List.set_cons_zero, List.set_cons_succ]
      refine wpAnyH_take (i := 3) (v := .agg (encTx hh).toArray) rfl (by kernel_rfl) (by kernel_rfl) (by kernel_rfl) (fun _ _ _ h => h) (yieldsIf_load_mid (by rfl) 33 _ rfl wr.heap.size 0 rfl (encTx hh) _ (fun _ h => h.2) undTx rfl infTx) (by assumption) ?_
      simp only [Act.put, List.setIfInBounds_toArray, List.set_cons_zero, List.set_cons_succ]
      refine wpAnyH_ready (rs := [4]) (by kernel_rfl) (by simp) (AllReadyH.cons rfl (fun K hK => ?_) AllReadyH.nil)
      go_simp
      refine (HIHk.out _ (HSO.out _ (drew_self _)).1).mono ?_
      rintro e w6 ⟨⟨h6, rfl, ht6⟩, hb6⟩
      dsimp only
      refine hK.out _ _ (HSO.out _ ((drew_self _).trans (hb6.mono (drew_self _).size))).2 (fun hHeld2 => ?_)
      clear hK K
      refine wpAnyH_take (i := 5) (v := .pointer (some ⟨gs, k * 16, none⟩)) rfl (by kernel_rfl) (by kernel_rfl) (by kernel_rfl) (fun _ _ _ h => h) (Or.inl ⟨by rfl, by intro w hSw; clear hSw; go_simp⟩) (by assumption) ?_
      simp only [Act.put, List.setIfInBounds_toArray, List.set_cons_zero, List.set_cons_succ]
      refine wpAnyH_ready (rs := [6]) (by kernel_rfl) (by simp) (AllReadyH.cons rfl (fun K hK => ?_) AllReadyH.nil)
      rw [if_pos (by rfl)]
      have hbA := (HSO.out _ (drew_self _)).1.trans (hb6.mono (HSO.out _ (drew_self _)).1.size)
      have hth := HR.out.r.there_row hlt
      refine wp_store_mid 33 _ _ rfl gs (k * 16) (encTx h6).toArray rfl rfl (there_below hth hbA) infTx (oneTx h6) ?_
      simp only [Act.put, List.setIfInBounds_toArray, List.set_cons_zero, List.set_cons_succ]
      have hFC := fr_setCells w6 gs (k * 16) (encTx h6)
      refine hK.out _ _ ⟨?_, ?_⟩ (fun hHeld3 => ?_)
      · have h1 := HR.out.s.s; have h2 := HGS.out
        exact (hFC.cell (p := ⟨w.heap.size, 15, none⟩) (by have := hbA.size; simp only; omega) (by simp; omega)).trans hHeld2.1
      · have h1 := HHI.out (by omega); have h2 := HR.out.hi
        exact World.rangeAt_setCells_apart hHeld2.2 _ _ _ (.inl (by omega))
      clear hK K
      refine wpAnyH_done (by kernel_rfl) ?_ _
      have HX := Lib.hid (HR.out.step hbA (hh := h6) (TrAt.fr kTxOk ht6 (Fr.refl [] w6) (fun b _ h => ⟨by simp, Nat.le_trans (HSO.out _ (drew_self _)).1.size h⟩)) hlt (HHI.out (by omega)) HGS.out)
      have hlk := HLT.out
      clear hFC hth hbA hHeld3 hHeld2 hHeld HR HSO HR0 ht6 hb6
      (try dsimp only [List.getElem_toArray, List.getElem_cons_succ, List.getElem_cons_zero])
      go_wp2_with fail
      go_roundw
      case rel => exact ⟨k + 1, by go_num, by omega, HX.out⟩
      case measure => show h.s.2.1 - ((↑k + 1 : Int)).toNat < h.s.2.1 - (↑k : Int).toNat; omega
    · have hkn : k = h.s.2.1 := by omega
      subst hkn
      have gC : wr.heap[w.heap.size]? = some (.cells #[.int .i32 h.n.ty, .string h.n.path, .slice A0 h.d.2.1 c0, .slice A1 h.a.2.1 c1, .int .i64 h.n.ow, .int .i32 h.n.ve, .int .i32 h.n.cr, .bool h.n.qh, .int .i64 h.n.qc, .int .i64 h.n.qb, .int .i64 h.n.si, .int .i32 h.n.st, .slice A2 h.i.2.1 c2, .slice A3 h.p.2.1 c3, .int .i32 h.n.co, .slice A4 h.s.2.1 c4] 33 (0, 0)) := hR.s.c
      have gZ := hR.s.z
      have HF := Lib.hid (fr_setRow9 wr (w.heap.size + 1) (encTx ⟨h.n, (A0, h.d.2.1, c0), (A1, h.a.2.1, c1), (A2, h.i.2.1, c2), (A3, h.p.2.1, c3), (A4, h.s.2.1, c4)⟩).toArray)
      have HTH := Lib.hid (hR.r.other kTxOk HF.out (there_fr9 hR.r.th HF.out (by have := HGS.out; simp; omega)) (by have := HGS.out; simp; omega) (fun g hg => by have := HSH.out; simp at hg; omega))
      have HR := Lib.hid hR
      clear hR HR0
      go_wp2_with (first
        | (apply wpList_loadRow 33 33; exact rfl; exact rfl; exact rfl; (first | assumption | (refine heap_under ?_; assumption) | (exact heap_s0 _ _) | (exact heap_s1 _ _ _) | (exact heap_s2 _ _ _ _) | (exact heap_s3 _ _ _ _ _) | (exact heap_under (heap_s0 _ _)) | (exact heap_under (heap_s1 _ _ _)) | (exact heap_under (heap_s2 _ _ _ _)) | (exact heap_under (heap_under (heap_s0 _ _))) | (exact heap_under (heap_under (heap_s1 _ _ _))) | (exact heap_under (heap_under (heap_under (heap_s0 _ _))))); exact undTx; exact rfl; exact infTx)
        | (apply wpList_storeRow 33 33; exact rfl; exact rfl; exact rfl; exact rfl; (first | assumption | (refine heap_under ?_; assumption) | (exact heap_s0 _ _) | (exact heap_s1 _ _ _) | (exact heap_s2 _ _ _ _) | (exact heap_s3 _ _ _ _ _) | (exact heap_under (heap_s0 _ _)) | (exact heap_under (heap_s1 _ _ _)) | (exact heap_under (heap_s2 _ _ _ _)) | (exact heap_under (heap_under (heap_s0 _ _))) | (exact heap_under (heap_under (heap_s1 _ _ _))) | (exact heap_under (heap_under (heap_under (heap_s0 _ _))))); exact infTx; exact rfl; simp [Value.oneCell'])
        | fail)
      have hTR : TxAt (wr.setRow (w.heap.size + 1) (encTx ⟨h.n, (A0, h.d.2.1, c0), (A1, h.a.2.1, c1), (A2, h.i.2.1, c2), (A3, h.p.2.1, c3), (A4, h.s.2.1, c4)⟩).toArray) (w.heap.size ≤ ·) ⟨h.n, (A0, h.d.2.1, c0), (A1, h.a.2.1, c1), (A2, h.i.2.1, c2), (A3, h.p.2.1, c3), (A4, h.s.2.1, c4)⟩ (.mk v subs) :=
        HTH.out.tree kTxOk (kTxOk.loc HR.out.l HF.out (fun b _ h => ⟨by simp; omega, by omega⟩)) HLEN.out rfl ⟨HA.out.1, HA.out.2.1⟩ (fun h0 => ⟨(HA.out.2.2 h0).1, by have := HGS.out; omega⟩) (fun b hb => by have := HSH.out; omega)
      exact bodyPost_cell rfl rfl (setRow_heap _ _ _ _ _ _ gZ) undTx rfl infTx rfl ⟨⟨_, rfl, hTR⟩, below_setRow HR.out.s.b (by omega) _⟩

end Go.Proofs.YthpjneobmmpbnaaGreatDoor
namespace Go.Proofs.YthpjneobmmpbnaaGreatDoor
open Go.RowKit Go.MapKept Go.Maps
/-- a block from B on, of which nothing is frozen -/
def NfR (w : World) (B b : Nat) : Prop := B ≤ b ∧ ∃ cs T, w.heap[b]? = some (.cells cs T (0, 0))
theorem NfR.fr {w w' : World} {B B' b : Nat} {own : List Nat} (H : NfR w B b) (hf : Fr own w w') (hn : b ∉ own) (hB : B' ≤ B) : NfR w' B' b := by
  obtain ⟨h1, cs, T, h2⟩ := H
  exact ⟨Nat.le_trans hB h1, cs, T, (hf.block b (Array.getElem?_eq_some_iff.1 h2).1 hn).trans h2⟩
theorem NfR.below {w w' : World} {B b : Nat} (H : NfR w B b) (hb : Below w.heap.size w w') : NfR w' B b := H.fr (Fr.of_below (own := []) hb) (by simp) (Nat.le_refl _)
theorem NfR.lt {w : World} {B b : Nat} (H : NfR w B b) : b < w.heap.size := by obtain ⟨_, cs, T, h⟩ := H; exact (Array.getElem?_eq_some_iff.1 h).1
theorem NfR.frz {w : World} {B b : Nat} (H : NfR w B b) (o : Nat) : w.frozen? ⟨b, o, none⟩ = false := by obtain ⟨_, cs, T, h⟩ := H; simp [World.frozen?, h]
/-- a block is none of a row -/
def offRow (A : Option Addr) (b : Nat) : Prop := ∀ o, A ≠ some ⟨b, o, none⟩
section
variable {α : Type} [Inhabited α] {w w' : World} {enc : α → List Value} {T : TypeId} {k base n c : Nat} {A : Option Addr} {l : List α}
theorem own_slrN (h : w.ownsRow base T k (.slice A n c) n (l.flatMap enc)) (hk : ∀ x, (enc x).length = k) (hl : l.length = n) : SlR w (NfR w base) enc k (A, n, c) l := by
  have h0 := own_slr h hk hl
  refine ⟨h0.1, h0.2.1, fun hn => ?_⟩
  obtain ⟨b, off, e, hb, hc⟩ := h0.2.2 hn
  rcases h.2 with ⟨e1, _⟩ | ⟨g, cap, cur, e1, h2, h3, _⟩
  · injection e1 with e1; rw [e1] at e; cases e
  · injection e1 with e1 _ _
    rw [e1] at e; injection e with e; injection e with e3 _
    exact ⟨b, off, by rw [e1, ← e3]; simp_all, ⟨hb, cur, T, by rw [← e3]; exact h3⟩, hc⟩
theorem own_mono {base' : Nat} {v : Value} {xs : List Value} (h : w.ownsRow base T k v n xs) (hb : base' ≤ base) : w.ownsRow base' T k v n xs := by
  refine ⟨h.1, ?_⟩
  rcases h.2 with h | ⟨g, cap, cur, e1, h2, h3⟩
  · exact .inl h
  · exact .inr ⟨g, cap, cur, e1, Nat.le_trans hb h2, h3⟩
theorem own_at {xs : List Value} (h : w.ownsRow base T k (.slice A n c) n xs) : (A = none ∧ n = 0 ∧ c = 0) ∨ ∃ g cur, A = some ⟨g, 0, none⟩ ∧ base ≤ g ∧ w.heap[g]? = some (.cells cur T (0, 0)) ∧ n ≤ c ∧ cur.size = c * k := by
  rcases h.2 with ⟨e, e2⟩ | ⟨g, cap, cur, e1, h2, h3, h4, h5, h6, h7⟩
  · injection e with e e3 e4
    exact .inl ⟨e, e2, e4⟩
  · injection e1 with e1 e3 e4
    subst e4
    exact .inr ⟨g, cur, e1, h2, h3, h4, h6⟩
end
/-- where a row lies behind an append -/
def OnT (A A' : Option Addr) (w w' : World) : Prop := (A' = A ∧ ∃ b, A = some ⟨b, 0, none⟩ ∧ Fr [b] w w') ∨ (Below w.heap.size w w' ∧ ∃ b, A' = some ⟨b, 0, none⟩ ∧ w.heap.size ≤ b)
theorem append_two {α : Type} [Inhabited α] {enc : α → List Value} {ST T : TypeId} {k bs : Nat} {z : Value} (E : ElemB enc ST T k bs z) {w : World} {base n c : Nat} {A : Option Addr} {l : List α} (hown : w.ownsRow base T k (.slice A n c) n (l.flatMap enc)) (hl : l.length = n) (ty : TypeId) (x : α) (g : Nat) (hx : w.rangeAt g 0 (enc x)) (hn : n ≤ 1048576) (hbase : base ≤ w.heap.size) :
    ∃ A' c' w', (Builtin.append_ #[ST, ST] ty #[.slice A n c, .slice (some ⟨g, 0, none⟩) 1 1]).run Tryz.prog w = .ok (.slice A' (n + 1) c') w' ∧ w'.ownsRow base T k (.slice A' (n + 1) c') (n + 1) ((l ++ [x]).flatMap enc) ∧ OnT A A' w w' := by
  obtain ⟨i0, hi0, hz0, hz1, hz2⟩ := info_partsI E.info
  have hnews : ∀ (j : Nat) (u : Value), (enc x)[j]? = some u → w.cell? ((⟨g, 0, none⟩ : Addr).add j) = some u := fun j u hu => by rw [Addr.add_lit]; exact hx j u hu
  have h1 : ∀ u ∈ enc x, u.oneCell' = true := E.one x
  have hlx : (enc x).length = 1 * k := by rw [E.len, Nat.one_mul]
  have hsm := E.small
  have hby : (n + 1) * bs ≤ 140737488355328 := by have := Nat.mul_le_mul (show n + 1 ≤ 1048577 by omega) hsm; omega
  have hfl : (l ++ [x]).flatMap enc = l.flatMap enc ++ enc x := by rw [List.flatMap_append, List.flatMap_singleton]
  have grows : ∀ (v' : Value) (w' : World), w'.ownsRow w.heap.size T k v' (n + 1) (l.flatMap enc ++ enc x) → w.grownBy w' none → ∃ A' c', v' = .slice A' (n + 1) c' ∧ w'.ownsRow base T k (.slice A' (n + 1) c') (n + 1) ((l ++ [x]).flatMap enc) ∧ OnT A A' w w' := by
    intro v' w' r1 r2
    obtain ⟨A2, c2, rfl⟩ := own_formI r1
    refine ⟨A2, c2, rfl, ?_, .inr ⟨(Below.refl _ w).grown r2 (Nat.le_refl _) (fun j hj => by cases hj), ?_⟩⟩
    · rw [hfl]; exact own_mono r1 hbase
    · rcases own_at r1 with ⟨_, h, _⟩ | ⟨b, cur, e, hb, _⟩
      · omega
      · exact ⟨b, e, hb⟩
  rcases own_at hown with ⟨rfl, rfl, rfl⟩ | ⟨b, cur, rfl, hb, hcur, hnc, hsz⟩
  · have hl0 : l = [] := List.length_eq_zero_iff.1 hl
    subst hl0
    obtain ⟨v', w', hrun, r1, r2, _⟩ := run_append_own (P := Tryz.prog) w w.heap.size ST ty T i0 z k bs E.under hi0 hz0 hz1 hz2 E.size E.pos (.slice none 0 0) 0 [] (World.ownsRow_nil w _ _ k) ⟨g, 0, none⟩ 1 1 (enc x) hlx hnews h1 (by decide) (by omega) (Nat.le_refl _)
    obtain ⟨A', c', rfl, h2, h3⟩ := grows v' w' r1 r2
    exact ⟨A', c', w', hrun, h2, h3⟩
  · by_cases hr : n + 1 ≤ c
    · have hin : ∀ j, j < (enc x).length → n * k + j < cur.size := fun j hj => by
        have h2 := Nat.mul_le_mul_right k hr
        rw [Nat.add_mul, Nat.one_mul] at h2
        rw [E.len] at hj
        omega
      have hrun2 := run_append_room_cells (P := Tryz.prog) (w := w) ST ty T i0 E.under hi0 b 0 n c ⟨g, 0, none⟩ 1 1 (enc x) (by rw [hz1]; exact hlx) hnews h1 hr
        (fun j hj => by
          rw [hz1, Nat.zero_add]
          have hc : w.cell? ⟨b, n * k + j, none⟩ = cur[n * k + j]? := by simp [World.cell?, hcur]
          rw [hc, Array.getElem?_eq_getElem (hin j hj)]; rfl) (fun j hj => by simp [World.frozen?, hcur])
      obtain ⟨v', w', hrun, r1, r2, _⟩ := run_append_own (P := Tryz.prog) w base ST ty T i0 z k bs E.under hi0 hz0 hz1 hz2 E.size E.pos _ n _ hown ⟨g, 0, none⟩ 1 1 (enc x) hlx hnews h1 (by unfold maxLen; omega) hby hbase
      rw [hrun2] at hrun
      injection hrun with e1 e2
      subst e1 e2
      exact ⟨_, _, _, hrun2, by rw [hfl]; exact r1, .inl ⟨rfl, b, rfl, Fr.of_grown r2 (List.mem_singleton.2 rfl)⟩⟩
    · have hown2 := hown
      obtain ⟨v', w', hrun, r1, r2⟩ := run_append_arg_grows (P := Tryz.prog) (w := w) ST ty T i0 z k bs E.under hi0 hz0 hz1 hz2 E.size E.pos ⟨b, 0, none⟩ n c (l.flatMap enc) (by rw [flat_len E.len, hl])
        (fun j u hu => by
          rw [Addr.add_lit, Nat.zero_add]
          exact hown2.cellAt j (by rw [← hown2.1]; exact (List.getElem?_eq_some_iff.1 hu).1) ▸ hu) ⟨g, 0, none⟩ 1 1 (enc x) hlx hnews (by omega) (by unfold maxLen; omega) hby
      obtain ⟨A', c', rfl, h2, h3⟩ := grows v' w' r1 r2
      exact ⟨A', c', w', hrun, h2, h3⟩
theorem wpList_appT {α : Type} [Inhabited α] {enc : α → List Value} {ST T : TypeId} {k bs : Nat} {z : Value} (E : ElemB enc ST T k bs z) {ops : Array Oper} {rest : List Oper} {o : Oper} {a : Act} {Q : Exit → Act → World → Prop} {w : World} {base n c : Nat} {A : Option Addr} {l : List α} (hown : w.ownsRow base T k (.slice A n c) n (l.flatMap enc)) (hl : l.length = n) (x : α) (g : Nat) (hgd : o.guard = none) (s y : Operand)
    (ho : o.op = .call { callee := .builtin .append, args := #[s, y], argTypes := #[ST, ST] }) (hs : a.eval s = .slice A n c) (hy : a.eval y = .slice (some ⟨g, 0, none⟩) 1 1) (hx : w.rangeAt g 0 (enc x)) (hn : n ≤ 1048576) (hbase : base ≤ w.heap.size)
    (h : ∀ A' c' w', w'.ownsRow base T k (.slice A' (n + 1) c') (n + 1) ((l ++ [x]).flatMap enc) → OnT A A' w w' → wpList Tryz.prog ops Q rest (a.put o.dst (.slice A' (n + 1) c')) w') : wpList Tryz.prog ops Q (o :: rest) a w := by
  obtain ⟨A', c', w', hrun, hp, hor⟩ := append_two E hown hl o.type x g hx hn hbase
  refine wpList_plain hgd fun K hK => ?_
  unfold Oper.wp
  simp [execOp, ho, resolve, invoke, builtin, hs, hy, hrun, Result.andThen]
  exact hK _ _ (h A' c' w' hp hor)
end Go.Proofs.YthpjneobmmpbnaaGreatDoor
namespace Go.Proofs.YthpjneobmmpbnaaGreatDoor
open Go.RowKit Go.MapKept
def CloneDlP (t : DlT) (w : World) (e : Ending) (w' : World) : Prop := (∃ h', e = .returned (dlV h') ∧ DlAt w' (w.heap.size ≤ ·) h' t) ∧ Below w.heap.size w w'
theorem rangeAt_join {w : World} {b o o' : Nat} {cs cs' : List Value} (h : w.rangeAt b o cs) (h' : w.rangeAt b o' cs') (e : o' = o + cs.length) : w.rangeAt b o (cs ++ cs') := fun j v hv => by
  rw [List.getElem?_append] at hv
  split at hv
  · exact h j v hv
  · rename_i hj
    have := h' _ v hv
    rwa [show o' + (j - cs.length) = o + j by omega] at this
theorem there_heap {w : World} {b : Nat} {C : Array Value} {T : TypeId} (h : w.heap[b]? = some (.cells C T (0, 0))) (o n : Nat) (hn : o + n ≤ C.size) : w.there b o n := fun j hj => by
  have hj' : o + j < C.size := by omega
  refine ⟨?_, by simp [World.frozen?, h]⟩
  rw [cellH h, Array.getElem?_eq_getElem hj']; rfl
set_option maxRecDepth 100000 in
set_option maxHeartbeats 20000000 in
theorem cloneDl_any (h : DlH) (t : DlT) (w : World) (R : Nat → Prop) (ht : DlAt w R h t) (hok : DlSm 1048576 t) : Calls Tryz.prog 33 #[dlV h] w (CloneDlP t w) := by
  have HS := Lib.hid (CnSt.start w #[.int .i64 h.se, .int .i32 h.xi, .int .i64 h.zx, .int .i64 h.ti, .int .i32 h.t.n.ty, .string h.t.n.path, slV h.t.d, slV h.t.a, .int .i64 h.t.n.ow, .int .i32 h.t.n.ve, .int .i32 h.t.n.cr, .bool h.t.n.qh, .int .i64 h.t.n.qc, .int .i64 h.t.n.qb, .int .i64 h.t.n.si, .int .i32 h.t.n.st, slV h.t.i, slV h.t.p, .int .i32 h.t.n.co, slV h.t.s] #[.int .i64 0, .int .i32 0, .int .i64 0, .int .i64 0, .int .i32 0, .string ⟨#[]⟩, .slice none 0 0, .slice none 0 0, .int .i64 0, .int .i32 0, .int .i32 0, .bool false, .int .i64 0, .int .i64 0, .int .i64 0, .int .i32 0, .slice none 0 0, .slice none 0 0, .int .i32 0, .slice none 0 0] 35)
  have HC := Lib.hid (fun (W : World) (hW : Below w.heap.size w W) => cloned_any t.t h.t W _ (TrAt.fr kTxOk (R' := R) ht.2 (Fr.of_below (own := []) hW) (fun b _ h => ⟨by simp, h⟩)) hok.2)
  have HE := Lib.hid ht.1
  have r0 : ((w.alloc (.cells #[.int .i64 h.se, .int .i32 h.xi, .int .i64 h.zx, .int .i64 h.ti, .int .i32 h.t.n.ty, .string h.t.n.path, slV h.t.d, slV h.t.a, .int .i64 h.t.n.ow, .int .i32 h.t.n.ve, .int .i32 h.t.n.cr, .bool h.t.n.qh, .int .i64 h.t.n.qc, .int .i64 h.t.n.qb, .int .i64 h.t.n.si, .int .i32 h.t.n.st, slV h.t.i, slV h.t.p, .int .i32 h.t.n.co, slV h.t.s] 35)).alloc (.cells #[.int .i64 0, .int .i32 0, .int .i64 0, .int .i64 0, .int .i32 0, .string ⟨#[]⟩, .slice none 0 0, .slice none 0 0, .int .i64 0, .int .i32 0, .int .i32 0, .bool false, .int .i64 0, .int .i64 0, .int .i64 0, .int .i32 0, .slice none 0 0, .slice none 0 0, .int .i32 0, .slice none 0 0] 35)).rangeAt w.heap.size 4 (encTx h.t) := rangeAt_heapC (pre := [.int .i64 h.se, .int .i32 h.xi, .int .i64 h.zx, .int .i64 h.ti]) (mid := encTx h.t) (post := []) HS.out.c rfl rfl
  clear ht hok
  go_enter Tryz.func33, Tryz.ntmps33
  go_wp2_with (first
    | (apply wpList_storeTop 35 35; exact rfl; exact rfl; exact rfl; (first | (with_reducible rfl) | (exact sz1 _ _) | (exact sz2 _ _ _) | (exact sz3 _ _ _ _)); exact rfl; exact infDl; exact rfl; simp [Value.oneCell'])
    | (apply wpList_loadMid 33; exact rfl; exact rfl; exact rfl; assumption; exact undTx; exact rfl; exact infTx)
    | fail)
  refine (HC.out _ HS.out.b).mono ?_
  generalize ((w.alloc (.cells #[.int .i64 h.se, .int .i32 h.xi, .int .i64 h.zx, .int .i64 h.ti, .int .i32 h.t.n.ty, .string h.t.n.path, slV h.t.d, slV h.t.a, .int .i64 h.t.n.ow, .int .i32 h.t.n.ve, .int .i32 h.t.n.cr, .bool h.t.n.qh, .int .i64 h.t.n.qc, .int .i64 h.t.n.qb, .int .i64 h.t.n.si, .int .i32 h.t.n.st, slV h.t.i, slV h.t.p, .int .i32 h.t.n.co, slV h.t.s] 35)).alloc (.cells #[.int .i64 0, .int .i32 0, .int .i64 0, .int .i64 0, .int .i32 0, .string ⟨#[]⟩, .slice none 0 0, .slice none 0 0, .int .i64 0, .int .i32 0, .int .i32 0, .bool false, .int .i64 0, .int .i64 0, .int .i64 0, .int .i32 0, .slice none 0 0, .slice none 0 0, .int .i32 0, .slice none 0 0] 35)) = V0 at *
  rintro e w1 ⟨⟨h6, rfl, ht6⟩, hb⟩
  have HB1 := Lib.hid hb
  have HSZ := Lib.hid HS.out.s
  replace HS := Lib.hid (HS.out.call hb)
  have hth : w1.there w.heap.size 4 16 := there_heap HS.out.c _ _ (Nat.le_refl _)
  have hF := fr_setCells w1 w.heap.size 4 (encTx h6)
  have gZ : (w1.setCells w.heap.size 4 (encTx h6)).heap[w.heap.size + 1]? = some (.cells #[.int .i64 0, .int .i32 0, .int .i64 0, .int .i64 0, .int .i32 0, .string ⟨#[]⟩, .slice none 0 0, .slice none 0 0, .int .i64 0, .int .i32 0, .int .i32 0, .bool false, .int .i64 0, .int .i64 0, .int .i64 0, .int .i32 0, .slice none 0 0, .slice none 0 0, .int .i32 0, .slice none 0 0] 35 (0, 0)) := (hF.block _ (by have := HS.out.s; omega) (by simp)).trans HS.out.z
  have hp : (w1.setCells w.heap.size 4 (encTx h6)).rangeAt w.heap.size 0 [.int .i64 h.se, .int .i32 h.xi, .int .i64 h.zx, .int .i64 h.ti] := World.rangeAt_setCells_apart (rangeAt_heapC (pre := []) (mid := [.int .i64 h.se, .int .i32 h.xi, .int .i64 h.zx, .int .i64 h.ti]) (post := [.int .i32 h.t.n.ty, .string h.t.n.path, slV h.t.d, slV h.t.a, .int .i64 h.t.n.ow, .int .i32 h.t.n.ve, .int .i32 h.t.n.cr, .bool h.t.n.qh, .int .i64 h.t.n.qc, .int .i64 h.t.n.qb, .int .i64 h.t.n.si, .int .i32 h.t.n.st, slV h.t.i, slV h.t.p, .int .i32 h.t.n.co, slV h.t.s]) HS.out.c rfl rfl) _ _ _ (.inr (.inl (by simp)))
  have hrr : (w1.setCells w.heap.size 4 (encTx h6)).rangeAt w.heap.size 0 (encDl ⟨h.se, h.xi, h.zx, h.ti, h6⟩) := rangeAt_join hp (World.rangeAt_setCells_same w1 w.heap.size 4 (encTx h6) hth) rfl
  have ht7 : TxAt (w1.setCells w.heap.size 4 (encTx h6)) (w.heap.size + 2 ≤ ·) h6 t.t := TrAt.fr kTxOk ht6 hF (fun b _ h => ⟨by have := HSZ.out; simp; omega, Nat.le_trans HSZ.out h⟩)
  have HT7 := Lib.hid ht7; have HG := Lib.hid (And.intro (hF.below HS.out.b.size (by simp)) gZ)
  have HF := Lib.hid hF
  clear ht6 hb ht7 hp hF
  go_wp2_with (first
    | (apply wpList_storeMid 33; exact rfl; exact rfl; exact rfl; exact rfl; assumption; exact infTx; simp [Value.oneCell'])
    | (apply wpList_loadMid 35; exact rfl; exact rfl; exact rfl; assumption; exact undDl; exact rfl; exact infDl)
    | (apply wpList_storeRow 35 35; exact rfl; exact rfl; exact rfl; exact rfl; (first | assumption | (refine heap_under ?_; assumption) | (exact heap_s0 _ _) | (exact heap_s1 _ _ _) | (exact heap_s2 _ _ _ _) | (exact heap_s3 _ _ _ _ _) | (exact heap_under (heap_s0 _ _)) | (exact heap_under (heap_s1 _ _ _)) | (exact heap_under (heap_s2 _ _ _ _)) | (exact heap_under (heap_under (heap_s0 _ _))) | (exact heap_under (heap_under (heap_s1 _ _ _))) | (exact heap_under (heap_under (heap_under (heap_s0 _ _))))); exact infDl; exact rfl; simp [Value.oneCell'])
    | fail)
  have hFr := fr_setRow9 (w1.setCells w.heap.size 4 (encTx h6)) (w.heap.size + 1) (encDl ⟨h.se, h.xi, h.zx, h.ti, h6⟩).toArray
  exact bodyPost_cell rfl rfl (setRow_heap _ _ _ _ _ _ gZ) undDl rfl infDl rfl ⟨⟨⟨h.se, h.xi, h.zx, h.ti, h6⟩, rfl, ⟨HE.out, TrAt.fr kTxOk HT7.out hFr (fun b _ h => ⟨by simp; omega, by omega⟩)⟩⟩, below_setRow (HS.out.b.trans HG.out.1) (by omega) _⟩
end Go.Proofs.YthpjneobmmpbnaaGreatDoor
namespace Go.Proofs.YthpjneobmmpbnaaGreatDoor
open Go.RowKit Go.MapKept Go.Maps
theorem elemBIdx : ElemB encId 26 108 2 32 (.agg #[.string ⟨#[]⟩, .string ⟨#[]⟩]) where
  under := Tryz.underlying26
  info := by kernel_rfl
  size := rfl
  len := fun _ => rfl
  pos := by decide
  one := fun x u hu => by
    simp [encId] at hu
    rcases hu with rfl | rfl <;> rfl
  small := by decide
theorem nth_snoc {α : Type} [Inhabited α] (l : List α) (x : α) (j : Nat) (h : j < l.length) : (l ++ [x])[j]! = l[j]! := by
  rw [getElem!_pos (l ++ [x]) j (by simp; omega), getElem!_pos l j h, List.getElem_append_left h]
theorem nth_last {α : Type} [Inhabited α] (l : List α) (x : α) : (l ++ [x])[l.length]! = x := by
  rw [getElem!_pos (l ++ [x]) l.length (by simp)]; simp
theorem OnT.keep {A A' : Option Addr} {w w' : World} (h : OnT A A' w w') : ∃ own, Fr own w w' ∧ (∀ b, b < w.heap.size → offRow A b → b ∉ own ∧ offRow A' b) ∧ ∀ g ∈ own, A = some ⟨g, 0, none⟩ := by
  rcases h with ⟨rfl, b, rfl, hf⟩ | ⟨hb, b, rfl, hge⟩
  · refine ⟨[b], hf, fun b' _ h => ⟨?_, h⟩, fun g hg => by rw [List.mem_singleton.1 hg]⟩
    rw [List.mem_singleton]
    intro e; subst e; exact h 0 rfl
  · exact ⟨[], Fr.of_below hb, fun b' hlt _ => ⟨by simp, fun o e => by injection e with e; injection e with e1 _; omega⟩, fun g hg => by cases hg⟩
theorem CnSt.fr {w V V' : World} {C Z : Array Value} {T : TypeId} {own : List Nat} (H : CnSt w V C Z T) (hf : Fr own V V') (hn : ∀ g ∈ own, w.heap.size + 2 ≤ g) : CnSt w V' C Z T :=
  ⟨(hf.block _ (by have := H.s; omega) (fun h => by have := hn _ h; omega)).trans H.c, (hf.block _ (by have := H.s; omega) (fun h => by have := hn _ h; omega)).trans H.z, H.b.trans (hf.below H.b.size (fun g hg => by have := hn g hg; omega)), Nat.le_trans H.s hf.size⟩
section
variable {α : Type} [Inhabited α] {w w' : World} {B : Nat} {k : Nat} {enc : α → List Value} {h : SlC} {zs : List α}
theorem SlR.nlater (H : SlR w (NfR w B) enc k h zs) (hb : Below w.heap.size w w') (hk : ∀ x, 0 < (enc x).length) : SlR w' (NfR w' B) enc k h zs :=
  H.fr (Fr.of_below (own := []) hb) (fun b _ h => ⟨by simp, h.below hb⟩) hk
theorem SlR.nput {g : Nat} (H : SlR w (NfR w (g + 2)) enc k h zs) (hk : ∀ x, 0 < (enc x).length) (o : Nat) (v : Value) : SlR (w.setCell ⟨g, o, none⟩ v) (NfR (w.setCell ⟨g, o, none⟩ v) (g + 2)) enc k h zs :=
  H.fr (fr_set w g o v) (fun b _ h => by
    have hn : b ∉ [g] := by have := h.1; simp; omega
    exact ⟨hn, h.fr (fr_set w g o v) hn (Nat.le_refl _)⟩) hk
theorem SlR.nown {T : TypeId} {base n c : Nat} {A : Option Addr} {l : List α} (h : w.ownsRow base T k (.slice A n c) n (l.flatMap enc)) (hk : ∀ x, (enc x).length = k) (hl : l.length = n) (hB : B ≤ base) : SlR w (NfR w B) enc k (A, n, c) l := own_slrN (own_mono h hB) hk hl
end
end Go.Proofs.YthpjneobmmpbnaaGreatDoor
namespace Go.Proofs.YthpjneobmmpbnaaGreatDoor
open Go.RowKit Go.MapKept Go.Maps
/-- the loop's state: the first k parts are copied -/
structure CtR (w : World) (h' : TxH) (v : TxF) (subs : List TxT) (Z : Array Value) (k : Nat) (A : Option Addr) (c : Nat) (wr : World) : Prop where
  s : CnSt w wr (encTx h').toArray Z 33
  l : locTx wr (fun b => NfR wr (w.heap.size + 2) b ∧ offRow A b) h' v
  r : ∃ Hs : List TxH, wr.ownsRow (w.heap.size + 2) 33 16 (.slice A k c) k (Hs.flatMap encTx) ∧ Hs.length = k ∧ ∀ j, j < k → TxAt wr (fun b => NfR wr (w.heap.size + 2) b ∧ offRow A b) Hs[j]! subs[j]!
theorem CtR.step {w : World} {h' : TxH} {v : TxF} {subs : List TxT} {Z : Array Value} {k : Nat} {A : Option Addr} {c : Nat} {wr w6 w7 w8 : World} (H : CtR w h' v subs Z k A c wr) (hb : Below wr.heap.size wr w6) {h6 : TxH} (ht : TxAt w6 (NfR w6 wr.heap.size) h6 subs[k]!) (hb7 : Below w6.heap.size w6 w7) {A' : Option Addr} {c' : Nat} {Hs : List TxH}
    (hr : wr.ownsRow (w.heap.size + 2) 33 16 (.slice A k c) k (Hs.flatMap encTx)) (hHl : Hs.length = k) (hHt : ∀ j, j < k → TxAt wr (fun b => NfR wr (w.heap.size + 2) b ∧ offRow A b) Hs[j]! subs[j]!)
    (hown : w8.ownsRow (w.heap.size + 2) 33 16 (.slice A' (k + 1) c') (k + 1) ((Hs ++ [h6]).flatMap encTx)) (hon : OnT A A' w7 w8) : CtR w h' v subs Z (k + 1) A' c' w8 := by
  have hb67 : Below wr.heap.size wr w7 := hb.trans (hb7.mono hb.size)
  have hs7 := H.s.call hb67
  obtain ⟨own, hf, hk, hoA⟩ := hon.keep
  have hA : ∀ g ∈ own, w.heap.size + 2 ≤ g := fun g hg => by
    have e := hoA g hg
    rcases own_at hr with ⟨e2, _⟩ | ⟨g2, cur, e2, h2, _⟩
    · rw [e2] at e; cases e
    · rw [e2] at e; injection e with e; injection e with e3 _; rw [← e3]; exact h2
  have hAlt : ∀ b, wr.heap.size ≤ b → offRow A b := fun b hb o e => by
    rcases own_at hr with ⟨e2, _⟩ | ⟨g2, cur, e2, _, h3, _⟩
    · rw [e2] at e; cases e
    · rw [e2] at e; injection e with e; injection e with e3 _
      have := (Array.getElem?_eq_some_iff.1 h3).1; omega
  have mv : ∀ b, b < wr.heap.size → (NfR wr (w.heap.size + 2) b ∧ offRow A b) → b ∉ own ∧ NfR w8 (w.heap.size + 2) b ∧ offRow A' b := fun b hlt h => by
    have h1 := hk b (Nat.lt_of_lt_of_le hlt hb67.size) h.2
    exact ⟨h1.1, (h.1.below hb67).fr hf h1.1 (Nat.le_refl _), h1.2⟩
  have hF : Fr own wr w8 := ⟨hf.os.trans hb67.os, hf.tape.trans hb67.tape, hf.output.trans hb67.output, Nat.le_trans hb67.size hf.size, fun g hg hn => (hf.block g (Nat.lt_of_lt_of_le hg hb67.size) hn).trans (hb67.block g hg)⟩
  refine ⟨hs7.fr hf (fun g hg => by have := hA g hg; omega), kTxOk.loc H.l hF mv, ⟨Hs ++ [h6], hown, by rw [List.length_append, hHl]; rfl, fun j hj => ?_⟩⟩
  by_cases e : j < k
  · rw [nth_snoc _ _ _ (by rw [hHl]; exact e)]
    exact (hHt j e).fr kTxOk hF mv
  · obtain rfl : j = k := by omega
    rw [show (Hs ++ [h6])[j]! = h6 by have := nth_last Hs h6; rw [hHl] at this; exact this]
    refine (ht.fr kTxOk (R' := NfR w7 wr.heap.size) (Fr.of_below (own := []) hb7) (fun b _ h => ⟨by simp, h.below hb7⟩)).fr kTxOk hf (fun b hlt h => ?_)
    have h1 := hk b hlt (hAlt b h.1)
    exact ⟨h1.1, h.fr hf h1.1 (by have := H.s.s; omega), h1.2⟩
def refCloneTxP (t : TxT) (w : World) (e : Ending) (w' : World) : Prop := (∃ h', e = .returned (txV h') ∧ TxAt w' (NfR w' w.heap.size) h' t) ∧ Below w.heap.size w w'
set_option linter.unusedSimpArgs false in
set_option maxRecDepth 100000 in
set_option maxHeartbeats 20000000 in
theorem refCloneTx_any : ∀ (t : TxT) (h : TxH) (w : World) (R : Nat → Prop), TxAt w R h t → TxOk 1048576 t → Calls Tryz.prog 36 #[txV h] w (refCloneTxP t w) := by
  refine Tr.ind ?_
  intro v subs ih h w R ht0 hok
  have ht : TxAt w (· < w.heap.size) h (.mk v subs) := ht0.more (fun b hb _ => hb)
  have hl := ht.loc
  obtain ⟨L, hL, hsub⟩ := ht.subs_at
  have hlen := ht.len
  have hsm := hok.top
  have HS := Lib.hid (CnSt.start w #[.int .i32 h.n.ty, .string h.n.path, slV h.d, slV h.a, .int .i64 h.n.ow, .int .i32 h.n.ve, .int .i32 h.n.cr, .bool h.n.qh, .int .i64 h.n.qc, .int .i64 h.n.qb, .int .i64 h.n.si, .int .i32 h.n.st, slV h.i, slV h.p, .int .i32 h.n.co, slV h.s] #[.int .i32 0, .string ⟨#[]⟩, .slice none 0 0, .slice none 0 0, .int .i64 0, .int .i32 0, .int .i32 0, .bool false, .int .i64 0, .int .i64 0, .int .i64 0, .int .i32 0, .slice none 0 0, .slice none 0 0, .int .i32 0, .slice none 0 0] 33)
  have HZd := Lib.hid (fun (W : World) (hW : Below w.heap.size w W) => (hl.2.1.sl (fun _ => by simp [enc8])).belowMore hW hW.size)
  have HHd := Lib.hid hl.2.1.hd.1; have HLd := Lib.hid hl.2.1.len
  have HMd := Lib.hid (show h.d.2.1 ≤ 1048576 by have h1 := hsm.2.2.1; have h2 := hl.2.1.1; simp only [Tr.v, Tr.subs] at *; omega)
  have HZa := Lib.hid (fun (W : World) (hW : Below w.heap.size w W) => (hl.2.2.1.sl (fun _ => by simp [encAcl])).belowMore hW hW.size)
  have HHa := Lib.hid hl.2.2.1.hd.1; have HLa := Lib.hid hl.2.2.1.len
  have HMa := Lib.hid (show h.a.2.1 ≤ 1048576 by have h1 := hsm.2.2.2.1; have h2 := hl.2.2.1.1; simp only [Tr.v, Tr.subs] at *; omega)
  have HZi := Lib.hid (fun (W : World) (hW : Below w.heap.size w W) => (hl.2.2.2.1.sl (fun _ => by simp [encId])).belowMore hW hW.size)
  have HHi := Lib.hid hl.2.2.2.1.hd.1; have HLi := Lib.hid hl.2.2.2.1.len
  have HMi := Lib.hid (show h.i.2.1 ≤ 1048576 by have h1 := hsm.2.2.2.2.1; have h2 := hl.2.2.2.1.1; simp only [Tr.v, Tr.subs] at *; omega)
  have HZp := Lib.hid (fun (W : World) (hW : Below w.heap.size w W) => (hl.2.2.2.2.sl (fun _ => by simp [encStr])).belowMore hW hW.size)
  have HHp := Lib.hid hl.2.2.2.2.hd.1; have HLp := Lib.hid hl.2.2.2.2.len
  have HMp := Lib.hid (show h.p.2.1 ≤ 1048576 by have h1 := hsm.2.2.2.2.2.1; have h2 := hl.2.2.2.2.1; simp only [Tr.v, Tr.subs] at *; omega)
  have HSUB := Lib.hid hsub; have HLEN := Lib.hid (show subs.length = h.s.2.1 from hlen); have HN := Lib.hid hl.1
  have HIH := Lib.hid ih; have HOK := Lib.hid (fun k (hk : k < subs.length) => hok.subAt (j := k) hk)
  have HSB := Lib.hid (show h.s.2.1 ≤ 1048576 by have h1 := hsm.2.2.2.2.2.2.1; rw [hlen] at h1; exact h1)
  have HROW := Lib.hid hL
  clear ht0 ht hl hL hsub hlen hsm ih hok
  go_enter Tryz.func36, Tryz.ntmps36
  go_upto_region 1 with (first
    | (apply wpList_storeTop 33 33; exact rfl; exact rfl; exact rfl; (first | (with_reducible rfl) | (exact sz1 _ _) | (exact sz2 _ _ _) | (exact sz3 _ _ _ _)); exact rfl; exact infTx; exact rfl; simp [Value.oneCell'])
    | fail)
  generalize ((w.alloc (.cells #[.int .i32 h.n.ty, .string h.n.path, slV h.d, slV h.a, .int .i64 h.n.ow, .int .i32 h.n.ve, .int .i32 h.n.cr, .bool h.n.qh, .int .i64 h.n.qc, .int .i64 h.n.qb, .int .i64 h.n.si, .int .i32 h.n.st, slV h.i, slV h.p, .int .i32 h.n.co, slV h.s] 33)).alloc (.cells #[.int .i32 0, .string ⟨#[]⟩, .slice none 0 0, .slice none 0 0, .int .i64 0, .int .i32 0, .int .i32 0, .bool false, .int .i64 0, .int .i64 0, .int .i64 0, .int .i32 0, .slice none 0 0, .slice none 0 0, .int .i32 0, .slice none 0 0] 33)) = V0 at *
  generalize (Value.agg #[.int .i32 h.n.ty, .string h.n.path, slV h.d, slV h.a, .int .i64 h.n.ow, .int .i32 h.n.ve, .int .i32 h.n.cr, .bool h.n.qh, .int .i64 h.n.qc, .int .i64 h.n.qb, .int .i64 h.n.si, .int .i32 h.n.st, slV h.i, slV h.p, .int .i32 h.n.co, slV h.s]) = arg0 at *
  have y0 := HS.out.cell (i := 2) (v := slV h.d) rfl
  have hb0 : Below V0.heap.size V0 (V0.alloc (.cells #[] 5)) := (Below.refl _ V0).alloc (Nat.le_refl _) _
  have y0' := keep1 y0 hb0
  have HBA := Lib.hid hb0
  have HZZ := Lib.hid (HZd.out _ (HS.out.b.trans (hb0.mono HS.out.b.size)))
  have HOW := Lib.hid (own_empty (T := 5) (k := 1) V0)
  have hm9 := HMd.out
  clear hb0
  go_wp2_with (at_builtin; refine wpList_appB elemBByte rfl _ _ rfl V0.heap.size (some ⟨V0.heap.size, 0, none⟩) 0 0 [] ?hx0 HOW.out h.d.1 h.d.2.1 h.d.2.2 v.data ?hy0 HZZ.out HHd.out (by omega) HBA.out.size ?hk0)
  (try case hx0 => rfl)
  (try case hy0 => rfl)
  case hk0 =>
  intro A0 c0 w0 hr hb _
  replace hr : w0.ownsRow V0.heap.size 5 1 (.slice A0 h.d.2.1 c0) h.d.2.1 (v.data.flatMap enc8) := by simpa using hr
  have hbv : Below V0.heap.size V0 w0 := HBA.out.trans hb
  have HRd := Lib.hid (SlR.nown hr (fun _ => rfl) HLd.out HS.out.s)
  replace HS := Lib.hid (HS.out.call hbv)
  have z0 := HS.out.cell (i := 2) (v := slV h.d) rfl
  have f0 := HS.out.frz 2
  clear hr hb hbv HBA HZZ HOW hm9 y0 y0'
  go_upto_region 2 with fail
  replace HS := Lib.hid (HS.out.set 2 (.slice A0 h.d.2.1 c0))
  replace HS := Lib.hid (show CnSt w (w0.setCell ⟨w.heap.size, 2, none⟩ (.slice A0 h.d.2.1 c0)) #[.int .i32 h.n.ty, .string h.n.path, .slice A0 h.d.2.1 c0, slV h.a, .int .i64 h.n.ow, .int .i32 h.n.ve, .int .i32 h.n.cr, .bool h.n.qh, .int .i64 h.n.qc, .int .i64 h.n.qb, .int .i64 h.n.si, .int .i32 h.n.st, slV h.i, slV h.p, .int .i32 h.n.co, slV h.s] _ _ from HS.out)
  replace HRd := Lib.hid (HRd.out.nput (fun _ => by simp [enc8]) 2 (.slice A0 h.d.2.1 c0))
  generalize w0.setCell ⟨w.heap.size, 2, none⟩ (.slice A0 h.d.2.1 c0) = V1 at *
  clear z0 f0
  have y1 := HS.out.cell (i := 3) (v := slV h.a) rfl
  have hb0 : Below V1.heap.size V1 (V1.alloc (.cells #[] 110)) := (Below.refl _ V1).alloc (Nat.le_refl _) _
  have y1' := keep1 y1 hb0
  have HBA := Lib.hid hb0
  have HZZ := Lib.hid (HZa.out _ (HS.out.b.trans (hb0.mono HS.out.b.size)))
  have HOW := Lib.hid (own_empty (T := 110) (k := 3) V1)
  have hm9 := HMa.out
  clear hb0
  go_wp2_with (at_builtin; refine wpList_appB elemBAcl rfl _ _ rfl V1.heap.size (some ⟨V1.heap.size, 0, none⟩) 0 0 [] ?hx1 HOW.out h.a.1 h.a.2.1 h.a.2.2 v.acl ?hy1 HZZ.out HHa.out (by omega) HBA.out.size ?hk1)
  (try case hx1 => rfl)
  (try case hy1 => rfl)
  case hk1 =>
  intro A1 c1 w1 hr hb _
  replace hr : w1.ownsRow V1.heap.size 110 3 (.slice A1 h.a.2.1 c1) h.a.2.1 (v.acl.flatMap encAcl) := by simpa using hr
  have hbv : Below V1.heap.size V1 w1 := HBA.out.trans hb
  have HRa := Lib.hid (SlR.nown hr (fun _ => rfl) HLa.out HS.out.s)
  replace HS := Lib.hid (HS.out.call hbv)
  replace HRd := Lib.hid (HRd.out.nlater hbv (fun _ => by simp [enc8]))
  have z1 := HS.out.cell (i := 3) (v := slV h.a) rfl
  have f1 := HS.out.frz 3
  clear hr hb hbv HBA HZZ HOW hm9 y1 y1'
  go_upto_region 3 with fail
  replace HS := Lib.hid (HS.out.set 3 (.slice A1 h.a.2.1 c1))
  replace HS := Lib.hid (show CnSt w (w1.setCell ⟨w.heap.size, 3, none⟩ (.slice A1 h.a.2.1 c1)) #[.int .i32 h.n.ty, .string h.n.path, .slice A0 h.d.2.1 c0, .slice A1 h.a.2.1 c1, .int .i64 h.n.ow, .int .i32 h.n.ve, .int .i32 h.n.cr, .bool h.n.qh, .int .i64 h.n.qc, .int .i64 h.n.qb, .int .i64 h.n.si, .int .i32 h.n.st, slV h.i, slV h.p, .int .i32 h.n.co, slV h.s] _ _ from HS.out)
  replace HRd := Lib.hid (HRd.out.nput (fun _ => by simp [enc8]) 3 (.slice A1 h.a.2.1 c1))
  replace HRa := Lib.hid (HRa.out.nput (fun _ => by simp [encAcl]) 3 (.slice A1 h.a.2.1 c1))
  generalize w1.setCell ⟨w.heap.size, 3, none⟩ (.slice A1 h.a.2.1 c1) = V2 at *
  clear z1 f1
  have y2 := HS.out.cell (i := 12) (v := slV h.i) rfl
  have hb0 : Below V2.heap.size V2 (V2.alloc (.cells #[] 108)) := (Below.refl _ V2).alloc (Nat.le_refl _) _
  have y2' := keep1 y2 hb0
  have HBA := Lib.hid hb0
  have HZZ := Lib.hid (HZi.out _ (HS.out.b.trans (hb0.mono HS.out.b.size)))
  have HOW := Lib.hid (own_empty (T := 108) (k := 2) V2)
  have hm9 := HMi.out
  clear hb0
  go_wp2_with (at_builtin; refine wpList_appB elemBIdx rfl _ _ rfl V2.heap.size (some ⟨V2.heap.size, 0, none⟩) 0 0 [] ?hx2 HOW.out h.i.1 h.i.2.1 h.i.2.2 v.ids ?hy2 HZZ.out HHi.out (by omega) HBA.out.size ?hk2)
  (try case hx2 => rfl)
  (try case hy2 => rfl)
  case hk2 =>
  intro A2 c2 w2 hr hb _
  replace hr : w2.ownsRow V2.heap.size 108 2 (.slice A2 h.i.2.1 c2) h.i.2.1 (v.ids.flatMap encId) := by simpa using hr
  have hbv : Below V2.heap.size V2 w2 := HBA.out.trans hb
  have HRi := Lib.hid (SlR.nown hr (fun _ => rfl) HLi.out HS.out.s)
  replace HS := Lib.hid (HS.out.call hbv)
  replace HRd := Lib.hid (HRd.out.nlater hbv (fun _ => by simp [enc8]))
  replace HRa := Lib.hid (HRa.out.nlater hbv (fun _ => by simp [encAcl]))
  have z2 := HS.out.cell (i := 12) (v := slV h.i) rfl
  have f2 := HS.out.frz 12
  clear hr hb hbv HBA HZZ HOW hm9 y2 y2'
  go_upto_region 4 with fail
  replace HS := Lib.hid (HS.out.set 12 (.slice A2 h.i.2.1 c2))
  replace HS := Lib.hid (show CnSt w (w2.setCell ⟨w.heap.size, 12, none⟩ (.slice A2 h.i.2.1 c2)) #[.int .i32 h.n.ty, .string h.n.path, .slice A0 h.d.2.1 c0, .slice A1 h.a.2.1 c1, .int .i64 h.n.ow, .int .i32 h.n.ve, .int .i32 h.n.cr, .bool h.n.qh, .int .i64 h.n.qc, .int .i64 h.n.qb, .int .i64 h.n.si, .int .i32 h.n.st, .slice A2 h.i.2.1 c2, slV h.p, .int .i32 h.n.co, slV h.s] _ _ from HS.out)
  replace HRd := Lib.hid (HRd.out.nput (fun _ => by simp [enc8]) 12 (.slice A2 h.i.2.1 c2))
  replace HRa := Lib.hid (HRa.out.nput (fun _ => by simp [encAcl]) 12 (.slice A2 h.i.2.1 c2))
  replace HRi := Lib.hid (HRi.out.nput (fun _ => by simp [encId]) 12 (.slice A2 h.i.2.1 c2))
  generalize w2.setCell ⟨w.heap.size, 12, none⟩ (.slice A2 h.i.2.1 c2) = V3 at *
  clear z2 f2
  have y3 := HS.out.cell (i := 13) (v := slV h.p) rfl
  have hb0 : Below V3.heap.size V3 (V3.alloc (.cells #[] 9)) := (Below.refl _ V3).alloc (Nat.le_refl _) _
  have y3' := keep1 y3 hb0
  have HBA := Lib.hid hb0
  have HZZ := Lib.hid (HZp.out _ (HS.out.b.trans (hb0.mono HS.out.b.size)))
  have HOW := Lib.hid (own_empty (T := 9) (k := 1) V3)
  have hm9 := HMp.out
  clear hb0
  go_wp2_with (at_builtin; refine wpList_appB elemBStr rfl _ _ rfl V3.heap.size (some ⟨V3.heap.size, 0, none⟩) 0 0 [] ?hx3 HOW.out h.p.1 h.p.2.1 h.p.2.2 v.paths ?hy3 HZZ.out HHp.out (by omega) HBA.out.size ?hk3)
  (try case hx3 => rfl)
  (try case hy3 => rfl)
  case hk3 =>
  intro A3 c3 w3 hr hb _
  replace hr : w3.ownsRow V3.heap.size 9 1 (.slice A3 h.p.2.1 c3) h.p.2.1 (v.paths.flatMap encStr) := by simpa using hr
  have hbv : Below V3.heap.size V3 w3 := HBA.out.trans hb
  have HRp := Lib.hid (SlR.nown hr (fun _ => rfl) HLp.out HS.out.s)
  replace HS := Lib.hid (HS.out.call hbv)
  replace HRd := Lib.hid (HRd.out.nlater hbv (fun _ => by simp [enc8]))
  replace HRa := Lib.hid (HRa.out.nlater hbv (fun _ => by simp [encAcl]))
  replace HRi := Lib.hid (HRi.out.nlater hbv (fun _ => by simp [encId]))
  have z3 := HS.out.cell (i := 13) (v := slV h.p) rfl
  have f3 := HS.out.frz 13
  clear hr hb hbv HBA HZZ HOW hm9 y3 y3'
  go_upto_region 5 with fail
  replace HS := Lib.hid (HS.out.set 13 (.slice A3 h.p.2.1 c3))
  replace HS := Lib.hid (show CnSt w (w3.setCell ⟨w.heap.size, 13, none⟩ (.slice A3 h.p.2.1 c3)) #[.int .i32 h.n.ty, .string h.n.path, .slice A0 h.d.2.1 c0, .slice A1 h.a.2.1 c1, .int .i64 h.n.ow, .int .i32 h.n.ve, .int .i32 h.n.cr, .bool h.n.qh, .int .i64 h.n.qc, .int .i64 h.n.qb, .int .i64 h.n.si, .int .i32 h.n.st, .slice A2 h.i.2.1 c2, .slice A3 h.p.2.1 c3, .int .i32 h.n.co, slV h.s] _ _ from HS.out)
  replace HRd := Lib.hid (HRd.out.nput (fun _ => by simp [enc8]) 13 (.slice A3 h.p.2.1 c3))
  replace HRa := Lib.hid (HRa.out.nput (fun _ => by simp [encAcl]) 13 (.slice A3 h.p.2.1 c3))
  replace HRi := Lib.hid (HRi.out.nput (fun _ => by simp [encId]) 13 (.slice A3 h.p.2.1 c3))
  replace HRp := Lib.hid (HRp.out.nput (fun _ => by simp [encStr]) 13 (.slice A3 h.p.2.1 c3))
  generalize w3.setCell ⟨w.heap.size, 13, none⟩ (.slice A3 h.p.2.1 c3) = V4 at *
  clear z3 f3
  have hb0 : Below V4.heap.size V4 (V4.alloc (.cells #[] 33)) := (Below.refl _ V4).alloc (Nat.le_refl _) _
  have HOW := Lib.hid (own_empty (T := 33) (k := 16) V4)
  have HV4 := Lib.hid HS.out.s
  replace HS := Lib.hid (HS.out.call hb0)
  have HR0 := Lib.hid (show CtR w ⟨h.n, (A0, h.d.2.1, c0), (A1, h.a.2.1, c1), (A2, h.i.2.1, c2), (A3, h.p.2.1, c3), h.s⟩ v subs #[.int .i32 0, .string ⟨#[]⟩, .slice none 0 0, .slice none 0 0, .int .i64 0, .int .i32 0, .int .i32 0, .bool false, .int .i64 0, .int .i64 0, .int .i64 0, .int .i32 0, .slice none 0 0, .slice none 0 0, .int .i32 0, .slice none 0 0] 0 (some ⟨V4.heap.size, 0, none⟩) 0 (V4.alloc (.cells #[] 33)) from ⟨HS.out, ⟨HN.out, HRd.out.fr (Fr.of_below (own := []) hb0) (fun b hlt h => ⟨by simp, h.below hb0, fun o e => by injection e with e; injection e with e1 _; omega⟩) (fun _ => by simp [enc8]), HRa.out.fr (Fr.of_below (own := []) hb0) (fun b hlt h => ⟨by simp, h.below hb0, fun o e => by injection e with e; injection e with e1 _; omega⟩) (fun _ => by simp [encAcl]), HRi.out.fr (Fr.of_below (own := []) hb0) (fun b hlt h => ⟨by simp, h.below hb0, fun o e => by injection e with e; injection e with e1 _; omega⟩) (fun _ => by simp [encId]), HRp.out.fr (Fr.of_below (own := []) hb0) (fun b hlt h => ⟨by simp, h.below hb0, fun o e => by injection e with e; injection e with e1 _; omega⟩) (fun _ => by simp [encStr])⟩, ⟨[], own_mono HOW.out HV4.out, rfl, fun j hj => absurd hj (by omega)⟩⟩)
  clear HS HRd HRa HRi HRp
  clear hb0 HOW HV4
  go_wp2_with fail
  go_loopw [3, 4] (fun sv i wr => ∃ (k : Nat) (A : Option Addr) (c : Nat), i = .int .i64 ↑k ∧ k ≤ h.s.2.1 ∧ sv = .slice A k c ∧ CtR w ⟨h.n, (A0, h.d.2.1, c0), (A1, h.a.2.1, c1), (A2, h.i.2.1, c2), (A3, h.p.2.1, c3), h.s⟩ v subs #[.int .i32 0, .string ⟨#[]⟩, .slice none 0 0, .slice none 0 0, .int .i64 0, .int .i32 0, .int .i32 0, .bool false, .int .i64 0, .int .i64 0, .int .i64 0, .int .i32 0, .slice none 0 0, .slice none 0 0, .int .i32 0, .slice none 0 0] k A c wr) (fun _ i _ => h.s.2.1 - (RowKit.intOf i).toNat)
  case atStart => exact ⟨0, _, 0, rfl, Nat.zero_le _, rfl, HR0.out⟩
  case round =>
  clear HR0
  obtain ⟨k, A, c, rfl, hk, rfl, hR⟩ := hrel
  have HR := Lib.hid hR; clear hR
  have xs : wr.cell? ⟨w.heap.size, 15, none⟩ = some (slV h.s) := HR.out.s.cell rfl
  have hsb := HSB.out
  by_cases hlt : k < h.s.2.1
  · obtain ⟨b, off, eb, hbl, hcb⟩ := HROW.out.2.2 (show 0 < h.s.2.1 by omega)
    have hbw := HR.out.s.b
    have hr1 : wr.rangeAt b (off + k * 16) (encTx L[k]!) := fun i u hu => keep1 (hcb k hlt i u hu) hbw
    have xs' : wr.cell? ⟨w.heap.size, 15, none⟩ = some (.slice (some ⟨b, off, none⟩) h.s.2.1 h.s.2.2) := by rw [xs, ← eb]
    have HIHk := Lib.hid (HIH.out k (by rw [HLEN.out]; exact hlt) L[k]! wr _ ((HSUB.out k hlt).fr kTxOk (R' := (· < w.heap.size)) (Fr.of_below (own := []) hbw) (fun b _ h => ⟨by simp, h⟩)) (HOK.out k (by rw [HLEN.out]; exact hlt)))
    have hki : (k : Int) < (h.s.2.1 : Int) := by omega
    have hk0 : (0 : Int) ≤ (k : Int) := by omega
    clear hcb hbw xs eb
    generalize L[k]! = hj at *
    go_wp2_with (first
      | (apply wpList_loadMid 33; exact rfl; exact rfl; exact rfl; exact hr1; exact undTx; exact rfl; exact infTx)
      | fail)
    refine HIHk.out.mono ?_
    rintro e w6 ⟨⟨h6, rfl, ht6⟩, hb6⟩
    have HB6 := Lib.hid hb6; have HT6 := Lib.hid ht6
    clear hb6 ht6 HIHk hr1 xs'
    obtain ⟨Hs, hrow, hHl, hHt⟩ := HR.out.r
    have hb7 : Below w6.heap.size w6 (w6.alloc (.cells (encTx h6).toArray 33)) := (Below.refl _ w6).alloc (Nat.le_refl _) _
    have HB7 := Lib.hid hb7
    have HX7 := Lib.hid (show (w6.alloc (.cells (encTx h6).toArray 33)).rangeAt w6.heap.size 0 (encTx h6) from rangeAt_heapC (pre := []) (mid := encTx h6) (post := []) (heap_s0 w6 _) (by simp) rfl)
    have HRW := Lib.hid hrow; have HHL := Lib.hid hHl; have HHT := Lib.hid hHt
    have HOW := Lib.hid (own_later hrow (HB6.out.trans (hb7.mono HB6.out.size)))
    have HSZ := Lib.hid (show w.heap.size + 2 ≤ (w6.alloc (.cells (encTx h6).toArray 33)).heap.size from Nat.le_trans HR.out.s.s (Nat.le_trans HB6.out.size hb7.size))
    clear hrow hHl hHt hb7
    go_wp2_with (first
      | (at_builtin; refine wpList_appT elemBTx HOW.out HHL.out h6 w6.heap.size rfl _ _ rfl ?hx8 ?hy8 HX7.out (by omega) HSZ.out ?hk8)
      | fail)
    (try case hx8 => rfl)
    (try case hy8 => rfl)
    case hk8 =>
    intro A8 c8 w8 hv8 hon8
    have HRN := Lib.hid (HR.out.step HB6.out HT6.out HB7.out HRW.out HHL.out HHT.out (by rw [List.flatMap_append, List.flatMap_singleton]; exact hv8) hon8)
    clear hv8 hon8 HR HB6 HT6 HB7 HX7 HRW HHL HHT HOW HSZ
    go_wp2_with fail
    go_roundw
    case rel => exact ⟨k + 1, A8, c8, by go_num, by omega, rfl, HRN.out⟩
    case measure => show h.s.2.1 - ((↑k + 1 : Int)).toNat < h.s.2.1 - (↑k : Int).toNat; omega
  · have hkn : k = h.s.2.1 := by omega
    subst hkn
    obtain ⟨Hs, hrow, hHl, hHt⟩ := HR.out.r
    have hsz := HR.out.s.s
    have HS9 := Lib.hid (HR.out.s.set 15 (.slice A h.s.2.1 c))
    replace HS9 := Lib.hid (show CnSt w (wr.setCell ⟨w.heap.size, 15, none⟩ (.slice A h.s.2.1 c)) (encTx ⟨h.n, (A0, h.d.2.1, c0), (A1, h.a.2.1, c1), (A2, h.i.2.1, c2), (A3, h.p.2.1, c3), (A, h.s.2.1, c)⟩).toArray #[.int .i32 0, .string ⟨#[]⟩, .slice none 0 0, .slice none 0 0, .int .i64 0, .int .i32 0, .int .i32 0, .bool false, .int .i64 0, .int .i64 0, .int .i64 0, .int .i32 0, .slice none 0 0, .slice none 0 0, .int .i32 0, .slice none 0 0] 33 from HS9.out)
    have hf9 := fr_set wr w.heap.size 15 (.slice A h.s.2.1 c)
    have hl9 := kTxOk.loc (R' := NfR (wr.setCell ⟨w.heap.size, 15, none⟩ (.slice A h.s.2.1 c)) (w.heap.size + 2)) HR.out.l hf9 (fun b _ h => ⟨by have := h.1.1; simp; omega, h.1.fr hf9 (by have := h.1.1; simp; omega) (Nat.le_refl _)⟩)
    have hr9 := own_fr hrow hf9 (fun g hg => by rw [List.mem_singleton.1 hg]; omega)
    have ht9 : ∀ j, j < h.s.2.1 → TxAt (wr.setCell ⟨w.heap.size, 15, none⟩ (.slice A h.s.2.1 c)) (NfR (wr.setCell ⟨w.heap.size, 15, none⟩ (.slice A h.s.2.1 c)) (w.heap.size + 2)) Hs[j]! subs[j]! := fun j hj => (hHt j hj).fr kTxOk hf9 (fun b _ h => ⟨by have := h.1.1; simp; omega, h.1.fr hf9 (by have := h.1.1; simp; omega) (Nat.le_refl _)⟩)
    have z9 : wr.cell? ⟨w.heap.size, 15, none⟩ = some (slV h.s) := xs
    have f9 := HR.out.s.frz 15
    have HL9 := Lib.hid hl9; have HR9 := Lib.hid hr9; have HT9 := Lib.hid ht9; have HHL := Lib.hid hHl
    clear hl9 hr9 ht9 hf9 hrow hHl hHt hsz HR
    go_upto_region 11 with fail
    generalize wr.setCell ⟨w.heap.size, 15, none⟩ (.slice A h.s.2.1 c) = V9 at *
    clear xs z9 f9
    have gC : V9.heap[w.heap.size]? = some (.cells #[.int .i32 h.n.ty, .string h.n.path, .slice A0 h.d.2.1 c0, .slice A1 h.a.2.1 c1, .int .i64 h.n.ow, .int .i32 h.n.ve, .int .i32 h.n.cr, .bool h.n.qh, .int .i64 h.n.qc, .int .i64 h.n.qb, .int .i64 h.n.si, .int .i32 h.n.st, .slice A2 h.i.2.1 c2, .slice A3 h.p.2.1 c3, .int .i32 h.n.co, .slice A h.s.2.1 c] 33 (0, 0)) := HS9.out.c
    have gZ := HS9.out.z
    have hf := fr_setRow9 V9 (w.heap.size + 1) (encTx ⟨h.n, (A0, h.d.2.1, c0), (A1, h.a.2.1, c1), (A2, h.i.2.1, c2), (A3, h.p.2.1, c3), (A, h.s.2.1, c)⟩).toArray
    have hTR : TxAt (V9.setRow (w.heap.size + 1) (encTx ⟨h.n, (A0, h.d.2.1, c0), (A1, h.a.2.1, c1), (A2, h.i.2.1, c2), (A3, h.p.2.1, c3), (A, h.s.2.1, c)⟩).toArray) (NfR (V9.setRow (w.heap.size + 1) (encTx ⟨h.n, (A0, h.d.2.1, c0), (A1, h.a.2.1, c1), (A2, h.i.2.1, c2), (A3, h.p.2.1, c3), (A, h.s.2.1, c)⟩).toArray) w.heap.size) ⟨h.n, (A0, h.d.2.1, c0), (A1, h.a.2.1, c1), (A2, h.i.2.1, c2), (A3, h.p.2.1, c3), (A, h.s.2.1, c)⟩ (.mk v subs) := by
      have hmv : ∀ b, b < V9.heap.size → NfR V9 (w.heap.size + 2) b → b ∉ [w.heap.size + 1] ∧ NfR (V9.setRow (w.heap.size + 1) (encTx ⟨h.n, (A0, h.d.2.1, c0), (A1, h.a.2.1, c1), (A2, h.i.2.1, c2), (A3, h.p.2.1, c3), (A, h.s.2.1, c)⟩).toArray) w.heap.size b := fun b _ h => by
        have hn : b ∉ [w.heap.size + 1] := by have := h.1; simp; omega
        exact ⟨hn, h.fr hf hn (by omega)⟩
      exact TrAt.of_subs (L := Hs) (kTxOk.loc HL9.out hf hmv) HLEN.out ((own_slrN HR9.out (fun _ => rfl) HHL.out).fr hf hmv (fun _ => by simp [encTx])) (fun j hj => (HT9.out j hj).fr kTxOk hf hmv)
    have HTR := Lib.hid hTR
    have HBF := Lib.hid (below_setRow HS9.out.b (show w.heap.size ≤ w.heap.size + 1 by omega) (encTx ⟨h.n, (A0, h.d.2.1, c0), (A1, h.a.2.1, c1), (A2, h.i.2.1, c2), (A3, h.p.2.1, c3), (A, h.s.2.1, c)⟩).toArray)
    clear hTR hf
    go_wp2_with (first
      | (apply wpList_loadRow 33 33; exact rfl; exact rfl; exact rfl; (first | assumption | (refine heap_under ?_; assumption) | (exact heap_s0 _ _) | (exact heap_s1 _ _ _) | (exact heap_s2 _ _ _ _) | (exact heap_s3 _ _ _ _ _) | (exact heap_under (heap_s0 _ _)) | (exact heap_under (heap_s1 _ _ _)) | (exact heap_under (heap_s2 _ _ _ _)) | (exact heap_under (heap_under (heap_s0 _ _))) | (exact heap_under (heap_under (heap_s1 _ _ _))) | (exact heap_under (heap_under (heap_under (heap_s0 _ _))))); exact undTx; exact rfl; exact infTx)
      | (apply wpList_storeRow 33 33; exact rfl; exact rfl; exact rfl; exact rfl; (first | assumption | (refine heap_under ?_; assumption) | (exact heap_s0 _ _) | (exact heap_s1 _ _ _) | (exact heap_s2 _ _ _ _) | (exact heap_s3 _ _ _ _ _) | (exact heap_under (heap_s0 _ _)) | (exact heap_under (heap_s1 _ _ _)) | (exact heap_under (heap_s2 _ _ _ _)) | (exact heap_under (heap_under (heap_s0 _ _))) | (exact heap_under (heap_under (heap_s1 _ _ _))) | (exact heap_under (heap_under (heap_under (heap_s0 _ _))))); exact infTx; exact rfl; simp [Value.oneCell'])
      | fail)
    exact bodyPost_cell rfl rfl (setRow_heap _ _ _ _ _ _ gZ) undTx rfl infTx rfl ⟨⟨_, rfl, HTR.out⟩, HBF.out⟩
end Go.Proofs.YthpjneobmmpbnaaGreatDoor
