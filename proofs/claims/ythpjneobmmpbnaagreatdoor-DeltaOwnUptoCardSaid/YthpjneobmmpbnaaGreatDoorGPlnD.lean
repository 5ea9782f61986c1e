/- The walks of slices.Equal, slices.Clone at identities; of the sessions' Clamp, Right, own. -/
import Derived.Test.YthpjneobmmpbnaaGreatDoorGAclF
import Derived.Test.YthpjneobmmpbnaaGreatDoorGRefD
import Derived.Test.YthpjneobmmpbnaaGreatDoorGRplP
import Derived.Test.YthpjneobmmpbnaaGreatDoorGLive9
import Derived.Deep.RegionWith
import Derived.Lib.QuietBelow
import Derived.Test.YthpjneobmmpbnaaGreatDoorGTxnP
import Derived.Laws.BytesArg
import Derived.Lib.BufferRead
import Derived.Test.YthpjneobmmpbnaaGreatDoorGDltA
namespace Go.Proofs.YthpjneobmmpbnaaGreatDoor
open Go.RowKit
theorem elemId : Elem encId 26 108 2 32 (.agg #[.string ⟨#[]⟩, .string ⟨#[]⟩]) where
  under := Tryz.underlying26
  info := by kernel_rfl
  size := rfl
  len := fun _ => rfl
  pos := by decide
  one := fun x u hu => by
    simp [encId] at hu
    rcases hu with rfl | rfl <;> rfl
  small := by decide
theorem eqIdsSome (a : Addr) (n c : Nat) (w : World) : (binOp .eql 26 (.slice (some a) n c) (.slice none 0 0)).run Tryz.prog w = .ok (.bool false) w := by kernel_rfl
/-- a list in a row that the call made -/
def RowId (w : World) (base : Nat) (A : Option Addr) (n c : Nat) (l : List IdV) : Prop := w.ownsRow base 108 2 (.slice A n c) n (l.flatMap encId)
def ClonePost (n : Nat) (l : List IdV) (w : World) (e : Ending) (w' : World) : Prop := (∃ A c, e = .returned (.slice A n c) ∧ RowId w' w.heap.size A n c l) ∧ Below w.heap.size w w'
set_option maxRecDepth 100000 in
theorem cloneIds_any (A : Option Addr) (n c : Nat) (l : List IdV) (w : World) (hz : Sl w w.heap.size encId 2 A n l) (hA : A = none → n = 0 ∧ c = 0) (hn : n ≤ 1048576) :
    Calls Tryz.prog 102 #[.slice A n c] w (ClonePost n l w) := by
  cases A with
  | none =>
    obtain ⟨rfl, rfl⟩ := hA rfl
    have hl : l = [] := List.length_eq_zero_iff.1 hz.len
    subst hl
    refine (cloneNil w).mono ?_
    rintro e w' ⟨rfl, rfl⟩
    exact ⟨⟨none, 0, rfl, World.ownsRow_nil _ _ _ _⟩, Below.refl _ _⟩
  | some a =>
    have hb0 : Below w.heap.size w (w.alloc (.cells #[] 108)) := (Below.refl _ w).alloc (Nat.le_refl _) _
    have HS := Lib.hid (hz.belowMore hb0 hb0.size)
    have HB := Lib.hid hb0
    have hq := eqIdsSome a n c
    clear hz hA hb0
    go_enter Tryz.func102, Tryz.ntmps102
    go_wp2_with (at_builtin; refine wpList_appG elemId rfl _ _ rfl w.heap.size (some ⟨w.heap.size, 0, none⟩) 0 0 [] ?hx (own_empty w) (some a) n c l ?hy HS.out (fun e => by cases e) (by omega) HB.out.size ?hk)
    (try case hx => rfl)
    (try case hy => rfl)
    case hk =>
      intro A2 c2 w2 hv2 hb2
      have HV2 := Lib.hid hv2; have HB2 := Lib.hid (HB.out.trans hb2)
      clear hv2 hb2
      go_wp2_with fail
      go_ret
      exact ⟨⟨A2, c2, by simp, by unfold RowId; simpa using HV2.out⟩, HB2.out⟩
theorem clamp_any (t : Int) (w : World) : Calls Tryz.prog 200 #[.int .i32 t] w fun e w' => e = .returned (.int .i32 (min (max t 4) 1048576)) ∧ w = w' := by
  go_enter Tryz.func200, Tryz.ntmps200
  go_wp2_with fail
  go_ret
  exact ⟨rfl, rfl⟩
end Go.Proofs.YthpjneobmmpbnaaGreatDoor
namespace Go.Proofs.YthpjneobmmpbnaaGreatDoor
open Go.RowKit
theorem Sl.take {α : Type} [Inhabited α] {w : World} {B k n m : Nat} {enc : α → List Value} {A : Option Addr} {zs : List α} (h : Sl w B enc k A n zs) (hm : m ≤ n) : Sl w B enc k A m (zs.take m) :=
  ⟨by rw [List.length_take, h.len]; omega, fun h0 => by
    obtain ⟨b, off, e, hb, hc⟩ := h.2 (by omega)
    refine ⟨b, off, e, hb, fun j hj i u hu => hc j (by omega) i u ?_⟩
    have hl := h.len
    have e2 : (zs.take m)[j]! = zs[j]! := by
      rw [getElem!_pos _ j (by rw [List.length_take]; omega), getElem!_pos zs j (by omega), List.getElem_take]
    rwa [e2] at hu⟩
def idsOk (l : List IdV) : Prop := ∀ i, i < l.length → identP l[i]! = true ∧ (l.take i).any (fun y => decide (y = l[i]!)) = false
/-- a session on paper -/
abbrev SesP := Int × Int × List IdV
def rightS (s : SesP) : Prop := 0 < s.1 ∧ 4 ≤ s.2.1 ∧ s.2.1 ≤ 1048576 ∧ s.2.2.length ≤ 16 ∧ idsOk s.2.2
theorem clamp_q (t : Int) (W : World) (x : Nat) : Calls Tryz.prog 200 #[.int .i32 t] (W.drewN x) fun e w' => e = .returned (.int .i32 (min (max t 4) 1048576)) ∧ ∃ n, w' = W.drewN n :=
  (clamp_any t _).mono fun _ _ h => ⟨h.1, x, h.2.symm⟩
set_option maxRecDepth 100000 in
set_option maxHeartbeats 2000000 in
theorem right_first (i tm : Int) (A : Option Addr) (n c : Nat) (w : World) (hr : ¬ (0 < i ∧ 4 ≤ tm ∧ tm ≤ 1048576 ∧ n ≤ 16)) (htm : -2147483648 ≤ tm ∧ tm ≤ 2147483647) : Calls Tryz.prog 162 #[.agg #[.int .i64 i, .int .i32 tm, .slice A n c]] w fun e w' => e = .returned (.bool false) ∧ Below w.heap.size w w' := by
  have hb0 : Below w.heap.size w (w.alloc (.cells #[.int .i64 i, .int .i32 tm, .slice A n c] 28)) := (Below.refl _ w).alloc (Nat.le_refl _) _
  have z0 : (w.alloc (.cells #[.int .i64 i, .int .i32 tm, .slice A n c] 28)).cell? ⟨w.heap.size, 0, none⟩ = some (.int .i64 i) := by simp
  have z1 : (w.alloc (.cells #[.int .i64 i, .int .i32 tm, .slice A n c] 28)).cell? ⟨w.heap.size, 1, none⟩ = some (.int .i32 tm) := by simp
  have z2 : (w.alloc (.cells #[.int .i64 i, .int .i32 tm, .slice A n c] 28)).cell? ⟨w.heap.size, 2, none⟩ = some (.slice A n c) := by simp
  have hd1 : decide (i ≤ 0) = true ∨ (decide (i ≤ 0) = false ∧ (min (max tm 4) 1048576 != tm) = true) ∨ (decide (i ≤ 0) = false ∧ (min (max tm 4) 1048576 != tm) = false ∧ decide (16 < (n : Int)) = true) := by
    by_cases h1 : i ≤ 0
    · exact .inl (decide_eq_true h1)
    by_cases h2 : min (max tm 4) 1048576 = tm
    · exact .inr (.inr ⟨decide_eq_false h1, by simpa using h2, decide_eq_true (by omega)⟩)
    · exact .inr (.inl ⟨decide_eq_false h1, by simpa using h2⟩)
  clear hr
  rcases hd1 with hd1 | ⟨hd1, hd2⟩ | ⟨hd1, hd2, hd3⟩
  all_goals (
    go_enter Tryz.func162, Tryz.ntmps162
    go_wp2_with fail
    generalize w.alloc (.cells #[.int .i64 i, .int .i32 tm, .slice A n c] 28) = W at *
    go_quiet (exact clamp_q tm W _)
    go_wp2_with fail
    go_ret
    exact ⟨rfl, drewN_below hb0 nq⟩)
def RtPost (l : List IdV) (w : World) (e : Ending) (w' : World) : Prop := (∃ b, e = .returned (.bool b) ∧ (b = true ↔ idsOk l)) ∧ Below w.heap.size w w'
def RtR (l : List IdV) (A : Option Addr) (n c : Nat) (w : World) (i : Value) (wr : World) : Prop := ∃ k : Nat, i = .int .i64 ↑k ∧ k ≤ n ∧ (∀ j, j < k → identP l[j]! = true ∧ (l.take j).any (fun y => decide (y = l[j]!)) = false) ∧ wr.cell? ⟨w.heap.size, 2, none⟩ = some (.slice A n c) ∧ Below w.heap.size w wr
set_option maxRecDepth 100000 in
set_option maxHeartbeats 2000000 in
theorem right_loop (i tm : Int) (A : Option Addr) (n c : Nat) (l : List IdV) (w : World) (hE : Env w) (hr : 0 < i ∧ 4 ≤ tm ∧ tm ≤ 1048576 ∧ n ≤ 16) (hz : Sl w w.heap.size encId 2 A n l) (hcap : n ≤ c) (hs : SmallI l n 1048576) : Calls Tryz.prog 162 #[.agg #[.int .i64 i, .int .i32 tm, .slice A n c]] w (RtPost l w) := by
  have hb0 : Below w.heap.size w (w.alloc (.cells #[.int .i64 i, .int .i32 tm, .slice A n c] 28)) := (Below.refl _ w).alloc (Nat.le_refl _) _
  have z0 : (w.alloc (.cells #[.int .i64 i, .int .i32 tm, .slice A n c] 28)).cell? ⟨w.heap.size, 0, none⟩ = some (.int .i64 i) := by simp
  have z1 : (w.alloc (.cells #[.int .i64 i, .int .i32 tm, .slice A n c] 28)).cell? ⟨w.heap.size, 1, none⟩ = some (.int .i32 tm) := by simp
  have z2 : (w.alloc (.cells #[.int .i64 i, .int .i32 tm, .slice A n c] 28)).cell? ⟨w.heap.size, 2, none⟩ = some (.slice A n c) := by simp
  have hd1 : decide (i ≤ 0) = false := decide_eq_false (by omega)
  have hd2 : (min (max tm 4) 1048576 != tm) = false := by
    have : min (max tm 4) 1048576 = tm := by omega
    rw [this]; simp
  have hd3 : decide (16 < (n : Int)) = false := decide_eq_false (by omega)
  have HS := Lib.hid hs; have HZ := Lib.hid hz; have HE := Lib.hid hE
  have HN := Lib.hid hr.2.2.2
  clear hr hs hz hE
  go_enter Tryz.func162, Tryz.ntmps162
  go_wp2_with fail
  generalize w.alloc (.cells #[.int .i64 i, .int .i32 tm, .slice A n c] 28) = W at *
  go_quiet (exact clamp_q tm W _)
  have HB := Lib.hid (drewN_below hb0 nq)
  have z2 : (W.drewN nq).cell? ⟨w.heap.size, 2, none⟩ = some (.slice A n c) := z2
  clear hb0 z0 z1
  generalize W.drewN nq = W2 at *
  go_wp2_with fail
  go_loopw [25] (fun i wr => RtR l A n c w i wr) (fun i _ => n - (RowKit.intOf i).toNat)
  case atStart => exact ⟨0, rfl, Nat.zero_le _, fun j hj => absurd hj (by omega), z2, HB.out⟩
  case round =>
    obtain ⟨k, rfl, hk, hall, z2, hb⟩ := hrel
    have HA := Lib.hid hall; have HB := Lib.hid hb
    clear hall hb
    have hN := HN.out
    by_cases hkn : k < n
    · have hkn2 : ((k : Nat) : Int) < (n : Int) := by omega
      obtain ⟨b, off, hA, hbl, x0, x1⟩ := SlId.at_ (HZ.out.below HB.out) hkn
      have HSM := Lib.hid (HS.out k hkn)
      have HTK := Lib.hid (show Sl w w.heap.size encId 2 A k (l.take k) from (HZ.out.take hk))
      have HI := Lib.hid (show identP l[k]! = true → (l.take k).any (fun y => decide (y = l[k]!)) = false → ∀ j, j < k + 1 → identP l[j]! = true ∧ (l.take j).any (fun y => decide (y = l[j]!)) = false from fun h1 h2 j hj => by rcases Nat.lt_succ_iff_lt_or_eq.1 hj with h | rfl; exact HA.out j h; exact ⟨h1, h2⟩)
      have HJ := Lib.hid (show idsOk l → identP l[k]! = true ∧ (l.take k).any (fun y => decide (y = l[k]!)) = false from fun h => h k (by rw [HZ.out.len]; exact hkn))
      subst hA
      generalize l[k]! = x at *
      obtain ⟨s, t⟩ := x
      have hb1 : Below wr.heap.size wr (wr.alloc (.cells #[.string s, .string t] 108)) := (Below.refl _ wr).alloc (Nat.le_refl _) _
      have y0 : (wr.alloc (.cells #[.string s, .string t] 108)).cell? ⟨wr.heap.size, 0, none⟩ = some (.string s) := by simp
      have y1 : (wr.alloc (.cells #[.string s, .string t] 108)).cell? ⟨wr.heap.size, 1, none⟩ = some (.string t) := by simp
      have z2 := keep1 z2 hb1
      cases hid : identP (s, t) with
      | false =>
        have HF := Lib.hid (show ¬ idsOk l from fun h => by have := (HJ.out h).1; rw [hid] at this; cases this)
        have cI := fun W hE => identity_any s t (Nat.le_trans HSM.out.1 (by decide)) (Nat.le_trans HSM.out.2 (by decide)) W hE
        rw [hid] at cI
        have CI := Lib.hid cI
        have HBV := Lib.hid (HB.out.trans (hb1.mono HB.out.size))
        clear hid cI hb1
        go_wp2_with fail
        clear x0 x1 z2
        generalize wr.alloc (.cells #[.string s, .string t] 108) = V at *
        have HBW := Lib.hid (fun (d : Nat) (os : Array Obj) => HBV.out.trans ((below_regrown V d os).mono HBV.out.size))
        have CL := Lib.hid (fun (d : Nat) (os : Array Obj) => Calls.regrown_of (CI.out (Go.Sort.grow (redrawn V d) os) (HE.out.later (HBW.out d os))))
        have D0 := fun d os => cell_regrown y0 d os
        have D1 := fun d os => cell_regrown y1 d os
        clear y0 y1
        refine wp_region_quiet_below (by kernel_rfl) (by kernel_rfl) ?_
        repeat (go_big_quiet_step ((exact CL.out _ _)))
        refine wpQuiet_nil ?_
        intro _ hw'
        obtain ⟨⟨dq, osq⟩, hw''⟩ := hw'
        subst hw''
        have HBF := Lib.hid (HBW.out dq osq)
        clear D0 D1
        go_wp2_with fail
        go_ret
        exact ⟨⟨false, rfl, by simp [HF.out]⟩, HBF.out⟩
      | true =>
        have cI := fun W hE => identity_any s t (Nat.le_trans HSM.out.1 (by decide)) (Nat.le_trans HSM.out.2 (by decide)) W hE
        rw [hid] at cI
        have CI := Lib.hid cI
        have HID := Lib.hid hid
        have HBV := Lib.hid (HB.out.trans ((hb1.drew).mono HB.out.size))
        have S0 : (wr.alloc (.cells #[.string s, .string t] 108)).drew.cell? ⟨w.heap.size, 2, none⟩ = some (.slice (some ⟨b, off, none⟩) n c) ∧ (wr.alloc (.cells #[.string s, .string t] 108)).drew.cell? ⟨wr.heap.size, 0, none⟩ = some (.string s) ∧ (wr.alloc (.cells #[.string s, .string t] 108)).drew.cell? ⟨wr.heap.size, 1, none⟩ = some (.string t) := ⟨z2, y0, y1⟩
        have hkc : ((k : Nat) : Int) ≤ (c : Int) := by omega
        clear hid cI hb1
        cases hany : (l.take k).any (fun y => decide (y = (s, t)))
        case false =>
          have HAN := Lib.hid hany
          clear hany
          go_wp2_with fail
          clear x0 x1
          go_region_held3 (fun w' => (w'.cell? ⟨w.heap.size, 2, none⟩ = some (.slice (some ⟨b, off, none⟩) n c) ∧ w'.cell? ⟨wr.heap.size, 0, none⟩ = some (.string s) ∧ w'.cell? ⟨wr.heap.size, 1, none⟩ = some (.string t)))
            ((first | assumption | exact S0))
            (first
            | (go_at_call 201; refine (CI.out _ (HE.out.later HBV.out)).mono ?_; rintro e w5 ⟨rfl, hb5⟩; have S5 := And.intro (keep1 S0.1 hb5) (And.intro (keep1 S0.2.1 hb5) (keep1 S0.2.2 hb5)); have HB5 := Lib.hid (HBV.out.trans (hb5.mono HBV.out.size)); clear hb5)
            | (go_at_call 202; refine (containsId_any (some ⟨b, off, none⟩) k c (l.take k) s t _ (HTK.out.belowMore HB5.out HB5.out.size) (by omega)).mono ?_; rintro e w6 ⟨rfl, hb6⟩; rw [HAN.out]; have S6 := And.intro (keep1 S5.1 hb6) (And.intro (keep1 S5.2.1 hb6) (keep1 S5.2.2 hb6)); have HB6 := Lib.hid (HB5.out.trans (hb6.mono HB5.out.size)); clear hb6))
          have HI2 := Lib.hid (HI.out HID.out HAN.out)
          have z2 := S6.1
          clear S0 S5 S6
          go_wp2_with fail
          go_roundw
          case rel => exact ⟨k + 1, by go_num, by omega, HI2.out, z2, HB6.out⟩
          case measure => simp [RowKit.intOf]; omega
        case true =>
          have HAN := Lib.hid hany
          clear hany
          go_wp2_with fail
          clear x0 x1
          go_region_held3 (fun w' => (w'.cell? ⟨w.heap.size, 2, none⟩ = some (.slice (some ⟨b, off, none⟩) n c) ∧ w'.cell? ⟨wr.heap.size, 0, none⟩ = some (.string s) ∧ w'.cell? ⟨wr.heap.size, 1, none⟩ = some (.string t)))
            ((first | assumption | exact S0))
            (first
            | (go_at_call 201; refine (CI.out _ (HE.out.later HBV.out)).mono ?_; rintro e w5 ⟨rfl, hb5⟩; have S5 := And.intro (keep1 S0.1 hb5) (And.intro (keep1 S0.2.1 hb5) (keep1 S0.2.2 hb5)); have HB5 := Lib.hid (HBV.out.trans (hb5.mono HBV.out.size)); clear hb5)
            | (go_at_call 202; refine (containsId_any (some ⟨b, off, none⟩) k c (l.take k) s t _ (HTK.out.belowMore HB5.out HB5.out.size) (by omega)).mono ?_; rintro e w6 ⟨rfl, hb6⟩; rw [HAN.out]; have S6 := And.intro (keep1 S5.1 hb6) (And.intro (keep1 S5.2.1 hb6) (keep1 S5.2.2 hb6)); have HB6 := Lib.hid (HB5.out.trans (hb6.mono HB5.out.size)); clear hb6))
          have HF := Lib.hid (show ¬ idsOk l from fun h => by have := (HJ.out h).2; rw [HAN.out] at this; cases this)
          go_wp2_with fail
          go_ret
          exact ⟨⟨false, rfl, by simp [HF.out]⟩, HB6.out⟩
    · have hkn2 : ¬ ((k : Nat) : Int) < (n : Int) := by omega
      have HT := Lib.hid (show idsOk l from fun j hj => HA.out j (by rw [HZ.out.len] at hj; omega))
      go_wp2_with fail
      go_ret
      exact ⟨⟨true, rfl, by simp [HT.out]⟩, HB.out⟩
open Classical in
theorem right_any (i tm : Int) (A : Option Addr) (n c : Nat) (l : List IdV) (w : World) (hE : Env w) (h : SesOk w (i, tm, A, n, c) l 1048576) : Calls Tryz.prog 162 #[.agg #[.int .i64 i, .int .i32 tm, .slice A n c]] w (RetB w (decide (rightS (i, tm, l)))) := by
  obtain ⟨_, h2, h3, h4, _, h6⟩ := h
  have hl : l.length = n := h3.len
  by_cases hr : 0 < i ∧ 4 ≤ tm ∧ tm ≤ 1048576 ∧ n ≤ 16
  · refine (right_loop i tm A n c l w hE hr h3 h4.2 h6).mono ?_
    rintro e w' ⟨⟨b, rfl, hb⟩, hb2⟩
    refine RetB.mk hb2 ?_
    rw [Bool.eq_iff_iff, hb, decide_eq_true_iff]
    show idsOk l ↔ (0 < i ∧ 4 ≤ tm ∧ tm ≤ 1048576 ∧ l.length ≤ 16 ∧ idsOk l)
    rw [hl]
    exact ⟨fun h => ⟨hr.1, hr.2.1, hr.2.2.1, hr.2.2.2, h⟩, fun h => h.2.2.2.2⟩
  · refine (right_first i tm A n c w hr h2).mono ?_
    rintro e w' ⟨rfl, hb2⟩
    refine RetB.mk hb2 ?_
    rw [eq_comm, decide_eq_false_iff_not]
    rintro ⟨a1, a2, a3, a4, _⟩
    exact hr ⟨a1, a2, a3, by rw [← hl]; exact a4⟩
theorem heap_setN {w : World} {b o : Nat} {cs : Array Value} {T : TypeId} (h : w.heap[b]? = some (.cells cs T (0, 0))) (v : Value) : (w.setCell ⟨b, o, none⟩ v).heap[b]? = some (.cells (cs.setIfInBounds o v) T (0, 0)) := by
  unfold World.setCell
  rw [Array.getElem?_modify, if_pos rfl, h]
  rfl
theorem Fr.set {own : List Nat} {w w1 : World} (h : Fr own w w1) {b : Nat} (hb : b ∈ own) (o : Nat) (v : Value) : Fr own w (w1.setCell ⟨b, o, none⟩ v) := h.trans (fr_set w1 b o v) (fun g hg => .inl (by rw [List.mem_singleton.1 hg]; exact hb))
theorem RowId.base {w : World} {b b' n c : Nat} {A : Option Addr} {l : List IdV} (h : RowId w b A n c l) (hb : b' ≤ b) : RowId w b' A n c l :=
  ⟨h.1, h.2.imp (fun x => x) fun ⟨g, cap, cur, a, h1, r⟩ => ⟨g, cap, cur, a, Nat.le_trans hb h1, r⟩⟩
end Go.Proofs.YthpjneobmmpbnaaGreatDoor
namespace Go.Proofs.YthpjneobmmpbnaaGreatDoor
open Go.RowKit Go.MapKept
theorem conv_sl {w : World} {B n c : Nat} {A : Option Addr} {l : Bs} (h : Sl w B enc8 1 A n l) (hA : A = none → n = 0 ∧ c = 0) :
    (convert 22 9 (.slice A n c)).run Tryz.prog w = .ok (.string ⟨l.toArray⟩) w := by
  cases A with
  | none =>
    obtain ⟨rfl, rfl⟩ := hA rfl
    have hl : l = [] := List.length_eq_zero_iff.1 h.len
    subst hl
    exact Lib.run_convert_nil_bytes w 22 9 5 0 Tryz.underlying22 Tryz.underlying5 Tryz.underlying9
  | some a =>
    have hl := h.len
    subst hl
    refine run_convert_bytes_back w 22 9 5 a c l Tryz.underlying22 Tryz.underlying5 Tryz.underlying9 ?_
    intro j hj
    obtain ⟨b, off, e, _, hc⟩ := h.cells hj
    injection e with e
    subst e
    have := hc 0 (.int .u8 (l[j].toNat : Int)) (by unfold enc8; rw [getElem!_pos l j hj]; rfl)
    rw [Addr.add_lit]
    simpa using this
theorem bytes_mk (xs ys : Bs) : ((⟨xs.toArray⟩ : ByteArray).toList == (⟨ys.toArray⟩ : ByteArray).toList) = decide (xs = ys) := by
  rw [ByteArray.toList_eq, ByteArray.toList_eq]
  show (xs == ys) = _
  rw [Bool.eq_iff_iff, beq_iff_eq, decide_eq_true_iff]
set_option maxHeartbeats 1000000 in
theorem bytesEqual_any (A A' : Option Addr) (n m c c' : Nat) (xs ys : Bs) (w : World) (B : Nat) (hx : Sl w B enc8 1 A n xs) (hy : Sl w B enc8 1 A' m ys) (hA : A = none → n = 0 ∧ c = 0) (hA' : A' = none → m = 0 ∧ c' = 0) :
    Calls Tryz.prog 183 #[.slice A n c, .slice A' m c'] w (QuietB w (decide (xs = ys))) := by
  have h1 := conv_sl (c := c) hx hA
  have h2 := conv_sl (c := c') hy hA'
  have HB := Lib.hid (bytes_mk xs ys)
  clear hx hy hA hA'
  go_enter Tryz.func183, Tryz.ntmps183
  go_wp2
  go_ret
  exact QuietB.mk ⟨0, rfl⟩ (by have := HB.out; rwa [ByteArray.toList_eq, ByteArray.toList_eq] at this)
theorem SlStr.at_ {w : World} {B n j : Nat} {A : Option Addr} {zs : List ByteArray} (h : Sl w B encStr 1 A n zs) (hj : j < n) :
    ∃ b off, A = some ⟨b, off, none⟩ ∧ b < B ∧ w.cell? ⟨b, off + j, none⟩ = some (.string zs[j]!) := by
  obtain ⟨b, off, e, hb, hc⟩ := h.cells hj
  have := hc 0 _ rfl
  rw [Nat.mul_one, Nat.add_zero] at this
  exact ⟨b, off, e, hb, this⟩
theorem ne_str (x y : ByteArray) (h : x ≠ y) : (x.toList == y.toList) = false := by
  have := beq_dec x y
  rwa [decide_eq_false h] at this
set_option maxHeartbeats 1000000 in
theorem slEqualStr_any (A A' : Option Addr) (n m c c' : Nat) (xs ys : List ByteArray) (w : World) (B : Nat) (hx : Sl w B encStr 1 A n xs) (hy : Sl w B encStr 1 A' m ys) (hn : n ≤ 281474976710656) (hm : m ≤ 281474976710656) :
    Calls Tryz.prog 186 #[.slice A n c, .slice A' m c'] w (QuietB w (decide (xs = ys))) := by
  by_cases hnm : n = m
  · subst hnm
    have hlen : xs.length = ys.length := hx.1.trans hy.1.symm
    have HL := Lib.hid hlen; have HXL := Lib.hid hx.1; clear hlen
    go_enter Tryz.func186, Tryz.ntmps186
    go_wp2
    go_loopw [5, 13] (fun _ i wr => ∃ (k q : Nat), i = .int .i64 ↑k ∧ k ≤ n ∧ (∀ j, j < k → xs[j]! = ys[j]!) ∧ wr = w.drewN q) (fun _ i _ => n - (RowKit.intOf i).toNat)
    case atStart => exact ⟨0, 0, rfl, by omega, fun j hj => absurd hj (by omega), rfl⟩
    case round =>
      obtain ⟨k, q, rfl, hk, hall, rfl⟩ := hrel
      have HA := Lib.hid hall; clear hall
      by_cases hlt : k < n
      · obtain ⟨b, off, rfl, _, x0⟩ := SlStr.at_ hx hlt
        obtain ⟨b', off', rfl, _, y0⟩ := SlStr.at_ hy hlt
        by_cases he : xs[k]! = ys[k]!
        · have HA1 := Lib.hid (show ∀ j, j < k + 1 → xs[j]! = ys[j]! from fun j hj => by rcases Nat.lt_succ_iff_lt_or_eq.1 hj with h | rfl; exact HA.out j h; exact he)
          rw [he] at x0
          clear he
          generalize ys[k]! = y at *
          go_wp2
          go_quiet (fail)
          go_wp2
          go_roundw
          case rel => exact ⟨k + 1, q + nq, by go_num, by omega, HA1.out, rfl⟩
          case measure => simp [RowKit.intOf]; omega
        · have HE := Lib.hid (show decide (xs = ys) = false from decide_eq_false fun e => he (by rw [e]))
          have HW := ne_str _ _ he
          clear he
          generalize xs[k]! = x at *
          generalize ys[k]! = y at *
          go_wp2
          go_quiet (fail)
          go_wp2
          go_ret
          exact QuietB.mk ⟨q + nq, World.drewN_drewN ..⟩ HE.out.symm
      · have HE := Lib.hid (show decide (xs = ys) = true from decide_eq_true (list_ext_bang HL.out fun j hj => HA.out j (by have := HXL.out; omega)))
        go_wp2
        go_ret
        exact QuietB.mk ⟨q, rfl⟩ HE.out.symm
  · have HE := Lib.hid (show decide (xs = ys) = false from decide_eq_false fun e => hnm (by rw [← hx.1, ← hy.1, e]))
    have hd : ((n : Int) != (m : Int)) = true := by simp; omega
    clear hnm
    go_enter Tryz.func186, Tryz.ntmps186
    go_wp2
    go_ret
    exact QuietB.mk ⟨0, rfl⟩ HE.out.symm
theorem indexFuncStr_any (A : Option Addr) (n c g : Nat) (v : Value) (hv : v = .func (.func g) #[] #[]) (eg : ∀ args w, (callFunc g args).run Tryz.prog w = .ok (.enter g args) w) (zs : List ByteArray) (p : ByteArray → Bool) (w : World) (hz : Sl w w.heap.size encStr 1 A n zs) (hn : n ≤ 281474976710656)
    (hp : ∀ (W : World) (k : Nat), k < n → Below w.heap.size w W → Calls Tryz.prog g #[.string zs[k]!] W (RetB W (p zs[k]!))) :
    Calls Tryz.prog 196 #[.slice A n c, v] w (IdxPost w (zs.any p)) := by
  subst hv
  have HZ := Lib.hid hz.1
  go_enter Tryz.func196, Tryz.ntmps196
  go_wp2
  go_loopw [5, 8] (fun _ i wr => ∃ k : Nat, i = .int .i64 ↑k ∧ k ≤ n ∧ (∀ j, j < k → p zs[j]! = false) ∧ Below w.heap.size w wr) (fun _ i _ => n - (RowKit.intOf i).toNat)
  case atStart => exact ⟨0, rfl, by omega, fun j hj => absurd hj (by omega), Below.refl _ _⟩
  case round =>
    obtain ⟨k, rfl, hk, hall, hb⟩ := hrel
    have HA := Lib.hid hall; have HB := Lib.hid hb; clear hall
    by_cases hlt : k < n
    · obtain ⟨b, off, rfl, _, x0⟩ := SlStr.at_ (hz.below hb) hlt
      have hcall := hp wr k hlt hb
      clear hp hb
      have HS := Lib.hid (any_split p zs k (by rw [HZ.out]; exact hlt))
      have HN : Hid (p zs[k]! = false → ∀ j, j < k + 1 → p zs[j]! = false) := Lib.hid (fun h j hj => by rcases Nat.lt_succ_iff_lt_or_eq.1 hj with h2 | rfl; exact HA.out j h2; exact h)
      generalize hx : zs[k]! = x at *
      clear hx
      cases hq : p x with
      | true =>
        rw [hq] at hcall
        have HQ := Lib.hid hq; clear hq
        go_wp2_with fail
        refine hcall.mono ?_
        rintro e w' ⟨rfl, hb'⟩
        go_wp2
        go_ret
        exact IdxPost.mk (by rw [HS.out HQ.out]; exact decide_eq_true (by omega)) (HB.out.trans (hb'.mono HB.out.size))
      | false =>
        rw [hq] at hcall
        have HQ := Lib.hid hq; clear hq
        go_wp2_with fail
        refine hcall.mono ?_
        rintro e w' ⟨rfl, hb'⟩
        go_wp2
        go_roundw
        case rel => exact ⟨k + 1, by go_num, by omega, HN.out HQ.out, HB.out.trans (hb'.mono HB.out.size)⟩
        case measure => simp [RowKit.intOf]; omega
    · go_wp2
      go_ret
      exact IdxPost.mk (by rw [any_none p zs (fun j hj => HA.out j (by have := HZ.out; omega))]; rfl) HB.out
set_option maxRecDepth 100000 in
theorem containsFuncStr_any (A : Option Addr) (n c g : Nat) (v : Value) (hv : v = .func (.func g) #[] #[]) (eg : ∀ args w, (callFunc g args).run Tryz.prog w = .ok (.enter g args) w) (zs : List ByteArray) (p : ByteArray → Bool) (w : World) (hz : Sl w w.heap.size encStr 1 A n zs) (hn : n ≤ 281474976710656)
    (hp : ∀ (W : World) (k : Nat), k < n → Below w.heap.size w W → Calls Tryz.prog g #[.string zs[k]!] W (RetB W (p zs[k]!))) :
    Calls Tryz.prog 154 #[.slice A n c, v] w (RetB w (zs.any p)) := by
  have cI := indexFuncStr_any A n c g v hv eg zs p w hz hn hp
  subst hv
  clear hp
  generalize zs.any p = b at *
  go_enter Tryz.func154, Tryz.ntmps154
  go_wp2_with fail
  refine cI.mono ?_
  rintro e w' ⟨⟨r, rfl, hr⟩, hb⟩
  have HR := Lib.hid hr; clear hr
  go_wp2
  go_ret
  exact RetB.mk hb HR.out
section
variable (w : World) (a d : Bool) (b c e f : Int)
set_option maxRecDepth 100000 in
theorem fieldsQ : Tryz.prog.underlying 25 = some (.struct (Tryz.prog.fieldsOf 25)) := by kernel_rfl
theorem stoodQ : Tryz.prog.stoodInHeld 25 = false := by kernel_rfl
set_option maxRecDepth 100000 in
theorem equalQ (k : Nat) : (Op.equalIn (k + 2) 25 (.agg #[.bool a, .int .i64 b, .int .i64 c]) (.agg #[.bool d, .int .i64 e, .int .i64 f])).run Tryz.prog w = .ok (decide ((a, b, c) = (d, e, f))) w := by
  have u3 := Tryz.underlying4
  have a3 := Tryz.isAgg4
  have z3 := Tryz.sizeOf4
  have u1 := Tryz.underlying2
  have a1 := Tryz.isAgg2
  have z1 := Tryz.sizeOf2
  rw [run_equalIn_agg w (k + 1) 25 _ _ fieldsQ stoodQ]
  simp only [Program.fieldsOf, Tryz.underlying25]
  go_simp
  by_cases h1 : a = d <;> by_cases h2 : b = e <;> by_cases h3 : c = f <;> simp [h1, h2, h3]
set_option maxRecDepth 100000 in
theorem eqQ : (binOp .eql 25 (.agg #[.bool a, .int .i64 b, .int .i64 c]) (.agg #[.bool d, .int .i64 e, .int .i64 f])).run Tryz.prog w = .ok (.bool (decide ((a, b, c) = (d, e, f)))) w := by
  rw [run_eql_struct, show (10000 : Nat) = 9998 + 2 from rfl, equalQ]; rfl
end
end Go.Proofs.YthpjneobmmpbnaaGreatDoor
namespace Go.Proofs.YthpjneobmmpbnaaGreatDoor
open Go.RowKit Go.MapKept
/-- what the calls in it answer, in every world whose memory is this one -/
structure PlC (W : World) (h k : TxH) (bd ba bi bp : Bool) : Prop where
  d : ∀ X : World, X.heap = W.heap → Calls Tryz.prog 183 #[slV h.d, slV k.d] X (QuietB X bd)
  a : ∀ X : World, X.heap = W.heap → Calls Tryz.prog 184 #[slV h.a, slV k.a] X (QuietB X ba)
  i : ∀ X : World, X.heap = W.heap → Calls Tryz.prog 185 #[slV h.i, slV k.i] X (QuietB X bi)
  p : ∀ X : World, X.heap = W.heap → Calls Tryz.prog 186 #[slV h.p, slV k.p] X (QuietB X bp)
def PlR (w : World) (b : Bool) (e : Ending) (w' : World) : Prop := e = .returned (.bool b) ∧ Below w.heap.size w w'
theorem PlR.mk {w w' : World} {a b : Bool} (hb : Below w.heap.size w w') (e : b = a) : PlR w a (.returned (.bool b)) w' := ⟨by rw [e], hb⟩
theorem two_below (w : World) (a b : Obj) : Below w.heap.size w ((w.alloc a).alloc b) := ((Below.refl _ w).alloc (Nat.le_refl _) _).alloc (by simp) _
def objTx (h : TxH) : Obj := .cells #[.int .i32 h.n.ty, .string h.n.path, slV h.d, slV h.a, .int .i64 h.n.ow, .int .i32 h.n.ve, .int .i32 h.n.cr, .bool h.n.qh, .int .i64 h.n.qc, .int .i64 h.n.qb, .int .i64 h.n.si, .int .i32 h.n.st, slV h.i, slV h.p, .int .i32 h.n.co, slV h.s] 33
theorem str_same (a b : ByteArray) (e : a = b) : (a.toList == b.toList) = true := by subst e; simp
theorem int_same (a b : Int) (e : a = b) : (a == b) = true := beq_iff_eq.2 e
theorem int_other (a b : Int) (e : ¬ a = b) : (a == b) = false := beq_eq_false_iff_ne.2 e
/-- the answer, of the answers to the calls -/
def plB (h k : TxH) (bd ba bi bp : Bool) : Bool :=
  decide (h.n.ty = k.n.ty) && decide (h.n.path = k.n.path) && bd && ba && decide (h.n.ow = k.n.ow) && decide (h.n.ve = k.n.ve) && decide (h.n.cr = k.n.cr) && decide ((h.n.qh, h.n.qc, h.n.qb) = (k.n.qh, k.n.qc, k.n.qb)) && decide (h.n.si = k.n.si) && decide (h.n.st = k.n.st) && bi && bp && decide (h.n.co = k.n.co)
end Go.Proofs.YthpjneobmmpbnaaGreatDoor
