/- The walks of slices.Equal, slices.Clone at identities; of the sessions' Clamp, Right, own. Condition: lengths below 2^47. The walk of session.Right at any session. Condition: its identities are fewer than 2^20, of texts shorter than 2^20. -/
import Derived.Test.YtbpmmmnphpkdjaaGreatDoorZAclF
import Derived.Test.YtbpmmmnphpkdjaaGreatDoorZAppG
import Derived.Test.YtbpmmmnphpkdjaaGreatDoorZOpenS
import Derived.Test.YtbpmmmnphpkdjaaGreatDoorZLive9
import Derived.Test.YtbpmmmnphpkdjaaGreatDoorZRefD
import Derived.Deep.RegionWith
import Derived.Lib.QuietBelow
namespace Go.Proofs.YtbpmmmnphpkdjaaGreatDoor
open Go.RowKit
theorem elemId : Elem encId 45 155 2 32 (.agg #[.string ⟨#[]⟩, .string ⟨#[]⟩]) where
  under := Tryz.underlying45
  info := by kernel_rfl
  size := rfl
  len := fun _ => rfl
  pos := by decide
  one := fun x u hu => by
    simp [encId] at hu
    rcases hu with rfl | rfl <;> rfl
  small := by decide
theorem eqIdsSome (a : Addr) (n c : Nat) (w : World) : (binOp .eql 45 (.slice (some a) n c) (.slice none 0 0)).run Tryz.prog w = .ok (.bool false) w := by kernel_rfl
/-- a list in a row that the call made -/
def RowId (w : World) (base : Nat) (A : Option Addr) (n c : Nat) (l : List IdV) : Prop := w.ownsRow base 155 2 (.slice A n c) n (l.flatMap encId)
def ClonePost (n : Nat) (l : List IdV) (w : World) (e : Ending) (w' : World) : Prop := (∃ A c, e = .returned (.slice A n c) ∧ RowId w' w.heap.size A n c l) ∧ Below w.heap.size w w'
set_option maxRecDepth 100000 in
theorem cloneIds_any (A : Option Addr) (n c : Nat) (l : List IdV) (w : World) (hz : Sl w w.heap.size encId 2 A n l) (hA : A = none → n = 0 ∧ c = 0) (hn : n ≤ 1048576) :
    Calls Tryz.prog 154 #[.slice A n c] w (ClonePost n l w) := by
  cases A with
  | none =>
    obtain ⟨rfl, rfl⟩ := hA rfl
    have hl : l = [] := List.length_eq_zero_iff.1 hz.len
    subst hl
    refine (cloneNil w).mono ?_
    rintro e w' ⟨rfl, rfl⟩
    exact ⟨⟨none, 0, rfl, World.ownsRow_nil _ _ _ _⟩, Below.refl _ _⟩
  | some a =>
    have hb0 : Below w.heap.size w (w.alloc (.cells #[] 155)) := (Below.refl _ w).alloc (Nat.le_refl _) _
    have HS := Lib.hid (hz.belowMore hb0 hb0.size)
    have HB := Lib.hid hb0
    have hq := eqIdsSome a n c
    clear hz hA hb0
    go_enter Tryz.func154, Tryz.ntmps154
    go_wp2_with (at_builtin; refine wpList_appG elemId rfl _ _ rfl w.heap.size (some ⟨w.heap.size, 0, none⟩) 0 0 [] ?hx (own_empty w) (some a) n c l ?hy HS.out (fun e => by cases e) (by omega) HB.out.size ?hk)
    (try case hx => rfl)
    (try case hy => rfl)
    case hk =>
      intro A2 c2 w2 hv2 hb2
      have HV2 := Lib.hid hv2; have HB2 := Lib.hid (HB.out.trans hb2)
      clear hv2 hb2
      go_wp2_with fail
      go_ret
      exact ⟨⟨A2, c2, by simp, by unfold RowId; simpa using HV2.out⟩, HB2.out⟩
theorem clamp_any (t : Int) (w : World) : Calls Tryz.prog 41 #[.int .i32 t] w fun e w' => e = .returned (.int .i32 (min (max t 4) 1048576)) ∧ w = w' := by
  go_enter Tryz.func41, Tryz.ntmps41
  go_wp2_with fail
  go_ret
  exact ⟨rfl, rfl⟩
end Go.Proofs.YtbpmmmnphpkdjaaGreatDoor
namespace Go.Proofs.YtbpmmmnphpkdjaaGreatDoor
open Go.RowKit
theorem Sl.take {α : Type} [Inhabited α] {w : World} {B k n m : Nat} {enc : α → List Value} {A : Option Addr} {zs : List α} (h : Sl w B enc k A n zs) (hm : m ≤ n) : Sl w B enc k A m (zs.take m) :=
  ⟨by rw [List.length_take, h.len]; omega, fun h0 => by
    obtain ⟨b, off, e, hb, hc⟩ := h.2 (by omega)
    refine ⟨b, off, e, hb, fun j hj i u hu => hc j (by omega) i u ?_⟩
    have hl := h.len
    have e2 : (zs.take m)[j]! = zs[j]! := by
      rw [getElem!_pos _ j (by rw [List.length_take]; omega), getElem!_pos zs j (by omega), List.getElem_take]
    rwa [e2] at hu⟩
def idsOk (l : List IdV) : Prop := ∀ i, i < l.length → identP l[i]! = true ∧ (l.take i).any (fun y => decide (y = l[i]!)) = false
/-- a session on paper -/
abbrev SesP := Int × Int × List IdV
def rightS (s : SesP) : Prop := 0 < s.1 ∧ 4 ≤ s.2.1 ∧ s.2.1 ≤ 1048576 ∧ s.2.2.length ≤ 16 ∧ idsOk s.2.2
theorem clamp_q (t : Int) (W : World) (x : Nat) : Calls Tryz.prog 41 #[.int .i32 t] (W.drewN x) fun e w' => e = .returned (.int .i32 (min (max t 4) 1048576)) ∧ ∃ n, w' = W.drewN n :=
  (clamp_any t _).mono fun _ _ h => ⟨h.1, x, h.2.symm⟩
set_option maxRecDepth 100000 in
set_option maxHeartbeats 2000000 in
theorem right_first (i tm : Int) (A : Option Addr) (n c : Nat) (w : World) (hr : ¬ (0 < i ∧ 4 ≤ tm ∧ tm ≤ 1048576 ∧ n ≤ 16)) (htm : -2147483648 ≤ tm ∧ tm ≤ 2147483647) : Calls Tryz.prog 43 #[.agg #[.int .i64 i, .int .i32 tm, .slice A n c]] w fun e w' => e = .returned (.bool false) ∧ Below w.heap.size w w' := by
  have hb0 : Below w.heap.size w (w.alloc (.cells #[.int .i64 i, .int .i32 tm, .slice A n c] 47)) := (Below.refl _ w).alloc (Nat.le_refl _) _
  have z0 : (w.alloc (.cells #[.int .i64 i, .int .i32 tm, .slice A n c] 47)).cell? ⟨w.heap.size, 0, none⟩ = some (.int .i64 i) := by simp
  have z1 : (w.alloc (.cells #[.int .i64 i, .int .i32 tm, .slice A n c] 47)).cell? ⟨w.heap.size, 1, none⟩ = some (.int .i32 tm) := by simp
  have z2 : (w.alloc (.cells #[.int .i64 i, .int .i32 tm, .slice A n c] 47)).cell? ⟨w.heap.size, 2, none⟩ = some (.slice A n c) := by simp
  have hd1 : decide (i ≤ 0) = true ∨ (decide (i ≤ 0) = false ∧ (min (max tm 4) 1048576 != tm) = true) ∨ (decide (i ≤ 0) = false ∧ (min (max tm 4) 1048576 != tm) = false ∧ decide (16 < (n : Int)) = true) := by
    by_cases h1 : i ≤ 0
    · exact .inl (decide_eq_true h1)
    by_cases h2 : min (max tm 4) 1048576 = tm
    · exact .inr (.inr ⟨decide_eq_false h1, by simpa using h2, decide_eq_true (by omega)⟩)
    · exact .inr (.inl ⟨decide_eq_false h1, by simpa using h2⟩)
  clear hr
  rcases hd1 with hd1 | ⟨hd1, hd2⟩ | ⟨hd1, hd2, hd3⟩
  all_goals (
    go_enter Tryz.func43, Tryz.ntmps43
    go_wp2_with fail
    generalize w.alloc (.cells #[.int .i64 i, .int .i32 tm, .slice A n c] 47) = W at *
    go_quiet (exact clamp_q tm W _)
    go_wp2_with fail
    go_ret
    exact ⟨rfl, drewN_below hb0 nq⟩)
def RtPost (l : List IdV) (w : World) (e : Ending) (w' : World) : Prop := (∃ b, e = .returned (.bool b) ∧ (b = true ↔ idsOk l)) ∧ Below w.heap.size w w'
def RtR (l : List IdV) (A : Option Addr) (n c : Nat) (w : World) (i : Value) (wr : World) : Prop := ∃ k : Nat, i = .int .i64 ↑k ∧ k ≤ n ∧ (∀ j, j < k → identP l[j]! = true ∧ (l.take j).any (fun y => decide (y = l[j]!)) = false) ∧ wr.cell? ⟨w.heap.size, 2, none⟩ = some (.slice A n c) ∧ Below w.heap.size w wr
set_option maxRecDepth 100000 in
set_option maxHeartbeats 2000000 in
theorem right_loop (i tm : Int) (A : Option Addr) (n c : Nat) (l : List IdV) (w : World) (hE : Env w) (hr : 0 < i ∧ 4 ≤ tm ∧ tm ≤ 1048576 ∧ n ≤ 16) (hz : Sl w w.heap.size encId 2 A n l) (hcap : n ≤ c) (hs : SmallI l n 1048576) : Calls Tryz.prog 43 #[.agg #[.int .i64 i, .int .i32 tm, .slice A n c]] w (RtPost l w) := by
  have hb0 : Below w.heap.size w (w.alloc (.cells #[.int .i64 i, .int .i32 tm, .slice A n c] 47)) := (Below.refl _ w).alloc (Nat.le_refl _) _
  have z0 : (w.alloc (.cells #[.int .i64 i, .int .i32 tm, .slice A n c] 47)).cell? ⟨w.heap.size, 0, none⟩ = some (.int .i64 i) := by simp
  have z1 : (w.alloc (.cells #[.int .i64 i, .int .i32 tm, .slice A n c] 47)).cell? ⟨w.heap.size, 1, none⟩ = some (.int .i32 tm) := by simp
  have z2 : (w.alloc (.cells #[.int .i64 i, .int .i32 tm, .slice A n c] 47)).cell? ⟨w.heap.size, 2, none⟩ = some (.slice A n c) := by simp
  have hd1 : decide (i ≤ 0) = false := decide_eq_false (by omega)
  have hd2 : (min (max tm 4) 1048576 != tm) = false := by
    have : min (max tm 4) 1048576 = tm := by omega
    rw [this]; simp
  have hd3 : decide (16 < (n : Int)) = false := decide_eq_false (by omega)
  have HS := Lib.hid hs; have HZ := Lib.hid hz; have HE := Lib.hid hE
  have HN := Lib.hid hr.2.2.2
  clear hr hs hz hE
  go_enter Tryz.func43, Tryz.ntmps43
  go_wp2_with fail
  generalize w.alloc (.cells #[.int .i64 i, .int .i32 tm, .slice A n c] 47) = W at *
  go_quiet (exact clamp_q tm W _)
  have HB := Lib.hid (drewN_below hb0 nq)
  have z2 : (W.drewN nq).cell? ⟨w.heap.size, 2, none⟩ = some (.slice A n c) := z2
  clear hb0 z0 z1
  generalize W.drewN nq = W2 at *
  go_wp2_with fail
  go_loopw [25] (fun i wr => RtR l A n c w i wr) (fun i _ => n - (intOf i).toNat)
  case atStart => exact ⟨0, rfl, Nat.zero_le _, fun j hj => absurd hj (by omega), z2, HB.out⟩
  case round =>
    obtain ⟨k, rfl, hk, hall, z2, hb⟩ := hrel
    have HA := Lib.hid hall; have HB := Lib.hid hb
    clear hall hb
    have hN := HN.out
    by_cases hkn : k < n
    · have hkn2 : ((k : Nat) : Int) < (n : Int) := by omega
      obtain ⟨b, off, hA, hbl, x0, x1⟩ := SlId.at_ (HZ.out.below HB.out) hkn
      have HSM := Lib.hid (HS.out k hkn)
      have HTK := Lib.hid (show Sl w w.heap.size encId 2 A k (l.take k) from (HZ.out.take hk))
      have HI := Lib.hid (show identP l[k]! = true → (l.take k).any (fun y => decide (y = l[k]!)) = false → ∀ j, j < k + 1 → identP l[j]! = true ∧ (l.take j).any (fun y => decide (y = l[j]!)) = false from fun h1 h2 j hj => by rcases Nat.lt_succ_iff_lt_or_eq.1 hj with h | rfl; exact HA.out j h; exact ⟨h1, h2⟩)
      have HJ := Lib.hid (show idsOk l → identP l[k]! = true ∧ (l.take k).any (fun y => decide (y = l[k]!)) = false from fun h => h k (by rw [HZ.out.len]; exact hkn))
      subst hA
      generalize l[k]! = x at *
      obtain ⟨s, t⟩ := x
      have hb1 : Below wr.heap.size wr (wr.alloc (.cells #[.string s, .string t] 155)) := (Below.refl _ wr).alloc (Nat.le_refl _) _
      have y0 : (wr.alloc (.cells #[.string s, .string t] 155)).cell? ⟨wr.heap.size, 0, none⟩ = some (.string s) := by simp
      have y1 : (wr.alloc (.cells #[.string s, .string t] 155)).cell? ⟨wr.heap.size, 1, none⟩ = some (.string t) := by simp
      have z2 := keep1 z2 hb1
      cases hid : identP (s, t) with
      | false =>
        have HF := Lib.hid (show ¬ idsOk l from fun h => by have := (HJ.out h).1; rw [hid] at this; cases this)
        have cI := fun W hE => identity_any s t (Nat.le_trans HSM.out.1 (by decide)) (Nat.le_trans HSM.out.2 (by decide)) W hE
        rw [hid] at cI
        have CI := Lib.hid cI
        have HBV := Lib.hid (HB.out.trans (hb1.mono HB.out.size))
        clear hid cI hb1
        go_wp2_with fail
        clear x0 x1 z2
        generalize wr.alloc (.cells #[.string s, .string t] 155) = V at *
        have HBW := Lib.hid (fun (d : Nat) (os : Array Obj) => HBV.out.trans ((below_regrown V d os).mono HBV.out.size))
        have CL := Lib.hid (fun (d : Nat) (os : Array Obj) => Calls.regrown_of (CI.out (Go.Sort.grow (redrawn V d) os) (HE.out.later (HBW.out d os))))
        have D0 := fun d os => cell_regrown y0 d os
        have D1 := fun d os => cell_regrown y1 d os
        clear y0 y1
        refine wp_region_quiet_below (by kernel_rfl) (by kernel_rfl) ?_
        repeat (go_big_quiet_step ((exact CL.out _ _)))
        refine wpQuiet_nil ?_
        intro _ hw'
        obtain ⟨⟨dq, osq⟩, hw''⟩ := hw'
        subst hw''
        have HBF := Lib.hid (HBW.out dq osq)
        clear D0 D1
        go_wp2_with fail
        go_ret
        exact ⟨⟨false, rfl, by simp [HF.out]⟩, HBF.out⟩
      | true =>
        have cI := fun W hE => identity_any s t (Nat.le_trans HSM.out.1 (by decide)) (Nat.le_trans HSM.out.2 (by decide)) W hE
        rw [hid] at cI
        have CI := Lib.hid cI
        have HID := Lib.hid hid
        have HBV := Lib.hid (HB.out.trans ((hb1.drew).mono HB.out.size))
        have S0 : (wr.alloc (.cells #[.string s, .string t] 155)).drew.cell? ⟨w.heap.size, 2, none⟩ = some (.slice (some ⟨b, off, none⟩) n c) ∧ (wr.alloc (.cells #[.string s, .string t] 155)).drew.cell? ⟨wr.heap.size, 0, none⟩ = some (.string s) ∧ (wr.alloc (.cells #[.string s, .string t] 155)).drew.cell? ⟨wr.heap.size, 1, none⟩ = some (.string t) := ⟨z2, y0, y1⟩
        have hkc : ((k : Nat) : Int) ≤ (c : Int) := by omega
        clear hid cI hb1
        cases hany : (l.take k).any (fun y => decide (y = (s, t)))
        case false =>
          have HAN := Lib.hid hany
          clear hany
          go_wp2_with fail
          clear x0 x1
          go_region_held3 (fun w' => (w'.cell? ⟨w.heap.size, 2, none⟩ = some (.slice (some ⟨b, off, none⟩) n c) ∧ w'.cell? ⟨wr.heap.size, 0, none⟩ = some (.string s) ∧ w'.cell? ⟨wr.heap.size, 1, none⟩ = some (.string t)))
            ((first | assumption | exact S0))
            (first
            | (go_at_call 83; refine (CI.out _ (HE.out.later HBV.out)).mono ?_; rintro e w5 ⟨rfl, hb5⟩; have S5 := And.intro (keep1 S0.1 hb5) (And.intro (keep1 S0.2.1 hb5) (keep1 S0.2.2 hb5)); have HB5 := Lib.hid (HBV.out.trans (hb5.mono HBV.out.size)); clear hb5)
            | (go_at_call 84; refine (containsId_any (some ⟨b, off, none⟩) k c (l.take k) s t _ (HTK.out.belowMore HB5.out HB5.out.size) (by omega)).mono ?_; rintro e w6 ⟨rfl, hb6⟩; rw [HAN.out]; have S6 := And.intro (keep1 S5.1 hb6) (And.intro (keep1 S5.2.1 hb6) (keep1 S5.2.2 hb6)); have HB6 := Lib.hid (HB5.out.trans (hb6.mono HB5.out.size)); clear hb6))
          have HI2 := Lib.hid (HI.out HID.out HAN.out)
          have z2 := S6.1
          clear S0 S5 S6
          go_wp2_with fail
          go_roundw
          case rel => exact ⟨k + 1, by go_num, by omega, HI2.out, z2, HB6.out⟩
          case measure => simp [intOf]; omega
        case true =>
          have HAN := Lib.hid hany
          clear hany
          go_wp2_with fail
          clear x0 x1
          go_region_held3 (fun w' => (w'.cell? ⟨w.heap.size, 2, none⟩ = some (.slice (some ⟨b, off, none⟩) n c) ∧ w'.cell? ⟨wr.heap.size, 0, none⟩ = some (.string s) ∧ w'.cell? ⟨wr.heap.size, 1, none⟩ = some (.string t)))
            ((first | assumption | exact S0))
            (first
            | (go_at_call 83; refine (CI.out _ (HE.out.later HBV.out)).mono ?_; rintro e w5 ⟨rfl, hb5⟩; have S5 := And.intro (keep1 S0.1 hb5) (And.intro (keep1 S0.2.1 hb5) (keep1 S0.2.2 hb5)); have HB5 := Lib.hid (HBV.out.trans (hb5.mono HBV.out.size)); clear hb5)
            | (go_at_call 84; refine (containsId_any (some ⟨b, off, none⟩) k c (l.take k) s t _ (HTK.out.belowMore HB5.out HB5.out.size) (by omega)).mono ?_; rintro e w6 ⟨rfl, hb6⟩; rw [HAN.out]; have S6 := And.intro (keep1 S5.1 hb6) (And.intro (keep1 S5.2.1 hb6) (keep1 S5.2.2 hb6)); have HB6 := Lib.hid (HB5.out.trans (hb6.mono HB5.out.size)); clear hb6))
          have HF := Lib.hid (show ¬ idsOk l from fun h => by have := (HJ.out h).2; rw [HAN.out] at this; cases this)
          go_wp2_with fail
          go_ret
          exact ⟨⟨false, rfl, by simp [HF.out]⟩, HB6.out⟩
    · have hkn2 : ¬ ((k : Nat) : Int) < (n : Int) := by omega
      have HT := Lib.hid (show idsOk l from fun j hj => HA.out j (by rw [HZ.out.len] at hj; omega))
      go_wp2_with fail
      go_ret
      exact ⟨⟨true, rfl, by simp [HT.out]⟩, HB.out⟩
open Classical in
theorem right_any (i tm : Int) (A : Option Addr) (n c : Nat) (l : List IdV) (w : World) (hE : Env w) (h : SesOk w (i, tm, A, n, c) l 1048576) : Calls Tryz.prog 43 #[.agg #[.int .i64 i, .int .i32 tm, .slice A n c]] w (RetB w (decide (rightS (i, tm, l)))) := by
  obtain ⟨_, h2, h3, h4, _, h6⟩ := h
  have hl : l.length = n := h3.len
  by_cases hr : 0 < i ∧ 4 ≤ tm ∧ tm ≤ 1048576 ∧ n ≤ 16
  · refine (right_loop i tm A n c l w hE hr h3 h4.2 h6).mono ?_
    rintro e w' ⟨⟨b, rfl, hb⟩, hb2⟩
    refine RetB.mk hb2 ?_
    rw [Bool.eq_iff_iff, hb, decide_eq_true_iff]
    show idsOk l ↔ (0 < i ∧ 4 ≤ tm ∧ tm ≤ 1048576 ∧ l.length ≤ 16 ∧ idsOk l)
    rw [hl]
    exact ⟨fun h => ⟨hr.1, hr.2.1, hr.2.2.1, hr.2.2.2, h⟩, fun h => h.2.2.2.2⟩
  · refine (right_first i tm A n c w hr h2).mono ?_
    rintro e w' ⟨rfl, hb2⟩
    refine RetB.mk hb2 ?_
    rw [eq_comm, decide_eq_false_iff_not]
    rintro ⟨a1, a2, a3, a4, _⟩
    exact hr ⟨a1, a2, a3, by rw [← hl]; exact a4⟩
theorem heap_setN {w : World} {b o : Nat} {cs : Array Value} {T : TypeId} (h : w.heap[b]? = some (.cells cs T (0, 0))) (v : Value) : (w.setCell ⟨b, o, none⟩ v).heap[b]? = some (.cells (cs.setIfInBounds o v) T (0, 0)) := by
  unfold World.setCell
  rw [Array.getElem?_modify, if_pos rfl, h]
  rfl
theorem Fr.set {own : List Nat} {w w1 : World} (h : Fr own w w1) {b : Nat} (hb : b ∈ own) (o : Nat) (v : Value) : Fr own w (w1.setCell ⟨b, o, none⟩ v) := h.trans (fr_set w1 b o v) (fun g hg => .inl (by rw [List.mem_singleton.1 hg]; exact hb))
def OwnSes (i tm : Int) (n : Nat) (l : List IdV) (w : World) (e : Ending) (w' : World) : Prop := (∃ A c, e = .returned (.agg #[.int .i64 i, .int .i32 tm, .slice A n c]) ∧ RowId w' w.heap.size A n c l) ∧ Below w.heap.size w w'
theorem RowId.base {w : World} {b b' n c : Nat} {A : Option Addr} {l : List IdV} (h : RowId w b A n c l) (hb : b' ≤ b) : RowId w b' A n c l :=
  ⟨h.1, h.2.imp (fun x => x) fun ⟨g, cap, cur, a, h1, r⟩ => ⟨g, cap, cur, a, Nat.le_trans hb h1, r⟩⟩
set_option maxRecDepth 100000 in
set_option maxHeartbeats 1000000 in
theorem sesOwn_any (i tm : Int) (A : Option Addr) (n c : Nat) (l : List IdV) (w : World) (hz : Sl w w.heap.size encId 2 A n l) (hA : A = none → n = 0 ∧ c = 0) (hn : n ≤ 1048576) : Calls Tryz.prog 122 #[.agg #[.int .i64 i, .int .i32 tm, .slice A n c]] w (OwnSes i tm n l w) := by
  have hb1 : Below w.heap.size w (w.alloc (.cells #[.int .i64 i, .int .i32 tm, .slice A n c] 47)) := (Below.refl _ w).alloc (Nat.le_refl _) _
  have hb0 : Below w.heap.size w ((w.alloc (.cells #[.int .i64 i, .int .i32 tm, .slice A n c] 47)).alloc (.cells #[.int .i64 0, .int .i32 0, .slice none 0 0] 47)) := hb1.alloc hb1.size _
  have HZ := Lib.hid (hz.belowMore hb0 hb0.size); have HA := Lib.hid hA; have HB := Lib.hid hb0
  have h0 : ((w.alloc (.cells #[.int .i64 i, .int .i32 tm, .slice A n c] 47)).alloc (.cells #[.int .i64 0, .int .i32 0, .slice none 0 0] 47)).heap[w.heap.size]? = some (.cells #[.int .i64 i, .int .i32 tm, .slice A n c] 47 (0, 0)) :=
    ((Below.refl _ _).alloc (Nat.le_refl _) _ |>.block w.heap.size (by simp)).trans (heap_alloc_new w _)
  have h1 : ((w.alloc (.cells #[.int .i64 i, .int .i32 tm, .slice A n c] 47)).alloc (.cells #[.int .i64 0, .int .i32 0, .slice none 0 0] 47)).heap[w.heap.size + 1]? = some (.cells #[.int .i64 0, .int .i32 0, .slice none 0 0] 47 (0, 0)) := by
    have := heap_alloc_new (w.alloc (.cells #[.int .i64 i, .int .i32 tm, .slice A n c] 47)) (.cells #[.int .i64 0, .int .i32 0, .slice none 0 0] 47)
    rwa [World.size_alloc] at this
  have H0 := Lib.hid h0; have H1 := Lib.hid h1
  have HSZ : Hid (((w.alloc (.cells #[.int .i64 i, .int .i32 tm, .slice A n c] 47)).alloc (.cells #[.int .i64 0, .int .i32 0, .slice none 0 0] 47)).heap.size = w.heap.size + 2) := Lib.hid (by simp)
  clear hz hA hb0 hb1 h0 h1
  go_enter Tryz.func122, Tryz.ntmps122
  go_wp2_with fail
  refine (cloneIds_any A n c l _ HZ.out HA.out hn).mono ?_
  generalize ((w.alloc (.cells #[.int .i64 i, .int .i32 tm, .slice A n c] 47)).alloc (.cells #[.int .i64 0, .int .i32 0, .slice none 0 0] 47)) = W at *
  rintro e w1 ⟨⟨A1, c1, rfl, hr⟩, hb1⟩
  have g0 := (hb1.block w.heap.size (by rw [HSZ.out]; omega)).trans H0.out
  have g1 := (hb1.block (w.heap.size + 1) (by rw [HSZ.out]; omega)).trans H1.out
  have y0 : w1.cell? ⟨w.heap.size, 0, none⟩ = some (.int .i64 i) := by rw [cellH g0]; rfl
  have y1 : w1.cell? ⟨w.heap.size, 1, none⟩ = some (.int .i32 tm) := by rw [cellH g0]; rfl
  have y2 : w1.cell? ⟨w.heap.size, 2, none⟩ = some (.slice A n c) := by rw [cellH g0]; rfl
  have x0 : w1.cell? ⟨w.heap.size + 1, 0, none⟩ = some (.int .i64 0) := by rw [cellH g1]; rfl
  have x1 : w1.cell? ⟨w.heap.size + 1, 1, none⟩ = some (.int .i32 0) := by rw [cellH g1]; rfl
  have x2 : w1.cell? ⟨w.heap.size + 1, 2, none⟩ = some (.slice none 0 0) := by rw [cellH g1]; rfl
  have f2 : w1.frozen? ⟨w.heap.size, 2, none⟩ = false := by simp [World.frozen?, g0]
  have e0 : w1.frozen? ⟨w.heap.size + 1, 0, none⟩ = false := by simp [World.frozen?, g1]
  have e1 : w1.frozen? ⟨w.heap.size + 1, 1, none⟩ = false := by simp [World.frozen?, g1]
  have e2 : w1.frozen? ⟨w.heap.size + 1, 2, none⟩ = false := by simp [World.frozen?, g1]
  have G := Lib.hid (And.intro g0 g1)
  have HR := Lib.hid hr; have HB1 := Lib.hid hb1
  clear hr hb1 g0 g1
  go_wp2_with fail
  have hF : Fr [w.heap.size, w.heap.size + 1] w1 ((((w1.setCell ⟨w.heap.size, 2, none⟩ (.slice A1 n c1)).setCell ⟨w.heap.size + 1, 0, none⟩ (.int .i64 i)).setCell ⟨w.heap.size + 1, 1, none⟩ (.int .i32 tm)).setCell ⟨w.heap.size + 1, 2, none⟩ (.slice A1 n c1)) :=
    ((((Fr.refl _ w1).set (by simp) 2 _).set (by simp) 0 _).set (by simp) 1 _).set (by simp) 2 _
  have hC : ((((w1.setCell ⟨w.heap.size, 2, none⟩ (.slice A1 n c1)).setCell ⟨w.heap.size + 1, 0, none⟩ (.int .i64 i)).setCell ⟨w.heap.size + 1, 1, none⟩ (.int .i32 tm)).setCell ⟨w.heap.size + 1, 2, none⟩ (.slice A1 n c1)).heap[w.heap.size + 1]? = some (.cells #[.int .i64 i, .int .i32 tm, .slice A1 n c1] 47 (0, 0)) :=
    heap_setN (heap_setN (heap_setN ((heap_set_other w1 w.heap.size 2 _ (show w.heap.size + 1 ≠ w.heap.size by omega)).trans G.out.2) _) _) _
  generalize ((((w1.setCell ⟨w.heap.size, 2, none⟩ (.slice A1 n c1)).setCell ⟨w.heap.size + 1, 0, none⟩ (.int .i64 i)).setCell ⟨w.heap.size + 1, 1, none⟩ (.int .i32 tm)).setCell ⟨w.heap.size + 1, 2, none⟩ (.slice A1 n c1)) = V at *
  have q0 : V.cell? ⟨w.heap.size + 1, 0, none⟩ = some (.int .i64 i) := by rw [cellH hC]; rfl
  have q1 : V.cell? ⟨w.heap.size + 1, 1, none⟩ = some (.int .i32 tm) := by rw [cellH hC]; rfl
  have q2 : V.cell? ⟨w.heap.size + 1, 2, none⟩ = some (.slice A1 n c1) := by rw [cellH hC]; rfl
  have hR : RowId V w.heap.size A1 n c1 l := RowId.base (b := W.heap.size) (own_fr HR.out hF (fun g hg => by rw [HSZ.out]; simp at hg; omega)) (by rw [HSZ.out]; omega)
  have hB : Below w.heap.size w V := (HB.out.trans (HB1.out.mono HB.out.size)).trans (hF.below (Nat.le_trans HB.out.size HB1.out.size) (fun g hg => by simp at hg; omega))
  (try simp only [Exit.inBlock, Exit.then])
  refine bodyPost_ret ((results_cell1 rfl _ _ _).trans ?_) rfl ⟨⟨A1, c1, rfl, hR⟩, hB⟩
  go_simp
end Go.Proofs.YtbpmmmnphpkdjaaGreatDoor
