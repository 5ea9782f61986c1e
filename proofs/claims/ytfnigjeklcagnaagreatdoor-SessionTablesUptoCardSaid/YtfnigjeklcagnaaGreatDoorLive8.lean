/- The walks of a table's Open at the example, and of live. No condition. -/
import Derived.Test.YtfnigjeklcagnaaGreatDoorClkE
import Derived.Deep.RegionHeld3
import Derived.StillTailTactics
namespace Go.Proofs.YtfnigjeklcagnaaGreatDoor
open Go.RowKit Go.MapKept Go.Maps
open Go.ChangeMaps (setBlock heap_setBlock_same heap_setBlock_other)
def ex7 : Value := .agg #[.int .i64 7, .int .i32 10, .slice none 0 0]
theorem drew_self (w : World) : Below w.heap.size w w.drew := Below.drew (Below.refl _ w)
theorem keep1 {w w' : World} {a : Addr} {v : Value} (h : w.cell? a = some v) (hb : Below w.heap.size w w') : w'.cell? a = some v := (hb.cell (World.block_lt_of_cell? w _ h)).trans h
theorem clamp10 (w : World) : Calls Tryz.prog 59 #[.int .i32 10] w fun e w' => e = .returned (.int .i32 10) ∧ w = w' := by
  go_enter Tryz.func59, Tryz.ntmps59
  go_wp2_with fail
  go_ret
  exact ⟨rfl, rfl⟩
theorem no8_any (n : Int) (w : World) : Calls Tryz.prog 16 #[.int .i64 n] w fun e w' => e = .returned (.int .i64 n) ∧ w = w' := by
  go_enter Tryz.func16, Tryz.ntmps16
  go_wp2_with fail
  go_ret
  exact ⟨rfl, rfl⟩
set_option maxRecDepth 100000 in
theorem right7 (w : World) : Calls Tryz.prog 47 #[ex7] w fun e w' => e = .returned (.bool true) ∧ Below w.heap.size w w' := by
  unfold ex7
  have hb0 : Below w.heap.size w (w.alloc (.cells #[.int .i64 7, .int .i32 10, .slice none 0 0] 56)) := (Below.refl _ w).alloc (Nat.le_refl _) _
  go_enter Tryz.func47, Tryz.ntmps47
  go_wp2_with fail
  have z0 : (w.alloc (.cells #[.int .i64 7, .int .i32 10, .slice none 0 0] 56)).cell? ⟨w.heap.size, 0, none⟩ = some (.int .i64 7) := by simp
  have z1 : (w.alloc (.cells #[.int .i64 7, .int .i32 10, .slice none 0 0] 56)).cell? ⟨w.heap.size, 1, none⟩ = some (.int .i32 10) := by simp
  have z2 : (w.alloc (.cells #[.int .i64 7, .int .i32 10, .slice none 0 0] 56)).cell? ⟨w.heap.size, 2, none⟩ = some (.slice none 0 0) := by simp
  generalize w.alloc (.cells #[.int .i64 7, .int .i32 10, .slice none 0 0] 56) = W at *
  go_region_held3 (fun w' => (Below w.heap.size w w' ∧ w'.cell? ⟨w.heap.size, 0, none⟩ = some (.int .i64 7) ∧ w'.cell? ⟨w.heap.size, 1, none⟩ = some (.int .i32 10) ∧ w'.cell? ⟨w.heap.size, 2, none⟩ = some (.slice none 0 0)))
    ((first | assumption | exact ⟨hb0.drew, z0, z1, z2⟩))
    (first | (go_at_call 59; refine (clamp10 _).mono ?_; rintro e w' ⟨rfl, rfl⟩))
  obtain ⟨hbq, y0, y1, y2⟩ := (by assumption : Below w.heap.size w W.drew ∧ W.drew.cell? ⟨w.heap.size, 0, none⟩ = some (.int .i64 7) ∧ W.drew.cell? ⟨w.heap.size, 1, none⟩ = some (.int .i32 10) ∧ W.drew.cell? ⟨w.heap.size, 2, none⟩ = some (.slice none 0 0))
  have HQ := Lib.hid hbq
  go_wp2_with fail
  refine wp_loop_rounds 1 ?_
  rw [rounds_succ]
  go_wp2_with fail
  go_ret
  exact ⟨rfl, HQ.out⟩
theorem eqNilIds (w : World) : (binOp .eql 54 (.slice none 0 0) (.slice none 0 0)).run Tryz.prog w = .ok (.bool true) w := by kernel_rfl
set_option maxRecDepth 100000 in
theorem cloneNil (w : World) : Calls Tryz.prog 62 #[.slice none 0 0] w fun e w' => e = .returned (.slice none 0 0) ∧ w = w' := by
  have hsl := eqNilIds
  go_enter Tryz.func62, Tryz.ntmps62
  go_wp2_with fail
  go_ret
  exact ⟨rfl, rfl⟩
theorem results_cell1 {fn : Func} {p : Tmp} {ty : TypeId} (h : fn.results = #[.cell p ty]) (tmps : Array Value) (P : Program) (w : World) :
    (results fn tmps).run P w = ((asAddr (tmps.getD p undef)).run P w).andThen fun a w₁ => (loadVar ty a).run P w₁ := by
  simp only [results, h]
  simp [Sem.run_bind, Result.andThen]
set_option maxRecDepth 100000 in
theorem own7 (w : World) : Calls Tryz.prog 48 #[ex7] w fun e w' => e = .returned ex7 ∧ Below w.heap.size w w' := by
  unfold ex7
  have hB : Below w.heap.size w ((w.alloc (.cells #[.int .i64 7, .int .i32 10, .slice none 0 0] 56)).alloc (.cells #[.int .i64 0, .int .i32 0, .slice none 0 0] 56)) := ((Below.refl _ w).alloc (Nat.le_refl _) _).alloc (by simp) _
  have HB := Lib.hid hB
  clear hB
  go_enter Tryz.func48, Tryz.ntmps48
  go_wp2_with fail
  refine (cloneNil _).mono ?_
  rintro e w' ⟨rfl, rfl⟩
  go_wp2_with fail
  have z0 : ((w.alloc (.cells #[.int .i64 7, .int .i32 10, .slice none 0 0] 56)).alloc (.cells #[.int .i64 7, .int .i32 10, .slice none 0 0] 56)).cell? ⟨w.heap.size + 1, 0, none⟩ = some (.int .i64 7) := by simp
  have z1 : ((w.alloc (.cells #[.int .i64 7, .int .i32 10, .slice none 0 0] 56)).alloc (.cells #[.int .i64 7, .int .i32 10, .slice none 0 0] 56)).cell? ⟨w.heap.size + 1, 1, none⟩ = some (.int .i32 10) := by simp
  have z2 : ((w.alloc (.cells #[.int .i64 7, .int .i32 10, .slice none 0 0] 56)).alloc (.cells #[.int .i64 7, .int .i32 10, .slice none 0 0] 56)).cell? ⟨w.heap.size + 1, 2, none⟩ = some (.slice none 0 0) := by simp
  have hB2 : Below w.heap.size w ((w.alloc (.cells #[.int .i64 7, .int .i32 10, .slice none 0 0] 56)).alloc (.cells #[.int .i64 7, .int .i32 10, .slice none 0 0] 56)) := ((Below.refl _ w).alloc (Nat.le_refl _) _).alloc (by simp) _
  (try simp only [Exit.inBlock, Exit.then])
  refine bodyPost_ret ((results_cell1 rfl _ _ _).trans ?_) rfl ⟨rfl, hB2⟩
  generalize ((w.alloc (.cells #[.int .i64 7, .int .i32 10, .slice none 0 0] 56)).alloc (.cells #[.int .i64 7, .int .i32 10, .slice none 0 0] 56)) = W at *
  go_simp
/-- a table that holds these -/
def TabIs8 (w : World) (bt bm : Nat) (l : List (Int × Value)) : Prop := w.heap[bt]? = some (.cells #[.map (some bm)] 96 (0, 0)) ∧ MapI w bm l ∧ bt ≠ bm
theorem newTab (w : World) : Calls Tryz.prog 25 #[] w fun e w' => (∃ bt bm, e = .returned (.pointer (some ⟨bt, 0, none⟩)) ∧ TabIs8 w' bt bm [] ∧ w.heap.size ≤ bt ∧ w.heap.size ≤ bm) ∧ Below w.heap.size w w' := by
  have hmm := @run_makeMap Tryz.prog
  have hT : TabIs8 ((w.alloc (.map #[] 0)).alloc (.cells #[.map (some w.heap.size)] 96)) (w.heap.size + 1) w.heap.size [] := by
    refine ⟨?_, (MapI.made w).of_heap (Below.heap_alloc _ _ _ (by simp)), by omega⟩
    have := heap_alloc_new (w.alloc (.map #[] 0)) (.cells #[.map (some w.heap.size)] 96)
    simpa using this
  have hB : Below w.heap.size w ((w.alloc (.map #[] 0)).alloc (.cells #[.map (some w.heap.size)] 96)) := ((Below.refl _ w).alloc (Nat.le_refl _) _).alloc (by simp) _
  have HT := Lib.hid hT
  have HB := Lib.hid hB
  clear hT hB
  go_enter Tryz.func25, Tryz.ntmps25
  go_wp2_with fail
  go_ret
  exact ⟨⟨_, _, rfl, HT.out, by omega, by omega⟩, HB.out⟩
theorem tabLen (bt bm : Nat) (l : List (Int × Value)) (w : World) (h : TabIs8 w bt bm l) : Calls Tryz.prog 31 #[.pointer (some ⟨bt, 0, none⟩)] w fun e w' => e = .returned (.int .i64 l.length) ∧ w = w' := by
  obtain ⟨h1, h2, _⟩ := h
  have k0 : w.cell? ⟨bt, 0, none⟩ = some (.map (some bm)) := by rw [cellH h1]; rfl
  have r := h2.len Tryz.underlying94 3
  clear h1 h2
  go_enter Tryz.func31, Tryz.ntmps31
  go_wp2_with fail
  go_ret
  exact ⟨rfl, rfl⟩
theorem zSession (w : World) : (zeroValue 56).run Tryz.prog w = .ok (.agg #[.int .i64 0, .int .i32 0, .slice none 0 0]) w := by kernel_rfl
theorem wf7 : wfI 7 := ⟨by decide, by decide⟩
set_option maxRecDepth 100000 in
set_option maxHeartbeats 1000000 in
theorem openOld (bt bm : Nat) (w : World) (h : TabIs8 w bt bm [(7, ex7)]) : Calls Tryz.prog 26 #[.pointer (some ⟨bt, 0, none⟩), ex7] w fun e w' => e = .returned (.int .i64 80) ∧ Below w.heap.size w w' := by
  obtain ⟨h1, h2, h3⟩ := h
  have k0 : w.cell? ⟨bt, 0, none⟩ = some (.map (some bm)) := by rw [cellH h1]; rfl
  have hl : ∀ w' : World, w'.heap[bm]? = w.heap[bm]? → (Instr.lookup 94 (.map (some bm)) (.int .i64 7) true).run Tryz.prog w' = .ok (.tuple #[ex7, .bool true]) w' := by
    rcases h2.lookup Tryz.underlying94 true zSession wf7 with ⟨v, hv, hr⟩ | ⟨hn, _⟩
    · have : v = ex7 := by
        have := List.mem_singleton.1 hv
        exact congrArg Prod.snd this
      rw [this] at hr
      exact hr
    · exact absurd rfl (hn (7, ex7) (by simp))
  have hbt : bt < w.heap.size := (Array.getElem?_eq_some_iff.1 h1).1
  have hbm := h2.lt
  unfold ex7 at *
  have hb0 : Below w.heap.size w (w.alloc (.cells #[.int .i64 7, .int .i32 10, .slice none 0 0] 56)) := (Below.refl _ w).alloc (Nat.le_refl _) _
  have cR := right7 (w.alloc (.cells #[.int .i64 7, .int .i32 10, .slice none 0 0] 56))
  unfold ex7 at cR
  have z0 : (w.alloc (.cells #[.int .i64 7, .int .i32 10, .slice none 0 0] 56)).cell? ⟨w.heap.size, 0, none⟩ = some (.int .i64 7) := by simp
  have z1 : (w.alloc (.cells #[.int .i64 7, .int .i32 10, .slice none 0 0] 56)).cell? ⟨w.heap.size, 1, none⟩ = some (.int .i32 10) := by simp
  have z2 : (w.alloc (.cells #[.int .i64 7, .int .i32 10, .slice none 0 0] 56)).cell? ⟨w.heap.size, 2, none⟩ = some (.slice none 0 0) := by simp
  clear h1 h2
  go_enter Tryz.func26, Tryz.ntmps26
  go_wp2_with fail
  refine cR.mono ?_
  rintro e w1 ⟨rfl, hb1⟩
  have y0 := keep1 z0 hb1
  have y1 := keep1 z1 hb1
  have y2 := keep1 z2 hb1
  have kb := keep1 ((hb0.cell (p := ⟨bt, 0, none⟩) hbt).trans k0) hb1
  have hB := hb0.trans (hb1.mono hb0.size)
  have HB := Lib.hid hB
  have HSO : ∀ w', Below w1.heap.size w1 w' → (Below w1.heap.size w1 w' ∧ w'.cell? ⟨bt, 0, none⟩ = some (.map (some bm)) ∧ w'.cell? ⟨w.heap.size, 0, none⟩ = some (.int .i64 7) ∧ w'.cell? ⟨w.heap.size, 1, none⟩ = some (.int .i32 10) ∧ w'.cell? ⟨w.heap.size, 2, none⟩ = some (.slice none 0 0) ∧
      (Instr.lookup 94 (.map (some bm)) (.int .i64 7) true).run Tryz.prog w' = .ok (.tuple #[.agg #[.int .i64 7, .int .i32 10, .slice none 0 0], .bool true]) w') := fun w' hb =>
    ⟨hb, keep1 kb hb, keep1 y0 hb, keep1 y1 hb, keep1 y2 hb, hl w' ((hb.block bm (Nat.lt_of_lt_of_le hbm hB.size)).trans (hB.block bm hbm))⟩
  clear z0 z1 z2 k0 hb1 hB hb0 hl
  go_wp2_with fail
  go_region_held3 (fun w' => (Below w1.heap.size w1 w' ∧ w'.cell? ⟨bt, 0, none⟩ = some (.map (some bm)) ∧ w'.cell? ⟨w.heap.size, 0, none⟩ = some (.int .i64 7) ∧ w'.cell? ⟨w.heap.size, 1, none⟩ = some (.int .i32 10) ∧ w'.cell? ⟨w.heap.size, 2, none⟩ = some (.slice none 0 0) ∧
      (Instr.lookup 94 (.map (some bm)) (.int .i64 7) true).run Tryz.prog w' = .ok (.tuple #[.agg #[.int .i64 7, .int .i32 10, .slice none 0 0], .bool true]) w'))
    ((first | assumption | exact HSO _ (drew_self _) | exact HSO _ (Below.drew ((Below.refl _ w1).alloc (Nat.le_refl _) _)) | exact HSO _ (Below.alloc (And.left (by assumption)) (And.left (by assumption) : Below w1.heap.size w1 _).size _) | exact HSO _ (Below.setCell (Below.setCell (Below.setCell (And.left (by assumption)) (by omega) _) (by omega) _) (by omega) _)))
    (fail)
  all_goals (
    have HQ := Lib.hid (HB.out.trans ((And.left (by assumption) : Below w1.heap.size w1 _).mono HB.out.size))
    go_wp2_with fail
    go_ret
    exact ⟨rfl, HQ.out⟩)
set_option maxRecDepth 100000 in
set_option maxHeartbeats 2000000 in
theorem openNew (bt bm : Nat) (w : World) (h : TabIs8 w bt bm []) : Calls Tryz.prog 26 #[.pointer (some ⟨bt, 0, none⟩), ex7] w fun e w' => e = .returned (.int .i64 0) ∧ TabIs8 w' bt bm [(7, ex7)] ∧ Fr [bt, bm] w w' := by
  obtain ⟨h1, h2, h3⟩ := h
  have k0 : w.cell? ⟨bt, 0, none⟩ = some (.map (some bm)) := by rw [cellH h1]; rfl
  have hl : ∀ w' : World, w'.heap[bm]? = w.heap[bm]? → (Instr.lookup 94 (.map (some bm)) (.int .i64 7) true).run Tryz.prog w' = .ok (.tuple #[.agg #[.int .i64 0, .int .i32 0, .slice none 0 0], .bool false]) w' := by
    rcases h2.lookup Tryz.underlying94 true zSession wf7 with ⟨v, hv, _⟩ | ⟨_, hr⟩
    · cases hv
    · exact hr
  have hbt : bt < w.heap.size := (Array.getElem?_eq_some_iff.1 h1).1
  have hbm := h2.lt
  have HT := Lib.hid (And.intro h1 (And.intro h2 h3))
  unfold ex7 at *
  have hb0 : Below w.heap.size w (w.alloc (.cells #[.int .i64 7, .int .i32 10, .slice none 0 0] 56)) := (Below.refl _ w).alloc (Nat.le_refl _) _
  have cR := right7 (w.alloc (.cells #[.int .i64 7, .int .i32 10, .slice none 0 0] 56))
  have cO := own7
  unfold ex7 at cR cO
  have z0 : (w.alloc (.cells #[.int .i64 7, .int .i32 10, .slice none 0 0] 56)).cell? ⟨w.heap.size, 0, none⟩ = some (.int .i64 7) := by simp
  have z1 : (w.alloc (.cells #[.int .i64 7, .int .i32 10, .slice none 0 0] 56)).cell? ⟨w.heap.size, 1, none⟩ = some (.int .i32 10) := by simp
  have z2 : (w.alloc (.cells #[.int .i64 7, .int .i32 10, .slice none 0 0] 56)).cell? ⟨w.heap.size, 2, none⟩ = some (.slice none 0 0) := by simp
  clear h1 h2
  go_enter Tryz.func26, Tryz.ntmps26
  go_wp2_with fail
  refine cR.mono ?_
  rintro e w1 ⟨rfl, hb1⟩
  have y0 := keep1 z0 hb1
  have y1 := keep1 z1 hb1
  have y2 := keep1 z2 hb1
  have kb := keep1 ((hb0.cell (p := ⟨bt, 0, none⟩) hbt).trans k0) hb1
  have hB := hb0.trans (hb1.mono hb0.size)
  have HB := Lib.hid hB
  have HSO : ∀ w', Below w1.heap.size w1 w' → (Below w1.heap.size w1 w' ∧ w'.cell? ⟨bt, 0, none⟩ = some (.map (some bm)) ∧ w'.cell? ⟨w.heap.size, 0, none⟩ = some (.int .i64 7) ∧ w'.cell? ⟨w.heap.size, 1, none⟩ = some (.int .i32 10) ∧ w'.cell? ⟨w.heap.size, 2, none⟩ = some (.slice none 0 0) ∧
      (Instr.lookup 94 (.map (some bm)) (.int .i64 7) true).run Tryz.prog w' = .ok (.tuple #[.agg #[.int .i64 0, .int .i32 0, .slice none 0 0], .bool false]) w') := fun w' hb =>
    ⟨hb, keep1 kb hb, keep1 y0 hb, keep1 y1 hb, keep1 y2 hb, hl w' ((hb.block bm (Nat.lt_of_lt_of_le hbm hB.size)).trans (hB.block bm hbm))⟩
  clear z0 z1 z2 k0 hb1 hB hb0 hl
  go_wp2_with fail
  go_region_held3 (fun w' => (Below w1.heap.size w1 w' ∧ w'.cell? ⟨bt, 0, none⟩ = some (.map (some bm)) ∧ w'.cell? ⟨w.heap.size, 0, none⟩ = some (.int .i64 7) ∧ w'.cell? ⟨w.heap.size, 1, none⟩ = some (.int .i32 10) ∧ w'.cell? ⟨w.heap.size, 2, none⟩ = some (.slice none 0 0) ∧
      (Instr.lookup 94 (.map (some bm)) (.int .i64 7) true).run Tryz.prog w' = .ok (.tuple #[.agg #[.int .i64 0, .int .i32 0, .slice none 0 0], .bool false]) w'))
    ((first | assumption | exact HSO _ (drew_self _) | exact HSO _ (Below.drew ((Below.refl _ w1).alloc (Nat.le_refl _) _)) | exact HSO _ (Below.alloc (And.left (by assumption)) (And.left (by assumption) : Below w1.heap.size w1 _).size _)))
    (fail)
  all_goals (
    have hq := (And.left (by assumption) : Below w1.heap.size w1 _)
    obtain ⟨_, x1, x2, x3, x4, _⟩ := HSO _ hq
    have HQ := Lib.hid (HB.out.trans (hq.mono HB.out.size))
    clear HSO hq)
  all_goals (
    go_wp2_with fail
    generalize (w1.alloc (.cells #[.int .i64 0, .int .i32 0, .slice none 0 0] 56)).drew = W2 at *
    go_region_with (first
      | (go_at_call 48; refine (cO _).mono ?_; rintro e w3 ⟨rfl, hb3⟩; have v1 := keep1 (show W2.drew.cell? ⟨bt, 0, none⟩ = _ from x1) hb3; have v2 := keep1 (show W2.drew.cell? ⟨w.heap.size, 0, none⟩ = _ from x2) hb3; have v3 := keep1 (show W2.drew.cell? ⟨w.heap.size, 1, none⟩ = _ from x3) hb3; have v4 := keep1 (show W2.drew.cell? ⟨w.heap.size, 2, none⟩ = _ from x4) hb3; have hB3 := HQ.out.trans ((drew_self W2).trans (hb3.mono (Nat.le_refl _)) |>.mono HQ.out.size); have HB3 := Lib.hid hB3; obtain ⟨w4, l4, r4, m4, g4, z4, e4⟩ := (HT.out.2.1.of_heap (hB3.block bm hbm)).update Tryz.underlying94 wf7 (.agg #[.int .i64 7, .int .i32 10, .slice none 0 0]); have HF := Lib.hid (And.intro m4 (And.intro g4 e4)); clear hB3 m4 g4 e4 hb3))
    all_goals (
      go_wp2_with fail
      go_ret
      refine ⟨rfl, ⟨(HF.out.2.1.block bt (Nat.lt_of_lt_of_le hbt HB3.out.size) (fun e => h3 (by injection e))).trans ((HB3.out.block bt hbt).trans HT.out.1), ?_, h3⟩, (Fr.of_below (own := [bt, bm]) HB3.out).trans (Fr.of_grown (own := [bt, bm]) HF.out.2.1 (by simp)) (fun g hg => .inl hg)⟩
      rcases HF.out.2.2 with ⟨_, e⟩ | ⟨j, old, hj, _⟩
      · rw [← show l4 = [(7, Value.agg #[.int .i64 7, .int .i32 10, .slice none 0 0])] from e]
        exact HF.out.1
      · simp at hj))
end Go.Proofs.YtfnigjeklcagnaaGreatDoor
