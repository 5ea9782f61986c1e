/- The walks of a table's Open at the example, and of live. No condition. The walk of arborlaw08.live: the chapter's example comes out. No condition. -/
import Derived.Test.YtbpmmmnphpkdjaaGreatDoorZClkE
import Derived.Deep.RegionHeld3
import Derived.StillTailTactics
import Derived.Test.YtbpmmmnphpkdjaaGreatDoorZLongs
namespace Go.Proofs.YtbpmmmnphpkdjaaGreatDoor
open Go.RowKit Go.MapKept Go.Maps
open Go.ChangeMaps (setBlock heap_setBlock_same heap_setBlock_other)
def ex7 : Value := .agg #[.int .i64 7, .int .i32 10, .slice none 0 0]
theorem drew_self (w : World) : Below w.heap.size w w.drew := Below.drew (Below.refl _ w)
theorem keep1 {w w' : World} {a : Addr} {v : Value} (h : w.cell? a = some v) (hb : Below w.heap.size w w') : w'.cell? a = some v := (hb.cell (World.block_lt_of_cell? w _ h)).trans h
theorem clamp10 (w : World) : Calls Tryz.prog 41 #[.int .i32 10] w fun e w' => e = .returned (.int .i32 10) ∧ w = w' := by
  go_enter Tryz.func41, Tryz.ntmps41
  go_wp2_with fail
  go_ret
  exact ⟨rfl, rfl⟩
theorem no8_any (n : Int) (w : World) : Calls Tryz.prog 54 #[.int .i64 n] w fun e w' => e = .returned (.int .i64 n) ∧ w = w' := by
  go_enter Tryz.func54, Tryz.ntmps54
  go_wp2_with fail
  go_ret
  exact ⟨rfl, rfl⟩
set_option maxRecDepth 100000 in
theorem right7 (w : World) : Calls Tryz.prog 43 #[ex7] w fun e w' => e = .returned (.bool true) ∧ Below w.heap.size w w' := by
  unfold ex7
  have hb0 : Below w.heap.size w (w.alloc (.cells #[.int .i64 7, .int .i32 10, .slice none 0 0] 47)) := (Below.refl _ w).alloc (Nat.le_refl _) _
  go_enter Tryz.func43, Tryz.ntmps43
  go_wp2_with fail
  have z0 : (w.alloc (.cells #[.int .i64 7, .int .i32 10, .slice none 0 0] 47)).cell? ⟨w.heap.size, 0, none⟩ = some (.int .i64 7) := by simp
  have z1 : (w.alloc (.cells #[.int .i64 7, .int .i32 10, .slice none 0 0] 47)).cell? ⟨w.heap.size, 1, none⟩ = some (.int .i32 10) := by simp
  have z2 : (w.alloc (.cells #[.int .i64 7, .int .i32 10, .slice none 0 0] 47)).cell? ⟨w.heap.size, 2, none⟩ = some (.slice none 0 0) := by simp
  generalize w.alloc (.cells #[.int .i64 7, .int .i32 10, .slice none 0 0] 47) = W at *
  go_region_held3 (fun w' => (Below w.heap.size w w' ∧ w'.cell? ⟨w.heap.size, 0, none⟩ = some (.int .i64 7) ∧ w'.cell? ⟨w.heap.size, 1, none⟩ = some (.int .i32 10) ∧ w'.cell? ⟨w.heap.size, 2, none⟩ = some (.slice none 0 0)))
    ((first | assumption | exact ⟨hb0.drew, z0, z1, z2⟩))
    (first | (go_at_call 41; refine (clamp10 _).mono ?_; rintro e w' ⟨rfl, rfl⟩))
  obtain ⟨hbq, y0, y1, y2⟩ := (by assumption : Below w.heap.size w W.drew ∧ W.drew.cell? ⟨w.heap.size, 0, none⟩ = some (.int .i64 7) ∧ W.drew.cell? ⟨w.heap.size, 1, none⟩ = some (.int .i32 10) ∧ W.drew.cell? ⟨w.heap.size, 2, none⟩ = some (.slice none 0 0))
  have HQ := Lib.hid hbq
  go_wp2_with fail
  refine wp_loop_rounds 1 ?_
  rw [rounds_succ]
  go_wp2_with fail
  go_ret
  exact ⟨rfl, HQ.out⟩
theorem eqNilIds (w : World) : (binOp .eql 45 (.slice none 0 0) (.slice none 0 0)).run Tryz.prog w = .ok (.bool true) w := by kernel_rfl
set_option maxRecDepth 100000 in
theorem cloneNil (w : World) : Calls Tryz.prog 154 #[.slice none 0 0] w fun e w' => e = .returned (.slice none 0 0) ∧ w = w' := by
  have hsl := eqNilIds
  go_enter Tryz.func154, Tryz.ntmps154
  go_wp2_with fail
  go_ret
  exact ⟨rfl, rfl⟩
theorem results_cell1 {fn : Func} {p : Tmp} {ty : TypeId} (h : fn.results = #[.cell p ty]) (tmps : Array Value) (P : Program) (w : World) :
    (results fn tmps).run P w = ((asAddr (tmps.getD p undef)).run P w).andThen fun a w₁ => (loadVar ty a).run P w₁ := by
  simp only [results, h]
  simp [Sem.run_bind, Result.andThen]
set_option maxRecDepth 100000 in
theorem own7 (w : World) : Calls Tryz.prog 122 #[ex7] w fun e w' => e = .returned ex7 ∧ Below w.heap.size w w' := by
  unfold ex7
  have hB : Below w.heap.size w ((w.alloc (.cells #[.int .i64 7, .int .i32 10, .slice none 0 0] 47)).alloc (.cells #[.int .i64 0, .int .i32 0, .slice none 0 0] 47)) := ((Below.refl _ w).alloc (Nat.le_refl _) _).alloc (by simp) _
  have HB := Lib.hid hB
  clear hB
  go_enter Tryz.func122, Tryz.ntmps122
  go_wp2_with fail
  refine (cloneNil _).mono ?_
  rintro e w' ⟨rfl, rfl⟩
  go_wp2_with fail
  have z0 : ((w.alloc (.cells #[.int .i64 7, .int .i32 10, .slice none 0 0] 47)).alloc (.cells #[.int .i64 7, .int .i32 10, .slice none 0 0] 47)).cell? ⟨w.heap.size + 1, 0, none⟩ = some (.int .i64 7) := by simp
  have z1 : ((w.alloc (.cells #[.int .i64 7, .int .i32 10, .slice none 0 0] 47)).alloc (.cells #[.int .i64 7, .int .i32 10, .slice none 0 0] 47)).cell? ⟨w.heap.size + 1, 1, none⟩ = some (.int .i32 10) := by simp
  have z2 : ((w.alloc (.cells #[.int .i64 7, .int .i32 10, .slice none 0 0] 47)).alloc (.cells #[.int .i64 7, .int .i32 10, .slice none 0 0] 47)).cell? ⟨w.heap.size + 1, 2, none⟩ = some (.slice none 0 0) := by simp
  have hB2 : Below w.heap.size w ((w.alloc (.cells #[.int .i64 7, .int .i32 10, .slice none 0 0] 47)).alloc (.cells #[.int .i64 7, .int .i32 10, .slice none 0 0] 47)) := ((Below.refl _ w).alloc (Nat.le_refl _) _).alloc (by simp) _
  (try simp only [Exit.inBlock, Exit.then])
  refine bodyPost_ret ((results_cell1 rfl _ _ _).trans ?_) rfl ⟨rfl, hB2⟩
  generalize ((w.alloc (.cells #[.int .i64 7, .int .i32 10, .slice none 0 0] 47)).alloc (.cells #[.int .i64 7, .int .i32 10, .slice none 0 0] 47)) = W at *
  go_simp
/-- a table that holds these -/
def TabIs8 (w : World) (bt bm : Nat) (l : List (Int × Value)) : Prop := w.heap[bt]? = some (.cells #[.map (some bm)] 203 (0, 0)) ∧ MapI w bm l ∧ bt ≠ bm
theorem newTab (w : World) : Calls Tryz.prog 86 #[] w fun e w' => (∃ bt bm, e = .returned (.pointer (some ⟨bt, 0, none⟩)) ∧ TabIs8 w' bt bm [] ∧ w.heap.size ≤ bt ∧ w.heap.size ≤ bm) ∧ Below w.heap.size w w' := by
  have hmm := @run_makeMap Tryz.prog
  have hT : TabIs8 ((w.alloc (.map #[] 0)).alloc (.cells #[.map (some w.heap.size)] 203)) (w.heap.size + 1) w.heap.size [] := by
    refine ⟨?_, (MapI.made w).of_heap (Below.heap_alloc _ _ _ (by simp)), by omega⟩
    have := heap_alloc_new (w.alloc (.map #[] 0)) (.cells #[.map (some w.heap.size)] 203)
    simpa using this
  have hB : Below w.heap.size w ((w.alloc (.map #[] 0)).alloc (.cells #[.map (some w.heap.size)] 203)) := ((Below.refl _ w).alloc (Nat.le_refl _) _).alloc (by simp) _
  have HT := Lib.hid hT
  have HB := Lib.hid hB
  clear hT hB
  go_enter Tryz.func86, Tryz.ntmps86
  go_wp2_with fail
  go_ret
  exact ⟨⟨_, _, rfl, HT.out, by omega, by omega⟩, HB.out⟩
theorem tabLen (bt bm : Nat) (l : List (Int × Value)) (w : World) (h : TabIs8 w bt bm l) : Calls Tryz.prog 91 #[.pointer (some ⟨bt, 0, none⟩)] w fun e w' => e = .returned (.int .i64 l.length) ∧ w = w' := by
  obtain ⟨h1, h2, _⟩ := h
  have k0 : w.cell? ⟨bt, 0, none⟩ = some (.map (some bm)) := by rw [cellH h1]; rfl
  have r := h2.len Tryz.underlying201 3
  clear h1 h2
  go_enter Tryz.func91, Tryz.ntmps91
  go_wp2_with fail
  go_ret
  exact ⟨rfl, rfl⟩
theorem zSession (w : World) : (zeroValue 47).run Tryz.prog w = .ok (.agg #[.int .i64 0, .int .i32 0, .slice none 0 0]) w := by kernel_rfl
theorem wf7 : wfI 7 := ⟨by decide, by decide⟩
set_option maxRecDepth 100000 in
set_option maxHeartbeats 1000000 in
theorem openOld (bt bm : Nat) (w : World) (h : TabIs8 w bt bm [(7, ex7)]) : Calls Tryz.prog 88 #[.pointer (some ⟨bt, 0, none⟩), ex7] w fun e w' => e = .returned (.int .i64 80) ∧ Below w.heap.size w w' := by
  obtain ⟨h1, h2, h3⟩ := h
  have k0 : w.cell? ⟨bt, 0, none⟩ = some (.map (some bm)) := by rw [cellH h1]; rfl
  have hl : ∀ w' : World, w'.heap[bm]? = w.heap[bm]? → (Instr.lookup 201 (.map (some bm)) (.int .i64 7) true).run Tryz.prog w' = .ok (.tuple #[ex7, .bool true]) w' := by
    rcases h2.lookup Tryz.underlying201 true zSession wf7 with ⟨v, hv, hr⟩ | ⟨hn, _⟩
    · have : v = ex7 := by
        have := List.mem_singleton.1 hv
        exact congrArg Prod.snd this
      rw [this] at hr
      exact hr
    · exact absurd rfl (hn (7, ex7) (by simp))
  have hbt : bt < w.heap.size := (Array.getElem?_eq_some_iff.1 h1).1
  have hbm := h2.lt
  unfold ex7 at *
  have hb0 : Below w.heap.size w (w.alloc (.cells #[.int .i64 7, .int .i32 10, .slice none 0 0] 47)) := (Below.refl _ w).alloc (Nat.le_refl _) _
  have cR := right7 (w.alloc (.cells #[.int .i64 7, .int .i32 10, .slice none 0 0] 47))
  unfold ex7 at cR
  have z0 : (w.alloc (.cells #[.int .i64 7, .int .i32 10, .slice none 0 0] 47)).cell? ⟨w.heap.size, 0, none⟩ = some (.int .i64 7) := by simp
  have z1 : (w.alloc (.cells #[.int .i64 7, .int .i32 10, .slice none 0 0] 47)).cell? ⟨w.heap.size, 1, none⟩ = some (.int .i32 10) := by simp
  have z2 : (w.alloc (.cells #[.int .i64 7, .int .i32 10, .slice none 0 0] 47)).cell? ⟨w.heap.size, 2, none⟩ = some (.slice none 0 0) := by simp
  clear h1 h2
  go_enter Tryz.func88, Tryz.ntmps88
  go_wp2_with fail
  refine cR.mono ?_
  rintro e w1 ⟨rfl, hb1⟩
  have y0 := keep1 z0 hb1
  have y1 := keep1 z1 hb1
  have y2 := keep1 z2 hb1
  have kb := keep1 ((hb0.cell (p := ⟨bt, 0, none⟩) hbt).trans k0) hb1
  have hB := hb0.trans (hb1.mono hb0.size)
  have HB := Lib.hid hB
  have HSO : ∀ w', Below w1.heap.size w1 w' → (Below w1.heap.size w1 w' ∧ w'.cell? ⟨bt, 0, none⟩ = some (.map (some bm)) ∧ w'.cell? ⟨w.heap.size, 0, none⟩ = some (.int .i64 7) ∧ w'.cell? ⟨w.heap.size, 1, none⟩ = some (.int .i32 10) ∧ w'.cell? ⟨w.heap.size, 2, none⟩ = some (.slice none 0 0) ∧
      (Instr.lookup 201 (.map (some bm)) (.int .i64 7) true).run Tryz.prog w' = .ok (.tuple #[.agg #[.int .i64 7, .int .i32 10, .slice none 0 0], .bool true]) w') := fun w' hb =>
    ⟨hb, keep1 kb hb, keep1 y0 hb, keep1 y1 hb, keep1 y2 hb, hl w' ((hb.block bm (Nat.lt_of_lt_of_le hbm hB.size)).trans (hB.block bm hbm))⟩
  clear z0 z1 z2 k0 hb1 hB hb0 hl
  go_wp2_with fail
  go_region_held3 (fun w' => (Below w1.heap.size w1 w' ∧ w'.cell? ⟨bt, 0, none⟩ = some (.map (some bm)) ∧ w'.cell? ⟨w.heap.size, 0, none⟩ = some (.int .i64 7) ∧ w'.cell? ⟨w.heap.size, 1, none⟩ = some (.int .i32 10) ∧ w'.cell? ⟨w.heap.size, 2, none⟩ = some (.slice none 0 0) ∧
      (Instr.lookup 201 (.map (some bm)) (.int .i64 7) true).run Tryz.prog w' = .ok (.tuple #[.agg #[.int .i64 7, .int .i32 10, .slice none 0 0], .bool true]) w'))
    ((first | assumption | exact HSO _ (drew_self _) | exact HSO _ (Below.drew ((Below.refl _ w1).alloc (Nat.le_refl _) _)) | exact HSO _ (Below.alloc (And.left (by assumption)) (And.left (by assumption) : Below w1.heap.size w1 _).size _) | exact HSO _ (Below.setCell (Below.setCell (Below.setCell (And.left (by assumption)) (by omega) _) (by omega) _) (by omega) _)))
    (fail)
  all_goals (
    have HQ := Lib.hid (HB.out.trans ((And.left (by assumption) : Below w1.heap.size w1 _).mono HB.out.size))
    go_wp2_with fail
    go_ret
    exact ⟨rfl, HQ.out⟩)
set_option maxRecDepth 100000 in
set_option maxHeartbeats 2000000 in
theorem openNew (bt bm : Nat) (w : World) (h : TabIs8 w bt bm []) : Calls Tryz.prog 88 #[.pointer (some ⟨bt, 0, none⟩), ex7] w fun e w' => e = .returned (.int .i64 0) ∧ TabIs8 w' bt bm [(7, ex7)] ∧ Fr [bt, bm] w w' := by
  obtain ⟨h1, h2, h3⟩ := h
  have k0 : w.cell? ⟨bt, 0, none⟩ = some (.map (some bm)) := by rw [cellH h1]; rfl
  have hl : ∀ w' : World, w'.heap[bm]? = w.heap[bm]? → (Instr.lookup 201 (.map (some bm)) (.int .i64 7) true).run Tryz.prog w' = .ok (.tuple #[.agg #[.int .i64 0, .int .i32 0, .slice none 0 0], .bool false]) w' := by
    rcases h2.lookup Tryz.underlying201 true zSession wf7 with ⟨v, hv, _⟩ | ⟨_, hr⟩
    · cases hv
    · exact hr
  have hbt : bt < w.heap.size := (Array.getElem?_eq_some_iff.1 h1).1
  have hbm := h2.lt
  have HT := Lib.hid (And.intro h1 (And.intro h2 h3))
  unfold ex7 at *
  have hb0 : Below w.heap.size w (w.alloc (.cells #[.int .i64 7, .int .i32 10, .slice none 0 0] 47)) := (Below.refl _ w).alloc (Nat.le_refl _) _
  have cR := right7 (w.alloc (.cells #[.int .i64 7, .int .i32 10, .slice none 0 0] 47))
  have cO := own7
  unfold ex7 at cR cO
  have z0 : (w.alloc (.cells #[.int .i64 7, .int .i32 10, .slice none 0 0] 47)).cell? ⟨w.heap.size, 0, none⟩ = some (.int .i64 7) := by simp
  have z1 : (w.alloc (.cells #[.int .i64 7, .int .i32 10, .slice none 0 0] 47)).cell? ⟨w.heap.size, 1, none⟩ = some (.int .i32 10) := by simp
  have z2 : (w.alloc (.cells #[.int .i64 7, .int .i32 10, .slice none 0 0] 47)).cell? ⟨w.heap.size, 2, none⟩ = some (.slice none 0 0) := by simp
  clear h1 h2
  go_enter Tryz.func88, Tryz.ntmps88
  go_wp2_with fail
  refine cR.mono ?_
  rintro e w1 ⟨rfl, hb1⟩
  have y0 := keep1 z0 hb1
  have y1 := keep1 z1 hb1
  have y2 := keep1 z2 hb1
  have kb := keep1 ((hb0.cell (p := ⟨bt, 0, none⟩) hbt).trans k0) hb1
  have hB := hb0.trans (hb1.mono hb0.size)
  have HB := Lib.hid hB
  have HSO : ∀ w', Below w1.heap.size w1 w' → (Below w1.heap.size w1 w' ∧ w'.cell? ⟨bt, 0, none⟩ = some (.map (some bm)) ∧ w'.cell? ⟨w.heap.size, 0, none⟩ = some (.int .i64 7) ∧ w'.cell? ⟨w.heap.size, 1, none⟩ = some (.int .i32 10) ∧ w'.cell? ⟨w.heap.size, 2, none⟩ = some (.slice none 0 0) ∧
      (Instr.lookup 201 (.map (some bm)) (.int .i64 7) true).run Tryz.prog w' = .ok (.tuple #[.agg #[.int .i64 0, .int .i32 0, .slice none 0 0], .bool false]) w') := fun w' hb =>
    ⟨hb, keep1 kb hb, keep1 y0 hb, keep1 y1 hb, keep1 y2 hb, hl w' ((hb.block bm (Nat.lt_of_lt_of_le hbm hB.size)).trans (hB.block bm hbm))⟩
  clear z0 z1 z2 k0 hb1 hB hb0 hl
  go_wp2_with fail
  go_region_held3 (fun w' => (Below w1.heap.size w1 w' ∧ w'.cell? ⟨bt, 0, none⟩ = some (.map (some bm)) ∧ w'.cell? ⟨w.heap.size, 0, none⟩ = some (.int .i64 7) ∧ w'.cell? ⟨w.heap.size, 1, none⟩ = some (.int .i32 10) ∧ w'.cell? ⟨w.heap.size, 2, none⟩ = some (.slice none 0 0) ∧
      (Instr.lookup 201 (.map (some bm)) (.int .i64 7) true).run Tryz.prog w' = .ok (.tuple #[.agg #[.int .i64 0, .int .i32 0, .slice none 0 0], .bool false]) w'))
    ((first | assumption | exact HSO _ (drew_self _) | exact HSO _ (Below.drew ((Below.refl _ w1).alloc (Nat.le_refl _) _)) | exact HSO _ (Below.alloc (And.left (by assumption)) (And.left (by assumption) : Below w1.heap.size w1 _).size _)))
    (fail)
  all_goals (
    have hq := (And.left (by assumption) : Below w1.heap.size w1 _)
    obtain ⟨_, x1, x2, x3, x4, _⟩ := HSO _ hq
    have HQ := Lib.hid (HB.out.trans (hq.mono HB.out.size))
    clear HSO hq)
  all_goals (
    go_wp2_with fail
    generalize (w1.alloc (.cells #[.int .i64 0, .int .i32 0, .slice none 0 0] 47)).drew = W2 at *
    go_region_with (first
      | (go_at_call 122; refine (cO _).mono ?_; rintro e w3 ⟨rfl, hb3⟩; have v1 := keep1 (show W2.drew.cell? ⟨bt, 0, none⟩ = _ from x1) hb3; have v2 := keep1 (show W2.drew.cell? ⟨w.heap.size, 0, none⟩ = _ from x2) hb3; have v3 := keep1 (show W2.drew.cell? ⟨w.heap.size, 1, none⟩ = _ from x3) hb3; have v4 := keep1 (show W2.drew.cell? ⟨w.heap.size, 2, none⟩ = _ from x4) hb3; have hB3 := HQ.out.trans ((drew_self W2).trans (hb3.mono (Nat.le_refl _)) |>.mono HQ.out.size); have HB3 := Lib.hid hB3; obtain ⟨w4, l4, r4, m4, g4, z4, e4⟩ := (HT.out.2.1.of_heap (hB3.block bm hbm)).update Tryz.underlying201 wf7 (.agg #[.int .i64 7, .int .i32 10, .slice none 0 0]); have HF := Lib.hid (And.intro m4 (And.intro g4 e4)); clear hB3 m4 g4 e4 hb3))
    all_goals (
      go_wp2_with fail
      go_ret
      refine ⟨rfl, ⟨(HF.out.2.1.block bt (Nat.lt_of_lt_of_le hbt HB3.out.size) (fun e => h3 (by injection e))).trans ((HB3.out.block bt hbt).trans HT.out.1), ?_, h3⟩, (Fr.of_below (own := [bt, bm]) HB3.out).trans (Fr.of_grown (own := [bt, bm]) HF.out.2.1 (by simp)) (fun g hg => .inl hg)⟩
      rcases HF.out.2.2 with ⟨_, e⟩ | ⟨j, old, hj, _⟩
      · rw [← show l4 = [(7, Value.agg #[.int .i64 7, .int .i32 10, .slice none 0 0])] from e]
        exact HF.out.1
      · simp at hj))
end Go.Proofs.YtbpmmmnphpkdjaaGreatDoor
namespace Go.Proofs.YtbpmmmnphpkdjaaGreatDoor
open Go.RowKit Go.MapKept Go.Maps
theorem Fr.tab {w w' : World} {bt bm : Nat} {l : List (Int × Value)} {own : List Nat} (h : TabIs8 w bt bm l) (hf : Fr own w w') (h1 : bt ∉ own) (h2 : bm ∉ own) : TabIs8 w' bt bm l :=
  ⟨(hf.block bt (Array.getElem?_eq_some_iff.1 h.1).1 h1).trans h.1, h.2.1.fr hf h2, h.2.2⟩
theorem TabIs8.lt {w : World} {bt bm : Nat} {l : List (Int × Value)} (h : TabIs8 w bt bm l) : bt < w.heap.size ∧ bm < w.heap.size := ⟨(Array.getElem?_eq_some_iff.1 h.1).1, h.2.1.lt⟩
theorem Clk.fr {w w' : World} {tick : Int} {K : List KV} {bc : Nat} {own own' : List Nat} (h : Clk w tick K bc own) (hf : Fr own' w w') (hd : ∀ g ∈ own, g ∉ own') : Clk w' tick K bc own := h.of_heap fun g hg => hf.block g (h.lt g hg) (hd g hg)
theorem E_nil {E : List Int} {K : List KV} {n : Int} (h : ∀ i, i ∈ E ↔ i ∈ overK K n) (h0 : overK K n = []) : E = [] := by
  rw [List.eq_nil_iff_forall_not_mem]
  intro i hi
  rw [h, h0] at hi
  cases hi
theorem E_one {E : List Int} {K : List KV} {n x : Int} (h : ∀ i, i ∈ E ↔ i ∈ overK K n) (h0 : overK K n = [x]) (hn : E.Nodup) : E = [x] := by
  have hp : E.Perm [x] := (List.perm_ext_iff_of_nodup hn (by simp)).2 fun i => by rw [h, h0]
  exact List.perm_singleton.1 hp
set_option maxRecDepth 100000 in
set_option maxHeartbeats 2000000 in
theorem live8_any (w : World) : Calls Tryz.prog 46 #[] w fun e w' => e = .returned (.bool true) ∧ Below w.heap.size w w' := by
  go_enter Tryz.func46, Tryz.ntmps46
  go_wp2_with fail
  refine (newTab _).mono ?_
  rintro e w1 ⟨⟨bt, bm, rfl, hT, ht1, ht2⟩, hb1⟩
  have HT := Lib.hid hT; have HB1 := Lib.hid hb1; clear hT hb1
  go_wp2_with fail
  refine (newClock_any _ _).mono ?_
  rintro e w2 ⟨hC, hb2⟩
  rw [if_pos (by decide)] at hC
  obtain ⟨bc, own, rfl, hC, hown⟩ := hC
  have hlt := HT.out.lt
  have HT2 := Lib.hid (Fr.tab HT.out (Fr.of_below (own := []) hb2) (by simp) (by simp))
  have HC := Lib.hid hC
  have HO := Lib.hid (show ∀ g ∈ own, w.heap.size ≤ g ∧ g ∉ [bt, bm] from fun g hg => ⟨Nat.le_trans HB1.out.size (hown g hg), fun hm => by have := hown g hg; simp at hm; omega⟩)
  have HB2 := Lib.hid (HB1.out.trans (hb2.mono HB1.out.size))
  clear hC hown hb2 HT HB1 hlt
  go_wp2_with fail
  go_at_call 54
  refine (no8_any _ _).mono ?_
  rintro e w' ⟨rfl, rfl⟩
  go_wp2_with fail
  go_at_call 88
  refine (openNew bt bm _ HT2.out).mono ?_
  rintro e w3 ⟨rfl, hT3, hf3⟩
  have HT3 := Lib.hid hT3
  have HC3 := Lib.hid (HC.out.fr hf3 fun g hg => (HO.out g hg).2)
  have HB3 := Lib.hid (HB2.out.trans (hf3.below HB2.out.size (by simp; omega)))
  clear hT3 hf3 HC HT2 HB2
  go_wp2_with fail
  go_at_call 88
  refine (openOld bt bm _ HT3.out).mono ?_
  rintro e w4 ⟨rfl, hb4⟩
  have HT4 := Lib.hid (Fr.tab HT3.out (Fr.of_below (own := []) hb4) (by simp) (by simp))
  have HC4 := Lib.hid (HC3.out.below hb4)
  have HB4 := Lib.hid (HB3.out.trans (hb4.mono HB3.out.size))
  clear hb4 HT3 HC3 HB3
  go_wp2_with fail
  go_at_call 89
  refine (touch_any 10 [] bc own 7 10 5 _ HC4.out ⟨by decide, by decide, by decide, by decide⟩ (by decide) (by decide) (by decide) (by decide)).mono ?_
  rintro e w5 ⟨rfl, ⟨own5, hC5, hs5⟩, hf5⟩
  have hK : putK [] 7 (stepK 10 10 5) = [(7, 20)] := by decide
  rw [hK] at hC5
  have hlt4 := HT4.out.lt
  have HT5 := Lib.hid (Fr.tab HT4.out hf5 (fun hm => (HO.out _ hm).2 (by simp)) (fun hm => (HO.out _ hm).2 (by simp)))
  have HC5 := Lib.hid hC5
  have HO5 := Lib.hid (show ∀ g ∈ own5, w.heap.size ≤ g ∧ g ∉ [bt, bm] from fun g hg => (hs5 g hg).elim (fun h => HO.out g h) fun h => ⟨Nat.le_trans HB4.out.size h, fun hm => by simp at hm; omega⟩)
  have HB5 := Lib.hid (HB4.out.trans (hf5.below HB4.out.size (fun g hg => (HO.out g hg).1)))
  clear hC5 hs5 hf5 hK HT4 HC4 HO HB4 hlt4
  go_wp2_with fail
  go_at_call 90
  refine (deadline_any 10 [(7, 20)] bc own5 7 ⟨by decide, by decide⟩ _ HC5.out).mono ?_
  rintro e w' ⟨rfl, rfl⟩
  rw [show getK [(7, 20)] 7 = some 20 from rfl]
  simp only [Option.getD_some, Option.isSome_some]
  go_wp2_with fail
  go_at_call 54
  refine (no8_any _ _).mono ?_
  rintro e w' ⟨rfl, rfl⟩
  go_wp2_with fail
  go_at_call 54
  refine (no8_any _ _).mono ?_
  rintro e w' ⟨rfl, rfl⟩
  go_wp2_with fail
  go_at_call 91
  refine (tabLen bt bm _ _ HT5.out).mono ?_
  rintro e w' ⟨rfl, rfl⟩
  rw [show (([(7, ex7)] : List (Int × Value)).length : Int) = 1 from rfl]
  go_wp2_with fail
  go_at_call 92
  refine (expired_any 10 [(7, 20)] bc own5 19 _ HC5.out (by decide)).mono ?_
  rintro e w6 ⟨⟨E, v, rfl, hr, hE, _⟩, ⟨own6, hC6, hs6⟩, hf6⟩
  have := E_nil hE (by decide)
  subst this
  obtain ⟨A, c, rfl⟩ := own_formI hr
  rw [show lateK [(7, 20)] 19 = [(7, 20)] from by decide] at hC6
  have HC6 := Lib.hid hC6
  have HO6 := Lib.hid (show ∀ g ∈ own6, w.heap.size ≤ g from fun g hg => (hs6 g hg).elim (fun h => (HO5.out g h).1) fun h => Nat.le_trans HB5.out.size h)
  have HB6 := Lib.hid (HB5.out.trans (hf6.below HB5.out.size (fun g hg => (HO5.out g hg).1)))
  clear hr hE hC6 hs6 hf6 HT5 HC5 HO5 HB5
  rw [show (([] : List Int).length) = 0 from rfl]
  go_wp2_with fail
  go_at_call 92
  refine (expired_any 10 [(7, 20)] bc own6 20 _ HC6.out (by decide)).mono ?_
  rintro e w7 ⟨⟨E, v, rfl, hr, hE, hN⟩, _, hf7⟩
  have := E_one hE (show overK [(7, 20)] 20 = [7] by decide) hN
  subst this
  obtain ⟨A, c, rfl⟩ := own_formI hr
  have hs7 := SlI.of_row hr
  have HB7 := Lib.hid (HB6.out.trans (hf7.below HB6.out.size HO6.out))
  have HS := Lib.hid hs7
  clear hs7 hr hE hN hf7 HB6 HO6 HC6
  rw [show (([7] : List Int).length) = 1 from rfl]
  go_wp2_with fail
  have hb8 : Below w.heap.size w (w7.alloc (.cells #[.int .i64 7] 2)) := HB7.out.alloc HB7.out.size _
  have hs8 : SlI (w7.alloc (.cells #[.int .i64 7] 2)) A 1 [7] := HS.out.below ((Below.refl _ w7).alloc (Nat.le_refl _) _)
  have hy8 : SlI (w7.alloc (.cells #[.int .i64 7] 2)) (some ⟨w7.heap.size, 0, none⟩) 1 [7] := ⟨rfl, fun j hj => ⟨w7.heap.size, 0, rfl, by
    have : j = 0 := by omega
    subst this
    simp⟩⟩
  have HB8 := Lib.hid hb8; have HS8 := Lib.hid hs8; have HY8 := Lib.hid hy8
  clear hb8 hs8 hy8 HB7 HS
  go_at_call 93
  refine (sameLongs_any _ _ _ _ _ _ _ _ _ HS8.out HY8.out (by decide)).mono ?_
  rintro e w9 ⟨rfl, q, rfl⟩
  rw [show decide (([7] : List Int) = [7]) = true from rfl]
  have HB9 := Lib.hid (HB8.out.trans ((Fr.drewN [] _ q).below HB8.out.size (by simp)))
  go_wp2_with fail
  go_ret
  exact ⟨rfl, HB9.out⟩
end Go.Proofs.YtbpmmmnphpkdjaaGreatDoor
