/- The walks of a table's Len, Open, Close, Get, for any table. Conditions: int64 keys; texts shorter than 2^20. -/
import Derived.Test.YtfnigjeklcagnaaGreatDoorTab
import Derived.Deep.RegionHeld3
import Derived.StillTailTactics
namespace Go.Proofs.YtfnigjeklcagnaaGreatDoor
open Go.RowKit Go.MapKept Go.Maps
theorem newTab_any (w : World) : Calls Tryz.prog 25 #[] w fun e w' => (∃ bt own, e = .returned (.pointer (some ⟨bt, 0, none⟩)) ∧ Tab w' bt [] own ∧ ∀ g ∈ own, w.heap.size ≤ g) ∧ Below w.heap.size w w' := by
  refine (newTab w).mono ?_
  rintro e w' ⟨⟨bt, bm, rfl, ⟨h1, h2, h3⟩, h4, h5⟩, hb⟩
  refine ⟨⟨bt, [bt, bm], rfl, ⟨bm, [], ⟨h1, h2, by simp, by simp, h3, fun g hg => ?_, (fun e he => by cases he), fun g hg => ?_⟩, rfl⟩, fun g hg => ?_⟩, hb⟩
  · rcases List.mem_cons.1 hg with rfl | hg
    · exact (Array.getElem?_eq_some_iff.1 h1).1
    · rw [List.mem_singleton.1 hg]; exact h2.lt
  · rcases List.mem_cons.1 hg with rfl | hg
    · intro cs f e9
      rw [h1] at e9
      injection e9 with e9
      injection e9 with _ e9 _
      exact absurd e9 (by decide)
    · rw [List.mem_singleton.1 hg]; exact mapI_noSes h2
  · rcases List.mem_cons.1 hg with rfl | hg
    · exact h4
    · rw [List.mem_singleton.1 hg]; exact h5
theorem tabLen_any (bt : Nat) (T : List SesP) (own : List Nat) (w : World) (h : Tab w bt T own) : Calls Tryz.prog 31 #[.pointer (some ⟨bt, 0, none⟩)] w fun e w' => e = .returned (.int .i64 T.length) ∧ w' = w := by
  obtain ⟨bm, E, h, rfl⟩ := h
  refine (tabLen bt bm _ w ⟨h.cell, h.map, h.ne⟩).mono ?_
  rintro e w' ⟨rfl, rfl⟩
  exact ⟨by simp, rfl⟩
theorem TabAt.look {w : World} {bt bm : Nat} {E : List EntV} {own : List Nat} (h : TabAt w bt bm E own) {i : Int} (hi : wfI i) :
    (∃ e ∈ E, e.1.1 = i ∧ ∀ w' : World, w'.heap[bm]? = w.heap[bm]? → (Instr.lookup 94 (.map (some bm)) (.int .i64 i) true).run Tryz.prog w' = .ok (.tuple #[entV e, .bool true]) w') ∨
    ((∀ e ∈ E, e.1.1 ≠ i) ∧ ∀ w' : World, w'.heap[bm]? = w.heap[bm]? → (Instr.lookup 94 (.map (some bm)) (.int .i64 i) true).run Tryz.prog w' = .ok (.tuple #[.agg #[.int .i64 0, .int .i32 0, .slice none 0 0], .bool false]) w') := by
  rcases h.map.lookup Tryz.underlying94 true zSession hi with ⟨v, hv, hr⟩ | ⟨hn, hr⟩
  · obtain ⟨e, he, ee⟩ := List.mem_map.1 hv
    have e1 : e.1.1 = i := congrArg Prod.fst ee
    have e2 : entV e = v := congrArg Prod.snd ee
    subst e2
    exact .inl ⟨e, he, e1, hr⟩
  · exact .inr ⟨fun e he ee => hn _ (List.mem_map.2 ⟨e, he, rfl⟩) ee, hr⟩
open Classical in
noncomputable def openC (T : List SesP) (s : SesP) : Int := if rightS s then if s.1 ∈ T.map (·.1) then 80 else 0 else 1
open Classical in
noncomputable def openT (T : List SesP) (s : SesP) : List SesP := if rightS s then if s.1 ∈ T.map (·.1) then T else T ++ [s] else T
def TabPost (v : Value) (T : List SesP) (bt : Nat) (own : List Nat) (w : World) (e : Ending) (w' : World) : Prop := e = .returned v ∧ (∃ own', Tab w' bt T own' ∧ ∀ g ∈ own', g ∈ own ∨ w.heap.size ≤ g) ∧ Fr own w w'
open Classical in
set_option maxRecDepth 100000 in
theorem open_bad (bt bm : Nat) (E : List EntV) (own : List Nat) (i tm : Int) (A : Option Addr) (n c : Nat) (l : List IdV) (w : World) (hE : Env w) (h : TabAt w bt bm E own) (hs : SesOk w (i, tm, A, n, c) l 1048576) (hr : ¬ rightS (i, tm, l)) : Calls Tryz.prog 26 #[.pointer (some ⟨bt, 0, none⟩), .agg #[.int .i64 i, .int .i32 tm, .slice A n c]] w fun e w' => e = .returned (.int .i64 1) ∧ Below w.heap.size w w' := by
  have hbt : bt < w.heap.size := h.lt bt h.bt_
  have hbm : bm < w.heap.size := h.lt bm h.bm_
  have k0 : w.cell? ⟨bt, 0, none⟩ = some (.map (some bm)) := by rw [cellH h.cell]; rfl
  have hb0 : Below w.heap.size w (w.alloc (.cells #[.int .i64 i, .int .i32 tm, .slice A n c] 56)) := (Below.refl _ w).alloc (Nat.le_refl _) _
  have z0 : (w.alloc (.cells #[.int .i64 i, .int .i32 tm, .slice A n c] 56)).cell? ⟨w.heap.size, 0, none⟩ = some (.int .i64 i) := by simp
  have z1 : (w.alloc (.cells #[.int .i64 i, .int .i32 tm, .slice A n c] 56)).cell? ⟨w.heap.size, 1, none⟩ = some (.int .i32 tm) := by simp
  have z2 : (w.alloc (.cells #[.int .i64 i, .int .i32 tm, .slice A n c] 56)).cell? ⟨w.heap.size, 2, none⟩ = some (.slice A n c) := by simp
  have cR := right_any i tm A n c l (w.alloc (.cells #[.int .i64 i, .int .i32 tm, .slice A n c] 56)) (hE.later hb0) ⟨hs.1, hs.2.1, hs.2.2.1.belowMore hb0 hb0.size, hs.2.2.2.1, hs.2.2.2.2⟩
  rw [decide_eq_false hr] at cR
  have HB0 := Lib.hid hb0
  clear h hs hE hb0
  go_enter Tryz.func26, Tryz.ntmps26
  go_wp2_with fail
  refine cR.mono ?_
  rintro e w1 ⟨rfl, hb1⟩
  have HB := Lib.hid (HB0.out.trans (hb1.mono HB0.out.size))
  clear hb1
  go_wp2_with fail
  go_ret
  exact ⟨rfl, HB.out⟩
open Classical in
set_option maxRecDepth 100000 in
set_option maxHeartbeats 1000000 in
theorem open_old (bt bm : Nat) (E : List EntV) (own : List Nat) (i tm : Int) (A : Option Addr) (n c : Nat) (l : List IdV) (w : World) (hE : Env w) (h : TabAt w bt bm E own) (hs : SesOk w (i, tm, A, n, c) l 1048576) (hr : rightS (i, tm, l)) (e : EntV) (hl : ∀ w' : World, w'.heap[bm]? = w.heap[bm]? → (Instr.lookup 94 (.map (some bm)) (.int .i64 i) true).run Tryz.prog w' = .ok (.tuple #[entV e, .bool true]) w') : Calls Tryz.prog 26 #[.pointer (some ⟨bt, 0, none⟩), .agg #[.int .i64 i, .int .i32 tm, .slice A n c]] w fun e w' => e = .returned (.int .i64 80) ∧ Below w.heap.size w w' := by
  have hbt : bt < w.heap.size := h.lt bt h.bt_
  have hbm : bm < w.heap.size := h.lt bm h.bm_
  have k0 : w.cell? ⟨bt, 0, none⟩ = some (.map (some bm)) := by rw [cellH h.cell]; rfl
  have hb0 : Below w.heap.size w (w.alloc (.cells #[.int .i64 i, .int .i32 tm, .slice A n c] 56)) := (Below.refl _ w).alloc (Nat.le_refl _) _
  have z0 : (w.alloc (.cells #[.int .i64 i, .int .i32 tm, .slice A n c] 56)).cell? ⟨w.heap.size, 0, none⟩ = some (.int .i64 i) := by simp
  have z1 : (w.alloc (.cells #[.int .i64 i, .int .i32 tm, .slice A n c] 56)).cell? ⟨w.heap.size, 1, none⟩ = some (.int .i32 tm) := by simp
  have z2 : (w.alloc (.cells #[.int .i64 i, .int .i32 tm, .slice A n c] 56)).cell? ⟨w.heap.size, 2, none⟩ = some (.slice A n c) := by simp
  have cR := right_any i tm A n c l (w.alloc (.cells #[.int .i64 i, .int .i32 tm, .slice A n c] 56)) (hE.later hb0) ⟨hs.1, hs.2.1, hs.2.2.1.belowMore hb0 hb0.size, hs.2.2.2.1, hs.2.2.2.2⟩
  rw [decide_eq_true hr] at cR
  obtain ⟨⟨i9, t9, A9, n9, c9⟩, l9⟩ := e
  unfold entV at hl
  simp only at hl
  clear h hs hE
  go_enter Tryz.func26, Tryz.ntmps26
  go_wp2_with fail
  refine cR.mono ?_
  rintro e w1 ⟨rfl, hb1⟩
  have y0 := keep1 z0 hb1
  have y1 := keep1 z1 hb1
  have y2 := keep1 z2 hb1
  have kb := keep1 ((hb0.cell (p := ⟨bt, 0, none⟩) hbt).trans k0) hb1
  have hB := hb0.trans (hb1.mono hb0.size)
  have HB := Lib.hid hB
  have HSO : ∀ w', Below w1.heap.size w1 w' → (Below w1.heap.size w1 w' ∧ w'.cell? ⟨bt, 0, none⟩ = some (.map (some bm)) ∧ w'.cell? ⟨w.heap.size, 0, none⟩ = some (.int .i64 i) ∧ w'.cell? ⟨w.heap.size, 1, none⟩ = some (.int .i32 tm) ∧ w'.cell? ⟨w.heap.size, 2, none⟩ = some (.slice A n c) ∧ (Instr.lookup 94 (.map (some bm)) (.int .i64 i) true).run Tryz.prog w' = .ok (.tuple #[.agg #[.int .i64 i9, .int .i32 t9, .slice A9 n9 c9], .bool true]) w') := fun w' hb =>
    ⟨hb, keep1 kb hb, keep1 y0 hb, keep1 y1 hb, keep1 y2 hb, hl w' ((hb.block bm (Nat.lt_of_lt_of_le hbm hB.size)).trans (hB.block bm hbm))⟩
  clear z0 z1 z2 k0 hb1 hB hb0 hl
  go_wp2_with fail
  go_region_held3 (fun w' => (Below w1.heap.size w1 w' ∧ w'.cell? ⟨bt, 0, none⟩ = some (.map (some bm)) ∧ w'.cell? ⟨w.heap.size, 0, none⟩ = some (.int .i64 i) ∧ w'.cell? ⟨w.heap.size, 1, none⟩ = some (.int .i32 tm) ∧ w'.cell? ⟨w.heap.size, 2, none⟩ = some (.slice A n c) ∧ (Instr.lookup 94 (.map (some bm)) (.int .i64 i) true).run Tryz.prog w' = .ok (.tuple #[.agg #[.int .i64 i9, .int .i32 t9, .slice A9 n9 c9], .bool true]) w'))
    ((first | assumption | exact HSO _ (drew_self _) | exact HSO _ (Below.drew ((Below.refl _ w1).alloc (Nat.le_refl _) _)) | exact HSO _ (Below.alloc (And.left (by assumption)) (And.left (by assumption) : Below w1.heap.size w1 _).size _) | exact HSO _ (Below.setCell (Below.setCell (Below.setCell (And.left (by assumption)) (by omega) _) (by omega) _) (by omega) _)))
    (fail)
  all_goals (
    have HQ := Lib.hid (HB.out.trans ((And.left (by assumption) : Below w1.heap.size w1 _).mono HB.out.size))
    go_wp2_with fail
    go_ret
    exact ⟨rfl, HQ.out⟩)
open Classical in
set_option maxRecDepth 100000 in
set_option maxHeartbeats 2000000 in
theorem open_new (bt bm : Nat) (E : List EntV) (own : List Nat) (i tm : Int) (A : Option Addr) (n c : Nat) (l : List IdV) (w : World) (hE : Env w) (h : TabAt w bt bm E own) (hs : SesOk w (i, tm, A, n, c) l 1048576) (hr : rightS (i, tm, l)) (hnew : ∀ e ∈ E, e.1.1 ≠ i) (hl : ∀ w' : World, w'.heap[bm]? = w.heap[bm]? → (Instr.lookup 94 (.map (some bm)) (.int .i64 i) true).run Tryz.prog w' = .ok (.tuple #[.agg #[.int .i64 0, .int .i32 0, .slice none 0 0], .bool false]) w') : Calls Tryz.prog 26 #[.pointer (some ⟨bt, 0, none⟩), .agg #[.int .i64 i, .int .i32 tm, .slice A n c]] w fun e w' => e = .returned (.int .i64 0) ∧ (∃ own', Tab w' bt (E.map toP ++ [(i, tm, l)]) own' ∧ ∀ g ∈ own', g ∈ own ∨ w.heap.size ≤ g) ∧ Fr own w w' := by
  have hbt : bt < w.heap.size := h.lt bt h.bt_
  have hbm : bm < w.heap.size := h.lt bm h.bm_
  have k0 : w.cell? ⟨bt, 0, none⟩ = some (.map (some bm)) := by rw [cellH h.cell]; rfl
  have hb0 : Below w.heap.size w (w.alloc (.cells #[.int .i64 i, .int .i32 tm, .slice A n c] 56)) := (Below.refl _ w).alloc (Nat.le_refl _) _
  have z0 : (w.alloc (.cells #[.int .i64 i, .int .i32 tm, .slice A n c] 56)).cell? ⟨w.heap.size, 0, none⟩ = some (.int .i64 i) := by simp
  have z1 : (w.alloc (.cells #[.int .i64 i, .int .i32 tm, .slice A n c] 56)).cell? ⟨w.heap.size, 1, none⟩ = some (.int .i32 tm) := by simp
  have z2 : (w.alloc (.cells #[.int .i64 i, .int .i32 tm, .slice A n c] 56)).cell? ⟨w.heap.size, 2, none⟩ = some (.slice A n c) := by simp
  have cR := right_any i tm A n c l (w.alloc (.cells #[.int .i64 i, .int .i32 tm, .slice A n c] 56)) (hE.later hb0) ⟨hs.1, hs.2.1, hs.2.2.1.belowMore hb0 hb0.size, hs.2.2.2.1, hs.2.2.2.2⟩
  rw [decide_eq_true hr] at cR
  have HT := Lib.hid h; have HS := Lib.hid hs; have HNEW := Lib.hid hnew; have HRT := Lib.hid hr
  have hln : l.length = n := hs.2.2.1.len
  have HLN := Lib.hid hln
  clear h hs hE hnew hr hln
  go_enter Tryz.func26, Tryz.ntmps26
  go_wp2_with fail
  refine cR.mono ?_
  rintro e w1 ⟨rfl, hb1⟩
  have y0 := keep1 z0 hb1
  have y1 := keep1 z1 hb1
  have y2 := keep1 z2 hb1
  have kb := keep1 ((hb0.cell (p := ⟨bt, 0, none⟩) hbt).trans k0) hb1
  have hB := hb0.trans (hb1.mono hb0.size)
  have HB := Lib.hid hB
  have HSO : ∀ w', Below w1.heap.size w1 w' → (Below w1.heap.size w1 w' ∧ w'.cell? ⟨bt, 0, none⟩ = some (.map (some bm)) ∧ w'.cell? ⟨w.heap.size, 0, none⟩ = some (.int .i64 i) ∧ w'.cell? ⟨w.heap.size, 1, none⟩ = some (.int .i32 tm) ∧ w'.cell? ⟨w.heap.size, 2, none⟩ = some (.slice A n c) ∧ (Instr.lookup 94 (.map (some bm)) (.int .i64 i) true).run Tryz.prog w' = .ok (.tuple #[.agg #[.int .i64 0, .int .i32 0, .slice none 0 0], .bool false]) w') := fun w' hb =>
    ⟨hb, keep1 kb hb, keep1 y0 hb, keep1 y1 hb, keep1 y2 hb, hl w' ((hb.block bm (Nat.lt_of_lt_of_le hbm hB.size)).trans (hB.block bm hbm))⟩
  clear z0 z1 z2 k0 hb1 hB hb0 hl
  go_wp2_with fail
  go_region_held3 (fun w' => (Below w1.heap.size w1 w' ∧ w'.cell? ⟨bt, 0, none⟩ = some (.map (some bm)) ∧ w'.cell? ⟨w.heap.size, 0, none⟩ = some (.int .i64 i) ∧ w'.cell? ⟨w.heap.size, 1, none⟩ = some (.int .i32 tm) ∧ w'.cell? ⟨w.heap.size, 2, none⟩ = some (.slice A n c) ∧ (Instr.lookup 94 (.map (some bm)) (.int .i64 i) true).run Tryz.prog w' = .ok (.tuple #[.agg #[.int .i64 0, .int .i32 0, .slice none 0 0], .bool false]) w'))
    ((first | assumption | exact HSO _ (drew_self _) | exact HSO _ (Below.drew ((Below.refl _ w1).alloc (Nat.le_refl _) _)) | exact HSO _ (Below.alloc (And.left (by assumption)) (And.left (by assumption) : Below w1.heap.size w1 _).size _)))
    (fail)
  all_goals (
    have hq := (And.left (by assumption) : Below w1.heap.size w1 _)
    obtain ⟨_, x1, x2, x3, x4, _⟩ := HSO _ hq
    have HQ := Lib.hid (HB.out.trans (hq.mono HB.out.size))
    clear HSO hq)
  all_goals (
    go_wp2_with fail
    generalize (w1.alloc (.cells #[.int .i64 0, .int .i32 0, .slice none 0 0] 56)).drew = W2 at *
    go_region_with (first
      | (go_at_call 48; refine (sesOwn_any i tm A n c l _ (HS.out.2.2.1.belowMore HQ.out.drew HQ.out.drew.size) HS.out.2.2.2.1.1 HS.out.2.2.2.2.1).mono ?_; rintro e w3 ⟨⟨A3, c3, rfl, hr3⟩, hb3⟩; have v1 := keep1 (show W2.drew.cell? ⟨bt, 0, none⟩ = _ from x1) hb3; have v2 := keep1 (show W2.drew.cell? ⟨w.heap.size, 0, none⟩ = _ from x2) hb3; have v3 := keep1 (show W2.drew.cell? ⟨w.heap.size, 1, none⟩ = _ from x3) hb3; have v4 := keep1 (show W2.drew.cell? ⟨w.heap.size, 2, none⟩ = _ from x4) hb3; have hB3 := HQ.out.trans ((drew_self W2).trans (hb3.mono (Nat.le_refl _)) |>.mono HQ.out.size); have HB3 := Lib.hid hB3; have HR3 := Lib.hid (hr3.base (b' := w.heap.size) HQ.out.size); obtain ⟨w4, l4, r4, m4, g4, z4, e4⟩ := (HT.out.map.of_heap (hB3.block bm hbm)).update Tryz.underlying94 HS.out.1 (.agg #[.int .i64 i, .int .i32 tm, .slice A3 n c3]); have HF := Lib.hid (HT.out.ins (z := (i, tm, A3, n, c3)) (l := l) HB3.out HS.out.1 HS.out.2.1 HNEW.out (A := A3) (c := c3) (by rw [HLN.out]; exact HR3.out) HRT.out.2.2.2.1 (by rw [HLN.out]; exact HS.out.2.2.2.2.2) (by rw [HLN.out]; exact r4)); clear hB3 m4 g4 e4 hb3 hr3))
    all_goals (
      go_wp2_with fail
      go_ret
      obtain ⟨own2, t1, t2, t3⟩ := HF.out
      exact ⟨rfl, ⟨own2, ⟨bm, _, t1, by rw [List.map_append]; rfl⟩, t2⟩, t3⟩))
theorem open_any (bt : Nat) (T : List SesP) (own : List Nat) (i tm : Int) (A : Option Addr) (n c : Nat) (l : List IdV) (w : World) (hE : Env w) (h : Tab w bt T own) (hs : SesOk w (i, tm, A, n, c) l 1048576) : Calls Tryz.prog 26 #[.pointer (some ⟨bt, 0, none⟩), .agg #[.int .i64 i, .int .i32 tm, .slice A n c]] w (TabPost (.int .i64 (openC T (i, tm, l))) (openT T (i, tm, l)) bt own w) := by
  obtain ⟨bm, E, h, rfl⟩ := h
  unfold openC openT
  by_cases hr : rightS (i, tm, l)
  · rw [if_pos hr, if_pos hr]
    have hmem : ∀ x : Int, x ∈ (E.map toP).map (·.1) ↔ ∃ e ∈ E, e.1.1 = x := fun x => by
      rw [List.map_map, List.mem_map]; rfl
    rcases h.look hs.1 with ⟨e, he, e1, hl⟩ | ⟨hn, hl⟩
    · rw [if_pos ((hmem _).2 ⟨e, he, e1⟩), if_pos ((hmem _).2 ⟨e, he, e1⟩)]
      refine (open_old bt bm E own i tm A n c l w hE h hs hr e hl).mono ?_
      rintro e w' ⟨rfl, hb⟩
      exact ⟨rfl, ⟨own, ⟨bm, E, h.below hb, rfl⟩, fun g hg => .inl hg⟩, Fr.of_below hb⟩
    · have hno : ¬ (i, tm, l).1 ∈ (E.map toP).map (·.1) := fun hm => by
        obtain ⟨e, he, e1⟩ := (hmem _).1 hm
        exact hn e he e1
      rw [if_neg hno, if_neg hno]
      exact open_new bt bm E own i tm A n c l w hE h hs hr hn hl
  · rw [if_neg hr, if_neg hr]
    refine (open_bad bt bm E own i tm A n c l w hE h hs hr).mono ?_
    rintro e w' ⟨rfl, hb⟩
    exact ⟨rfl, ⟨own, ⟨bm, E, h.below hb, rfl⟩, fun g hg => .inl hg⟩, Fr.of_below hb⟩
end Go.Proofs.YtfnigjeklcagnaaGreatDoor
