/- The walks of a table's Close and Get, for any table. Condition: int64 keys. -/
import Derived.Test.YtfnigjeklcagnaaGreatDoorTab
import Derived.Deep.RegionWith
import Derived.Deep.RegionHeld3
import Derived.StillTailTactics
import Derived.Test.YtfnigjeklcagnaaGreatDoorTabO
import Derived.Test.YtfnigjeklcagnaaGreatDoorNils
namespace Go.Proofs.YtfnigjeklcagnaaGreatDoor
open Go.RowKit Go.MapKept Go.Maps
open Classical in
noncomputable def closeC (T : List SesP) (i : Int) : Int := if i ∈ T.map (·.1) then 0 else 80
def closeT (T : List SesP) (i : Int) : List SesP := T.filter fun s => decide (s.1 ≠ i)
theorem tab_keys (E : List EntV) (x : Int) : x ∈ (E.map toP).map (·.1) ↔ ∃ e ∈ E, e.1.1 = x := by
  rw [List.map_map, List.mem_map]; rfl
theorem TabAt.del {w w2 : World} {bt bm : Nat} {E : List EntV} {own : List Nat} {i : Int} (h : TabAt w bt bm E own) (hi : wfI i) {ty : TypeId} {r : Value} (hu : (Builtin.delete_ #[94, 2] ty #[.map (some bm), .int .i64 i]).run Tryz.prog w = .ok r w2) :
    TabAt w2 bt bm (E.filter fun e => decide (e.1.1 ≠ i)) own ∧ Fr own w w2 := by
  obtain ⟨w4, l4, r4, m4, g4, z4, e4⟩ := h.map.delete (ty := ty) Tryz.underlying94 hi
  rw [hu] at r4
  have hw : w2 = w4 := by
    simp only [Result.ok.injEq] at r4
    exact r4.2
  subst hw
  have hF : Fr [bm] w w2 := Fr.of_grown g4 (by simp)
  have hl4 : l4 = (E.filter fun e => decide (e.1.1 ≠ i)).map fun e => (e.1.1, entV e) := by
    rw [e4, List.filter_map]; rfl
  rw [hl4] at m4
  refine ⟨⟨?_, m4, h.bt_, h.bm_, h.ne, fun g hg => Nat.lt_of_lt_of_le (h.lt g hg) hF.size, fun e he => ?_, fun g hg => ?_⟩, (Fr.refl own w).trans hF (fun g hg => .inl (by rw [List.mem_singleton.1 hg]; exact h.bm_))⟩
  · exact (hF.block bt (h.lt bt h.bt_) (by simpa using h.ne)).trans h.cell
  · exact (h.ent e (List.mem_filter.1 he).1).keep (fun _ hg => hg) fun p hp _ hne => hF.cell (h.lt _ hp) (by simpa using hne)
  · by_cases hgm : g = bm
    · subst hgm
      exact mapI_noSes m4
    · intro cs f
      rw [hF.block g (h.lt g hg) (by simpa using hgm)]
      exact h.kind g hg cs f
set_option maxRecDepth 100000 in
set_option maxHeartbeats 1000000 in
theorem close_any (bt : Nat) (T : List SesP) (own : List Nat) (i : Int) (hi : wfI i) (w : World) (h : Tab w bt T own) : Calls Tryz.prog 32 #[.pointer (some ⟨bt, 0, none⟩), .int .i64 i] w (TabPost (.int .i64 (closeC T i)) (closeT T i) bt own w) := by
  obtain ⟨bm, E, h, rfl⟩ := h
  have hbt : bt < w.heap.size := h.lt bt h.bt_
  have hbm : bm < w.heap.size := h.lt bm h.bm_
  have k0 : w.cell? ⟨bt, 0, none⟩ = some (.map (some bm)) := by rw [cellH h.cell]; rfl
  unfold closeC closeT
  have HT := Lib.hid h
  rcases h.look hi with ⟨⟨⟨i9, t9, A9, n9, c9⟩, l9⟩, he, e1, hl⟩ | ⟨hn, hl⟩
  · rw [if_pos ((tab_keys E i).2 ⟨_, he, e1⟩)]
    unfold entV at hl
    simp only at hl
    have hb1 : Below w.heap.size w (w.alloc (.cells #[.int .i64 i9, .int .i32 t9, .slice A9 n9 c9] 56)) := (Below.refl _ w).alloc (Nat.le_refl _) _
    have h1 := h.below hb1
    obtain ⟨w4, l4, r4, _⟩ := h1.map.delete (ty := 0) Tryz.underlying94 hi
    obtain ⟨hd1, hd2⟩ := h1.del hi r4
    have HD := Lib.hid hd1; have HF := Lib.hid ((Fr.of_below (own := own) hb1).trans hd2 (fun g hg => .inl hg))
    clear h he e1 hb1 h1 hd1 hd2
    go_enter Tryz.func32, Tryz.ntmps32
    go_wp2_with fail
    go_ret
    exact ⟨rfl, ⟨own, ⟨bm, _, HD.out, by rw [List.filter_map]; rfl⟩, fun g hg => .inl hg⟩, HF.out⟩
  · rw [if_neg (fun hm => by
      obtain ⟨e, he, e1⟩ := (tab_keys E i).1 hm
      exact hn e he e1)]
    have HE := Lib.hid (show (E.map toP).filter (fun s => decide (s.1 ≠ i)) = E.map toP by
      rw [List.filter_eq_self]
      intro x hx
      obtain ⟨e, he, rfl⟩ := List.mem_map.1 hx
      exact decide_eq_true (show e.1.1 ≠ i from hn e he))
    have HB := Lib.hid (fun o => (Below.refl w.heap.size w).alloc (Nat.le_refl _) o)
    clear h hn
    go_enter Tryz.func32, Tryz.ntmps32
    go_wp2_with fail
    go_ret
    exact ⟨rfl, ⟨own, ⟨bm, E, HT.out.below (HB.out _), HE.out.symm⟩, fun g hg => .inl hg⟩, Fr.of_below (HB.out _)⟩
def GetPost (T : List SesP) (i : Int) (w : World) (e : Ending) (w' : World) : Prop := ∃ (p : SesP) (b : Bool) (A : Option Addr) (c : Nat), e = .returned (.tuple #[.agg #[.int .i64 p.1, .int .i32 p.2.1, .slice A p.2.2.length c], .bool b]) ∧ RowId w' w.heap.size A p.2.2.length c p.2.2 ∧ ((b = true ∧ p ∈ T ∧ p.1 = i) ∨ (b = false ∧ i ∉ T.map (·.1) ∧ p = (0, 0, []))) ∧ Below w.heap.size w w'
def GetGo (i9 t9 : Int) (n9 : Nat) (l9 : List IdV) (b : Bool) (w : World) (e : Ending) (w' : World) : Prop := (∃ A c, e = .returned (.tuple #[.agg #[.int .i64 i9, .int .i32 t9, .slice A n9 c], .bool b]) ∧ RowId w' w.heap.size A n9 c l9) ∧ Below w.heap.size w w'
set_option maxRecDepth 100000 in
set_option maxHeartbeats 1000000 in
theorem get_go (bt bm : Nat) (i i9 t9 : Int) (A9 : Option Addr) (n9 c9 : Nat) (l9 : List IdV) (b : Bool) (w : World) (hbt : bt < w.heap.size) (hbm : bm < w.heap.size) (k0 : w.cell? ⟨bt, 0, none⟩ = some (.map (some bm))) (hz : Sl w w.heap.size encId 2 A9 n9 l9) (hA : A9 = none → n9 = 0 ∧ c9 = 0) (hn : n9 ≤ 1048576)
    (hl : ∀ w' : World, w'.heap[bm]? = w.heap[bm]? → (Instr.lookup 94 (.map (some bm)) (.int .i64 i) true).run Tryz.prog w' = .ok (.tuple #[.agg #[.int .i64 i9, .int .i32 t9, .slice A9 n9 c9], .bool b]) w') :
    Calls Tryz.prog 33 #[.pointer (some ⟨bt, 0, none⟩), .int .i64 i] w (GetGo i9 t9 n9 l9 b w) := by
  have r1 := hl (w.alloc (.cells #[.int .i64 0, .int .i32 0, .slice none 0 0] 56)) (Below.heap_alloc _ _ bm hbm)
  have hb1 : Below w.heap.size w (w.alloc (.cells #[.int .i64 0, .int .i32 0, .slice none 0 0] 56)) := (Below.refl _ w).alloc (Nat.le_refl _) _
  have hb0 : Below w.heap.size w ((w.alloc (.cells #[.int .i64 0, .int .i32 0, .slice none 0 0] 56)).alloc (.cells #[.int .i64 i9, .int .i32 t9, .slice A9 n9 c9] 56)) := hb1.alloc hb1.size _
  have h0 : ((w.alloc (.cells #[.int .i64 0, .int .i32 0, .slice none 0 0] 56)).alloc (.cells #[.int .i64 i9, .int .i32 t9, .slice A9 n9 c9] 56)).heap[w.heap.size]? = some (.cells #[.int .i64 0, .int .i32 0, .slice none 0 0] 56 (0, 0)) :=
    ((Below.refl _ _).alloc (Nat.le_refl _) _ |>.block w.heap.size (by simp)).trans (heap_alloc_new w _)
  have HSZ : Hid (((w.alloc (.cells #[.int .i64 0, .int .i32 0, .slice none 0 0] 56)).alloc (.cells #[.int .i64 i9, .int .i32 t9, .slice A9 n9 c9] 56)).heap.size = w.heap.size + 2) := Lib.hid (by simp)
  have HZ := Lib.hid (hz.belowMore hb0 hb0.size); have HB := Lib.hid hb0; have H0 := Lib.hid h0
  clear hz hl hb0 hb1 h0
  go_enter Tryz.func33, Tryz.ntmps33
  go_wp2_with fail
  refine (sesOwn_any i9 t9 A9 n9 c9 l9 _ HZ.out hA hn).mono ?_
  generalize ((w.alloc (.cells #[.int .i64 0, .int .i32 0, .slice none 0 0] 56)).alloc (.cells #[.int .i64 i9, .int .i32 t9, .slice A9 n9 c9] 56)) = W at *
  rintro e w1 ⟨⟨A1, c1, rfl, hr⟩, hb1⟩
  have g0 := (hb1.block w.heap.size (by rw [HSZ.out]; omega)).trans H0.out
  have x0 : w1.cell? ⟨w.heap.size, 0, none⟩ = some (.int .i64 0) := by rw [cellH g0]; rfl
  have x1 : w1.cell? ⟨w.heap.size, 1, none⟩ = some (.int .i32 0) := by rw [cellH g0]; rfl
  have x2 : w1.cell? ⟨w.heap.size, 2, none⟩ = some (.slice none 0 0) := by rw [cellH g0]; rfl
  have e0 : w1.frozen? ⟨w.heap.size, 0, none⟩ = false := by simp [World.frozen?, g0]
  have e1 : w1.frozen? ⟨w.heap.size, 1, none⟩ = false := by simp [World.frozen?, g0]
  have e2 : w1.frozen? ⟨w.heap.size, 2, none⟩ = false := by simp [World.frozen?, g0]
  have G := Lib.hid g0
  have HR := Lib.hid hr; have HB1 := Lib.hid hb1
  clear hr hb1 g0
  go_wp2_with fail
  have hF : Fr [w.heap.size] w1 (((w1.setCell ⟨w.heap.size, 0, none⟩ (.int .i64 i9)).setCell ⟨w.heap.size, 1, none⟩ (.int .i32 t9)).setCell ⟨w.heap.size, 2, none⟩ (.slice A1 n9 c1)) := (((Fr.refl _ w1).set (by simp) 0 _).set (by simp) 1 _).set (by simp) 2 _
  have hC : (((w1.setCell ⟨w.heap.size, 0, none⟩ (.int .i64 i9)).setCell ⟨w.heap.size, 1, none⟩ (.int .i32 t9)).setCell ⟨w.heap.size, 2, none⟩ (.slice A1 n9 c1)).heap[w.heap.size]? = some (.cells #[.int .i64 i9, .int .i32 t9, .slice A1 n9 c1] 56 (0, 0)) :=
    heap_setN (heap_setN (heap_setN G.out _) _) _
  generalize (((w1.setCell ⟨w.heap.size, 0, none⟩ (.int .i64 i9)).setCell ⟨w.heap.size, 1, none⟩ (.int .i32 t9)).setCell ⟨w.heap.size, 2, none⟩ (.slice A1 n9 c1)) = V at *
  have q0 : V.cell? ⟨w.heap.size, 0, none⟩ = some (.int .i64 i9) := by rw [cellH hC]; rfl
  have q1 : V.cell? ⟨w.heap.size, 1, none⟩ = some (.int .i32 t9) := by rw [cellH hC]; rfl
  have q2 : V.cell? ⟨w.heap.size, 2, none⟩ = some (.slice A1 n9 c1) := by rw [cellH hC]; rfl
  have hR : RowId V w.heap.size A1 n9 c1 l9 := RowId.base (b := W.heap.size) (own_fr HR.out hF (fun g hg => by rw [HSZ.out]; simp at hg; omega)) (by rw [HSZ.out]; omega)
  have hB : Below w.heap.size w V := (HB.out.trans (HB1.out.mono HB.out.size)).trans (hF.below (Nat.le_trans HB.out.size HB1.out.size) (fun g hg => by simp at hg; omega))
  (try simp only [Exit.inBlock, Exit.then])
  refine bodyPost_ret ((results_cell_tmp rfl _ _ _).trans ?_) rfl ⟨⟨A1, c1, rfl, hR⟩, hB⟩
  go_simp
theorem get_any (bt : Nat) (T : List SesP) (own : List Nat) (i : Int) (hi : wfI i) (w : World) (h : Tab w bt T own) : Calls Tryz.prog 33 #[.pointer (some ⟨bt, 0, none⟩), .int .i64 i] w (GetPost T i w) := by
  obtain ⟨bm, E, h, rfl⟩ := h
  have hbt : bt < w.heap.size := h.lt bt h.bt_
  have hbm : bm < w.heap.size := h.lt bm h.bm_
  have k0 : w.cell? ⟨bt, 0, none⟩ = some (.map (some bm)) := by rw [cellH h.cell]; rfl
  rcases h.look hi with ⟨⟨⟨i9, t9, A9, n9, c9⟩, l9⟩, he, e1, hl⟩ | ⟨hn, hl⟩
  · have hent := h.ent _ he
    have hl9 : l9.length = n9 := hent.2.2.1
    refine (get_go bt bm i i9 t9 A9 n9 c9 l9 true w hbt hbm k0 (hent.sl h.lt) hent.2.2.2.1.1 (by have := hent.2.2.2.2.1; simp only at this; omega) hl).mono ?_
    rintro e w' ⟨⟨A, c, rfl, hr⟩, hb⟩
    subst hl9
    exact ⟨(i9, t9, l9), true, A, c, rfl, hr, .inl ⟨rfl, List.mem_map.2 ⟨_, he, rfl⟩, e1⟩, hb⟩
  · refine (get_go bt bm i 0 0 none 0 0 [] false w hbt hbm k0 Sl.nil_ (fun _ => ⟨rfl, rfl⟩) (by decide) hl).mono ?_
    rintro e w' ⟨⟨A, c, rfl, hr⟩, hb⟩
    exact ⟨(0, 0, []), false, A, c, rfl, hr, .inr ⟨rfl, fun hm => by
      obtain ⟨e, he, e1⟩ := (tab_keys E i).1 hm
      exact hn e he e1, rfl⟩, hb⟩
end Go.Proofs.YtfnigjeklcagnaaGreatDoor
