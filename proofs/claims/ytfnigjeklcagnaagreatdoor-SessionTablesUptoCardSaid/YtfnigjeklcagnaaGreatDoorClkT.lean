/- The walks of NewClock, Deadline, Len, Touch. Condition: ids, steps are int64. -/
import Derived.Test.YtfnigjeklcagnaaGreatDoorClkS
import Derived.Deep.QuietTactic
import Derived.BigQuiet
import Derived.IntWalk
namespace Go.Proofs.YtfnigjeklcagnaaGreatDoor
open Go.RowKit Go.MapKept Go.Maps
theorem Clk.of_heap {w w' : World} {tick : Int} {K : List KV} {bc : Nat} {own : List Nat} (h : Clk w tick K bc own) (hh : ∀ g ∈ own, w'.heap[g]? = w.heap[g]?) : Clk w' tick K bc own := by
  obtain ⟨bw, bs, lw, ls, h⟩ := h
  have ho := h.own_
  refine ⟨bw, bs, lw, ls, (hh bc (by rw [ho]; simp)).trans h.cells, h.mw.of_heap (hh bw (by rw [ho]; simp)), h.perm, h.ms.of_heap (hh bs (by rw [ho]; simp)), fun x hx => ?_, h.all, ho, h.nod, h.wf⟩
  obtain ⟨ids, i1, i2, i3⟩ := h.inner x hx
  exact ⟨ids, i1, i2.of_heap (hh x.2 (by rw [ho]; simp; exact .inr (.inr (.inr ⟨x.1, hx⟩)))), i3⟩
theorem Clk.lt {w : World} {tick : Int} {K : List KV} {bc : Nat} {own : List Nat} (h : Clk w tick K bc own) : ∀ g ∈ own, g < w.heap.size := by
  obtain ⟨bw, bs, lw, ls, h⟩ := h
  intro g hg
  rw [h.own_] at hg
  rcases List.mem_cons.1 hg with rfl | hg
  · exact (Array.getElem?_eq_some_iff.1 h.cells).1
  rcases List.mem_cons.1 hg with rfl | hg
  · exact h.mw.lt
  rcases List.mem_cons.1 hg with rfl | hg
  · exact h.ms.lt
  obtain ⟨x, hx, rfl⟩ := List.mem_map.1 hg
  obtain ⟨ids, _, i2, _⟩ := h.inner x hx
  exact i2.lt
theorem Clk.below {w w' : World} {tick : Int} {K : List KV} {bc : Nat} {own : List Nat} (h : Clk w tick K bc own) (hb : Below w.heap.size w w') : Clk w' tick K bc own := h.of_heap fun g hg => hb.block g (h.lt g hg)
theorem Clk.one {w : World} {tick : Int} {K : List KV} {bc : Nat} {own : List Nat} (h : Clk w tick K bc own) : OneK K := by
  obtain ⟨_, _, _, _, h⟩ := h; exact h.one
/-- what 'c.when' says -/
theorem ClockIs.look {w : World} {tick : Int} {K : List KV} {bc bw bs : Nat} {lw : List KV} {ls : List (Int × Nat)} {own : List Nat} (h : ClockIs w tick K bc bw bs lw ls own) {i : Int} (hi : wfI i) :
    ∀ w' : World, w'.heap[bw]? = w.heap[bw]? → (Instr.lookup 79 (.map (some bw)) (.int .i64 i) true).run Tryz.prog w' = .ok (.tuple #[.int .i64 ((getK K i).getD 0), .bool (getK K i).isSome]) w' := by
  rcases h.mw.lookup Tryz.underlying79 true zInt64 hi with ⟨v, hv, hr⟩ | ⟨hn, hr⟩
  · obtain ⟨x, hx, ex⟩ := List.mem_map.1 hv
    have e1 : x.1 = i := congrArg Prod.fst ex
    have e2 : Value.int .i64 x.2 = v := congrArg Prod.snd ex
    have hg : getK K i = some x.2 := getK_of K i x.2 h.one (by rw [← e1]; exact h.perm.mem_iff.1 hx)
    subst e2
    rw [hg]
    exact hr
  · have hg : getK K i = none := by
      rw [getK_none]
      intro x hx e
      exact hn (x.1, .int .i64 x.2) (List.mem_map.2 ⟨x, h.perm.mem_iff.2 hx, rfl⟩) e
    rw [hg]
    exact hr
theorem deadline_any (tick : Int) (K : List KV) (bc : Nat) (own : List Nat) (i : Int) (hi : wfI i) (w : World) (h : Clk w tick K bc own) :
    Calls Tryz.prog 14 #[.pointer (some ⟨bc, 0, none⟩), .int .i64 i] w fun e w' => e = .returned (.tuple #[.int .i64 ((getK K i).getD 0), .bool (getK K i).isSome]) ∧ w = w' := by
  obtain ⟨bw, bs, lw, ls, h⟩ := h
  have k1 : w.cell? ⟨bc, 1, none⟩ = some (.map (some bw)) := by rw [cellH h.cells]; rfl
  have r := h.look hi w rfl
  generalize (getK K i).getD 0 = a at *
  generalize (getK K i).isSome = b at *
  clear h
  go_enter Tryz.func14, Tryz.ntmps14
  go_wp2_with fail
  go_ret2
  exact ⟨rfl, rfl⟩
theorem clkLen_any (tick : Int) (K : List KV) (bc : Nat) (own : List Nat) (w : World) (h : Clk w tick K bc own) :
    Calls Tryz.prog 24 #[.pointer (some ⟨bc, 0, none⟩)] w fun e w' => e = .returned (.int .i64 K.length) ∧ w = w' := by
  obtain ⟨bw, bs, lw, ls, h⟩ := h
  have k1 : w.cell? ⟨bc, 1, none⟩ = some (.map (some bw)) := by rw [cellH h.cells]; rfl
  have r := h.mw.len Tryz.underlying79 3
  rw [List.length_map, h.perm.length_eq] at r
  generalize K.length = a at *
  clear h
  go_enter Tryz.func24, Tryz.ntmps24
  go_wp2_with fail
  go_ret
  exact ⟨rfl, rfl⟩
def NewPost (tick : Int) (w : World) (e : Ending) (w' : World) : Prop :=
  (if 1 ≤ tick ∧ tick ≤ 1099511627776 then ∃ bc own, e = .returned (.tuple #[.pointer (some ⟨bc, 0, none⟩), .int .i64 0]) ∧ Clk w' tick [] bc own ∧ ∀ g ∈ own, w.heap.size ≤ g else e = .returned (.tuple #[.pointer none, .int .i64 1])) ∧ Below w.heap.size w w'
theorem newClock_any (tick : Int) (w : World) : Calls Tryz.prog 9 #[.int .i64 tick] w (NewPost tick w) := by
  by_cases h1 : tick < 1
  · have HN := Lib.hid (show ¬ (1 ≤ tick ∧ tick ≤ 1099511627776) by omega)
    go_enter Tryz.func9, Tryz.ntmps9
    go_wp2_with fail
    go_ret2
    exact ⟨by rw [if_neg HN.out]; rfl, Below.refl _ _⟩
  · by_cases h2 : 1099511627776 < tick
    · have HN := Lib.hid (show ¬ (1 ≤ tick ∧ tick ≤ 1099511627776) by omega)
      go_enter Tryz.func9, Tryz.ntmps9
      go_wp2_with fail
      go_ret2
      exact ⟨by rw [if_neg HN.out]; rfl, Below.refl _ _⟩
    · have HN := Lib.hid (show 1 ≤ tick ∧ tick ≤ 1099511627776 by omega)
      have hmm := @run_makeMap Tryz.prog
      have hC : Clk (((w.alloc (.map #[] 0)).alloc (.map #[] 0)).alloc (.cells #[.int .i64 tick, .map (some w.heap.size), .map (some (w.heap.size + 1))] 82)) tick [] (w.heap.size + 2) [w.heap.size + 2, w.heap.size, w.heap.size + 1] := by
        have m1 : MapI (w.alloc (.map #[] 0)) w.heap.size [] := MapI.made w
        have m2 : MapI ((w.alloc (.map #[] 0)).alloc (.map #[] 0)) (w.heap.size + 1) [] := by
          have := MapI.made (w.alloc (.map #[] 0))
          rwa [World.size_alloc] at this
        refine ⟨w.heap.size, w.heap.size + 1, [], [], ?_, ?_, List.Perm.refl _, ?_, fun x hx => by (cases hx), fun y hy => by (cases hy), rfl, ?_, fun y hy => by (cases hy)⟩
        · have := heap_alloc_new ((w.alloc (.map #[] 0)).alloc (.map #[] 0)) (.cells #[.int .i64 tick, .map (some w.heap.size), .map (some (w.heap.size + 1))] 82)
          simpa using this
        · exact m1.of_heap ((Below.heap_alloc _ _ _ (by simp; omega)).trans (Below.heap_alloc _ _ _ (by simp)))
        · exact m2.of_heap (Below.heap_alloc _ _ _ (by simp))
        · simp
      have HC := Lib.hid hC; clear hC
      have hB : Below w.heap.size w (((w.alloc (.map #[] 0)).alloc (.map #[] 0)).alloc (.cells #[.int .i64 tick, .map (some w.heap.size), .map (some (w.heap.size + 1))] 82)) := (((Below.refl _ w).alloc (Nat.le_refl _) _).alloc (by simp) _).alloc (by simp; omega) _
      have HB := Lib.hid hB; clear hB
      go_enter Tryz.func9, Tryz.ntmps9
      go_wp2_with fail
      go_ret2
      refine ⟨?_, HB.out⟩
      rw [if_pos HN.out]
      exact ⟨_, _, rfl, HC.out, fun g hg => by simp at hg; omega⟩
def Ins (w : World) (tick : Int) (K : List KV) (bc bw bs : Nat) (own : List Nat) (id st : Int) : Prop :=
  ∃ w1, (Instr.mapUpdate 79 (.map (some bw)) (.int .i64 id) (.int .i64 st)).run Tryz.prog w = .ok () w1 ∧ w1.cell? ⟨bc, 2, none⟩ = some (.map (some bs)) ∧
    ((∃ b w2, (Instr.lookup 80 (.map (some bs)) (.int .i64 st) false).run Tryz.prog w1 = .ok (.map (some b)) w1 ∧ (Instr.mapUpdate 84 (.map (some b)) (.int .i64 id) unitV).run Tryz.prog w1 = .ok () w2 ∧
      Clk w2 tick (K ++ [(id, st)]) bc own ∧ Fr own w w2) ∨
    (∃ w2 w3, (Instr.lookup 80 (.map (some bs)) (.int .i64 st) false).run Tryz.prog w1 = .ok (.map none) w1 ∧
      (Instr.mapUpdate 80 (.map (some bs)) (.int .i64 st) (.map (some w1.heap.size))).run Tryz.prog (w1.alloc (.map #[] 0)) = .ok () w2 ∧ w2.cell? ⟨bc, 2, none⟩ = some (.map (some bs)) ∧
      (Instr.lookup 80 (.map (some bs)) (.int .i64 st) false).run Tryz.prog w2 = .ok (.map (some w1.heap.size)) w2 ∧
      (Instr.mapUpdate 84 (.map (some w1.heap.size)) (.int .i64 id) unitV).run Tryz.prog w2 = .ok () w3 ∧
      (∃ own', Clk w3 tick (K ++ [(id, st)]) bc own' ∧ ∀ g ∈ own', g ∈ own ∨ w.heap.size ≤ g) ∧ Fr own w w3))
set_option maxRecDepth 100000 in
theorem ClockIs.ins {w : World} {tick : Int} {K : List KV} {bc bw bs : Nat} {lw : List KV} {ls : List (Int × Nat)} {own : List Nat} (h : ClockIs w tick K bc bw bs lw ls own) {id st : Int} (hi : wfI id) (hs : wfI st) (hn : ∀ x ∈ K, x.1 ≠ id) : Ins w tick K bc bw bs own id st := by
  have hnod := h.nod
  rw [h.own_] at hnod
  obtain ⟨n1, n2, n3, n4, n5⟩ := ne_of_nodup hnod
  obtain ⟨w1, l1, r1, m1, g1, z1, e1⟩ := h.mw.update Tryz.underlying79 hi (.int .i64 st)
  have hl1 : l1 = (lw ++ [(id, st)]).map (fun x => (x.1, Value.int .i64 x.2)) := by
    rcases e1 with ⟨_, e⟩ | ⟨j, old, hj, _⟩
    · rw [e, List.map_append]; rfl
    · exfalso
      rw [List.getElem?_map] at hj
      cases hl : lw[j]? with
      | none => rw [hl] at hj; cases hj
      | some x =>
        rw [hl] at hj
        have e3 : x.1 = id := by
          have := congrArg (fun o => o.map Prod.fst) hj
          simpa using this
        exact hn x (h.perm.mem_iff.1 (List.mem_of_getElem? hl)) e3
  rw [hl1] at m1
  have hperm : (lw ++ [(id, st)]).Perm (K ++ [(id, st)]) := h.perm.append_right _
  have c1 : w1.heap[bc]? = w.heap[bc]? := g1.block bc (Array.getElem?_eq_some_iff.1 h.cells).1 (fun e => n1 (by injection e))
  have s1 : w1.heap[bs]? = w.heap[bs]? := g1.block bs h.ms.lt (fun e => n3 (by injection e with e; exact e.symm))
  have k2 : w1.cell? ⟨bc, 2, none⟩ = some (.map (some bs)) := by rw [cellH (c1.trans h.cells)]; rfl
  have hwf : ∀ y ∈ K ++ [(id, st)], wfI y.1 ∧ wfI y.2 := fun y hy => by
    rcases List.mem_append.1 hy with hy | hy
    · exact h.wf y hy
    · rw [List.mem_singleton.1 hy]; exact ⟨hi, hs⟩
  have F1 : Fr own w w1 := Fr.of_grown g1 (by rw [h.own_]; simp)
  have hin1 : ∀ x ∈ ls, ∀ js : List (Int × Value), MapI w x.2 js → MapI w1 x.2 js := fun x hx js hj => by
    obtain ⟨p1, p2, p3⟩ := n4 x.2 (List.mem_map.2 ⟨_, hx, rfl⟩)
    exact hj.of_heap (g1.block x.2 hj.lt (fun e => p2 (by injection e)))
  refine ⟨w1, r1, k2, ?_⟩
  rcases (h.ms.of_heap s1).lookup Tryz.underlying80 false zInner hs with ⟨v, hv, hr⟩ | ⟨hno, hr⟩
  · left
    obtain ⟨x, hx, ex⟩ := List.mem_map.1 hv
    have ex1 : x.1 = st := congrArg Prod.fst ex
    have ex2 : Value.map (some x.2) = v := congrArg Prod.snd ex
    subst ex2
    obtain ⟨ids, i1, i2, i3⟩ := h.inner x hx
    obtain ⟨p1, p2, p3⟩ := n4 x.2 (List.mem_map.2 ⟨_, hx, rfl⟩)
    obtain ⟨w2, l2, r2, m2, g2, z2, e2⟩ := (hin1 x hx _ i2).update Tryz.underlying84 hi unitV
    have hnid : id ∉ ids := fun hm => hn _ ((i3 id).1 hm) rfl
    have hl2 : l2 = (ids ++ [id]).map (fun i => (i, unitV)) := by
      rcases e2 with ⟨_, e⟩ | ⟨j, old, hj, _⟩
      · rw [e, List.map_append]; rfl
      · exfalso
        rw [List.getElem?_map] at hj
        cases hl : ids[j]? with
        | none => rw [hl] at hj; cases hj
        | some y =>
          rw [hl] at hj
          have e3 : y = id := by
            have := congrArg (fun o => o.map Prod.fst) hj
            simpa using this
          exact hnid (e3 ▸ List.mem_of_getElem? hl)
    rw [hl2] at m2
    have F2 : Fr own w w2 := F1.trans (Fr.of_grown (own := own) g2 (by rw [h.own_]; simp; exact .inr (.inr (.inr ⟨x.1, hx⟩)))) (fun g hg => .inl hg)
    refine ⟨x.2, w2, hr w1 rfl, r2, ⟨bw, bs, _, ls, ?_, ?_, hperm, ?_, fun y hy => ?_, fun y hy => ?_, h.own_, h.nod, hwf⟩, F2⟩
    · exact ((g2.block bc (by rw [z1]; exact (Array.getElem?_eq_some_iff.1 h.cells).1) (fun e => p1 (by injection e with e; exact e.symm))).trans c1).trans h.cells
    · exact m1.of_heap (g2.block bw m1.lt (fun e => p2 (by injection e with e; exact e.symm)))
    · exact (h.ms.of_heap s1).of_heap (g2.block bs (by rw [z1]; exact h.ms.lt) (fun e => p3 (by injection e with e; exact e.symm)))
    · by_cases hyx : y.2 = x.2
      · have := snd_inj n5 hy hx hyx
        subst this
        refine ⟨ids ++ [id], by simp, m2, fun i => ?_⟩
        rw [List.mem_append, List.mem_append, i3, ex1]
        simp
      · obtain ⟨js, j1, j2, j3⟩ := h.inner y hy
        refine ⟨js, j1, (hin1 y hy _ j2).of_heap (g2.block y.2 (hin1 y hy _ j2).lt (fun e => hyx (by injection e))), fun i => ?_⟩
        rw [j3, List.mem_append]
        refine ⟨.inl, fun hh => hh.elim (fun z => z) fun hh => ?_⟩
        have hh := List.mem_singleton.1 hh
        have : y.1 = st := congrArg Prod.snd hh
        exact absurd (congrArg Prod.snd (fst_inj h.steps hy hx (this.trans ex1.symm))) hyx
    · rcases List.mem_append.1 hy with hy | hy
      · exact h.all y hy
      · rw [List.mem_singleton.1 hy]
        exact ⟨x.2, by rw [← ex1]; exact hx⟩
  · right
    have hnost : ∀ x ∈ ls, x.1 ≠ st := fun x hx e => hno (x.1, .map (some x.2)) (List.mem_map.2 ⟨x, hx, rfl⟩) e
    have s1a : (w1.alloc (.map #[] 0)).heap[bs]? = w.heap[bs]? := (Below.heap_alloc w1 _ bs (by rw [z1]; exact h.ms.lt)).trans s1
    obtain ⟨w2, l2, r2, m2, g2, z2, e2⟩ := (h.ms.of_heap s1a).update Tryz.underlying80 hs (.map (some w1.heap.size))
    have hl2 : l2 = (ls ++ [(st, w1.heap.size)]).map (fun x => (x.1, Value.map (some x.2))) := by
      rcases e2 with ⟨_, e⟩ | ⟨j, old, hj, _⟩
      · rw [e, List.map_append]; rfl
      · exfalso
        rw [List.getElem?_map] at hj
        cases hl : ls[j]? with
        | none => rw [hl] at hj; cases hj
        | some y =>
          rw [hl] at hj
          have e3 : y.1 = st := by
            have := congrArg (fun o => o.map Prod.fst) hj
            simpa using this
          exact hnost y (List.mem_of_getElem? hl) e3
    rw [hl2] at m2
    have hsz : bc < w1.heap.size ∧ bw < w1.heap.size ∧ bs < w1.heap.size := ⟨by rw [z1]; exact (Array.getElem?_eq_some_iff.1 h.cells).1, m1.lt, by rw [z1]; exact h.ms.lt⟩
    have hb2 : w2.heap[w1.heap.size]? = (w1.alloc (.map #[] 0)).heap[w1.heap.size]? := g2.block _ (by simp) (fun e => by injection e with e; omega)
    have mn : MapI w2 w1.heap.size [] := (MapI.made w1).of_heap hb2
    obtain ⟨w3, l3, r3, m3, g3, z3, e3⟩ := mn.update Tryz.underlying84 hi unitV
    have hl3 : l3 = [id].map (fun i => (i, unitV)) := by
      rcases e3 with ⟨_, e⟩ | ⟨j, old, hj, _⟩
      · rw [e]; rfl
      · simp at hj
    rw [hl3] at m3
    have c2 : w2.heap[bc]? = w.heap[bc]? := (g2.block bc (by simp; omega) (fun e => n2 (by injection e))).trans ((Below.heap_alloc w1 _ bc hsz.1).trans c1)
    have k3 : w2.cell? ⟨bc, 2, none⟩ = some (.map (some bs)) := by rw [cellH (c2.trans h.cells)]; rfl
    have hlk : (Instr.lookup 80 (.map (some bs)) (.int .i64 st) false).run Tryz.prog w2 = .ok (.map (some w1.heap.size)) w2 := by
      have hap := m2.apart
      rw [List.map_map] at hap
      rcases m2.lookup Tryz.underlying80 false zInner hs with ⟨v, hv, hr2⟩ | ⟨hno2, _⟩
      · obtain ⟨x, hx, ex⟩ := List.mem_map.1 hv
        have ex1 : x.1 = st := congrArg Prod.fst ex
        have ex2 : Value.map (some x.2) = v := congrArg Prod.snd ex
        have : x = (st, w1.heap.size) := fst_inj (l := ls ++ [(st, w1.heap.size)]) hap hx (by simp) ex1
        rw [this] at ex2
        rw [← ex2] at hr2
        exact hr2 w2 rfl
      · exact absurd rfl (hno2 (st, .map (some w1.heap.size)) (List.mem_map.2 ⟨(st, w1.heap.size), by simp, rfl⟩))
    have F2 : Fr own w w2 := (F1.trans (Fr.of_below (own := own) ((Below.refl _ w1).alloc (Nat.le_refl _) (.map #[] 0))) (fun g hg => .inl hg)).trans (Fr.of_grown (own := own) g2 (by rw [h.own_]; simp)) (fun g hg => .inl hg)
    have F3 : Fr own w w3 := F2.trans (Fr.of_grown (own := [w1.heap.size]) g3 (by simp)) (fun g hg => .inr (by simp at hg; rw [hg, z1]; exact Nat.le_refl _))
    have hlow : ∀ g, g < w1.heap.size → w3.heap[g]? = w2.heap[g]? := fun g hg => g3.block g (by have := g2.size; simp at this; omega) (fun e => by injection e with e; omega)
    have hold : ∀ x ∈ ls, x.2 < w1.heap.size := fun x hx => by
      obtain ⟨js, _, j2, _⟩ := h.inner x hx
      rw [z1]; exact j2.lt
    refine ⟨w2, w3, hr w1 rfl, r2, k3, hlk, r3, ⟨bc :: bw :: bs :: (ls ++ [(st, w1.heap.size)]).map (·.2), ⟨bw, bs, _, ls ++ [(st, w1.heap.size)], ?_, ?_, hperm, ?_, fun y hy => ?_, fun y hy => ?_, rfl, ?_, hwf⟩, fun g hg => ?_⟩, F3⟩
    · exact ((hlow bc hsz.1).trans c2).trans h.cells
    · exact m1.of_heap ((hlow bw hsz.2.1).trans ((g2.block bw (by simp; omega) (fun e => n3 (by injection e))).trans (Below.heap_alloc w1 _ bw hsz.2.1)))
    · exact m2.of_heap (hlow bs hsz.2.2)
    · rcases List.mem_append.1 hy with hy | hy
      · obtain ⟨js, j1, j2, j3⟩ := h.inner y hy
        have hj1 := hin1 y hy _ j2
        obtain ⟨p1, p2, p3⟩ := n4 y.2 (List.mem_map.2 ⟨_, hy, rfl⟩)
        refine ⟨js, j1, hj1.of_heap ((hlow y.2 (hold y hy)).trans ((g2.block y.2 (by have := hold y hy; simp; omega) (fun e => p3 (by injection e))).trans (Below.heap_alloc w1 _ y.2 (hold y hy)))), fun i => ?_⟩
        rw [j3, List.mem_append]
        refine ⟨.inl, fun hh => hh.elim (fun z => z) fun hh => ?_⟩
        have hh := List.mem_singleton.1 hh
        exact absurd (congrArg Prod.snd hh) (hnost y hy)
      · rw [List.mem_singleton.1 hy]
        refine ⟨[id], by simp, m3, fun i => ?_⟩
        rw [List.mem_append]
        constructor
        · intro hh; right; simp at hh ⊢; exact hh
        · rintro (hh | hh)
          · exfalso
            obtain ⟨b, hb⟩ := h.all _ hh
            exact hnost _ hb rfl
          · simp at hh ⊢; exact hh
    · rcases List.mem_append.1 hy with hy | hy
      · obtain ⟨b, hb⟩ := h.all y hy
        exact ⟨b, List.mem_append_left _ hb⟩
      · rw [List.mem_singleton.1 hy]
        exact ⟨w1.heap.size, by simp⟩
    · have e : (bc :: bw :: bs :: (ls ++ [(st, w1.heap.size)]).map (·.2)) = (bc :: bw :: bs :: ls.map (·.2)) ++ [w1.heap.size] := by simp
      rw [e, List.nodup_append]
      refine ⟨hnod, by simp, fun a ha c hc => ?_⟩
      rw [List.mem_singleton.1 hc]
      rcases List.mem_cons.1 ha with rfl | ha
      · omega
      rcases List.mem_cons.1 ha with rfl | ha
      · omega
      rcases List.mem_cons.1 ha with rfl | ha
      · omega
      obtain ⟨x, hx, rfl⟩ := List.mem_map.1 ha
      have := hold x hx
      omega
    · have e : (bc :: bw :: bs :: (ls ++ [(st, w1.heap.size)]).map (·.2)) = (bc :: bw :: bs :: ls.map (·.2)) ++ [w1.heap.size] := by simp
      rw [e] at hg
      rcases List.mem_append.1 hg with hg | hg
      · left; rw [h.own_]; exact hg
      · right; rw [List.mem_singleton.1 hg, z1]; exact Nat.le_refl _
end Go.Proofs.YtfnigjeklcagnaaGreatDoor
