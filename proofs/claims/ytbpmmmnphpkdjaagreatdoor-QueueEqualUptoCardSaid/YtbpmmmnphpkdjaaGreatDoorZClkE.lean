/- slices.Sorted(maps.Keys(m)) at a clock's maps: the keys, rising. Condition: fewer than 2^30 entries. The walks of NewClock, Deadline, Len, Touch. Condition: ids, steps are int64. The walk of (*Clock).Touch. Condition: ids, steps are int64. The walk of (*Clock).Expired. Condition: fewer than 2^20 are known. -/
import Derived.Test.YtbpmmmnphpkdjaaGreatDoorIter
import Derived.Test.YtbpmmmnphpkdjaaGreatDoorZAppG
import Derived.Deep.QuietTactic
import Derived.BigQuiet
import Derived.IntWalk
import Derived.Laws.AppendOwn
import Derived.Deep.AppendLies
namespace Go.Proofs.YtbpmmmnphpkdjaaGreatDoor
open Go.RowKit Go.Maps Go.Shelf Go.ChangeShapes Go.WideShapes
open Go.WideElems (Fit rd rg)

theorem MapI.owns {w : World} {b : Nat} {l : List (Int × Value)} (h : MapI w b l) (hl : l.length ≤ 1073741824) :
    ∃ D0 : DataW Unit, w.ownsMap Tryz.prog 2 (fun _ => some (.lit (.bool true), [])) b l.length D0 ∧ (intKeys D0).Perm (l.map (·.1)) ∧ Maps.size D0 = l.length := by
  obtain ⟨es, clock, hb, hs, hl2, hk⟩ := h
  have hsz : es.size = l.length := by
    have := congrArg List.length hl2
    simpa using this
  have hread : ∀ x ∈ es.toList, rd Tryz.prog 2 (fun _ => some ((.lit (.bool true) : DataW Unit), [])) x = some (match x.key with | .int .i64 i => (Lit.int .i64 i, .lit (.bool true)) | _ => (.bool false, .nil)) ∧ ∃ i, x.key = .int .i64 i := fun x hx => by
    have hx2 : (x.key, x.val) ∈ l.map (fun x => ((.int .i64 x.1, x.2) : Value × Value)) := by rw [← hl2]; exact List.mem_map.2 ⟨x, hx, rfl⟩
    obtain ⟨kl, hkl⟩ := hk _ hx2
    obtain ⟨i, hi, hkl2, _⟩ := Maps.keyOf_i64 Tryz.underlying2 hkl
    have hi : x.key = .int .i64 i := hi
    refine ⟨?_, i, hi⟩
    unfold rd
    rw [show keyOf Tryz.prog 2 x.key = some kl from hkl, hkl2, hi]
    rfl
  refine ⟨_, ⟨es, clock, hb, ⟨by rw [hsz]; exact Nat.le_trans hl (by decide), hs, fun x hx => ⟨_, (hread x hx).1⟩⟩, Nat.le_of_eq hsz, rfl⟩, ?_, ?_⟩
  · show (((es.toList.map (rg Tryz.prog 2 _)).foldr DataW.insert []).map fun p => _root_.Go.intOf p.1).Perm _
    refine ((sorted_perm _).map _).trans ?_
    have e : (es.toList.map (rg Tryz.prog 2 (fun _ => some ((.lit (.bool true) : DataW Unit), [])))).map (fun p => _root_.Go.intOf p.1) = l.map (·.1) := by
      have e2 : l.map (·.1) = (l.map (fun x => ((.int .i64 x.1, x.2) : Value × Value))).map (fun q => match q.1 with | .int .i64 i => i | _ => 0) := by rw [List.map_map]; rfl
      rw [e2, ← hl2, List.map_map, List.map_map]
      refine List.map_congr_left fun x hx => ?_
      obtain ⟨h1, i, h2⟩ := hread x hx
      simp only [Function.comp, rg, h1, Option.getD_some, h2]
      rfl
    rw [e]
  · show ((es.toList.map (rg Tryz.prog 2 _)).foldr DataW.insert []).length = _
    rw [length_sorted, List.length_map, Array.length_toList, hsz]
def sortI (l : List Int) : List Int := l.mergeSort leI
theorem sortI_perm (l : List Int) : (sortI l).Perm l := List.mergeSort_perm l leI
theorem sorts_in (m : Nat) : AnyZI.SortsIn Tryz.prog Tryz.sortedA_ren Fence.wide m :=
  ⟨fun blk off cap ss W hH hblk hsz => callsIn_wide.2 (AnyM.slices_Sort_int Tryz.sortA blk off cap ss W hH hblk hsz),
   fun p cap W => callsIn_wide.2 (AnyM.slices_Sort_int_none Tryz.sortA p cap W)⟩
theorem keysA_any (mb : Option Nat) (W : World) : Calls Tryz.prog 125 #[.map mb] W fun e w' => e = .returned (.func (.func 157) #[] #[.pointer (some ⟨W.heap.size, 0, none⟩)]) ∧ w' = W.alloc (.cells #[.map mb] 205) :=
  callsIn_wide.1 (AnyZI.keys_in Tryz.keysA Fence.wide 5 trivial rfl mb W)
theorem keysB_any (mb : Option Nat) (W : World) : Calls Tryz.prog 126 #[.map mb] W fun e w' => e = .returned (.func (.func 158) #[] #[.pointer (some ⟨W.heap.size, 0, none⟩)]) ∧ w' = W.alloc (.cells #[.map mb] 210) :=
  callsIn_wide.1 (AnyZI.keys_in Tryz.keysB Fence.wide 5 trivial rfl mb W)
def SortPost (w : World) (l : List Int) (e : Ending) (w' : World) : Prop :=
  ∃ A c, e = .returned (.slice A l.length c) ∧ w'.ownsRow w.heap.size 2 1 (.slice A l.length c) l.length (l.map encZ) ∧ Below w.heap.size w w'
theorem sort_close {w w' : World} {v : Value} {ss l : List Int} (hp : ss.Perm l) (hr : w'.ownsRow w.heap.size 2 1 v ss.length ((ss.mergeSort leI).map encZ)) (hb : Below w.heap.size w w') : SortPost w (sortI l) (.returned v) w' := by
  have e1 : ss.mergeSort leI = sortI l := mergeSort_of_perm_i hp
  have e2 : ss.length = (sortI l).length := by rw [hp.length_eq, (sortI_perm l).length_eq]
  rw [e1, e2] at hr
  rcases hr.2 with ⟨h1, h2⟩ | ⟨g, cap, cur, h1, h2⟩
  · subst h1
    exact ⟨none, 0, by rw [h2], by rw [h2] at hr ⊢; exact hr, hb⟩
  · subst h1
    exact ⟨_, _, rfl, hr, hb⟩
set_option maxHeartbeats 1000000 in
theorem sortedA_any (b : Nat) (l : List (Int × Value)) (w : World) (h : MapI w b l) (hl : l.length ≤ 1073741824) :
    Calls Tryz.prog 124 #[.func (.func 157) #[] #[.pointer (some ⟨w.heap.size, 0, none⟩)]] (w.alloc (.cells #[.map (some b)] 205)) (SortPost (w.alloc (.cells #[.map (some b)] 205)) (sortI (l.map (·.1)))) := by
  obtain ⟨D0, hown, hperm, hsize⟩ := h.owns hl
  have hbl := hown.lt
  have hseq : SeqGives Fence.wide 2 Tryz.prog 157 #[.pointer (some ⟨w.heap.size, 0, none⟩)] encZ (fun ss => ss.Perm (intKeys D0)) (Maps.size D0) (w.alloc (.cells #[.map (some b)] 205)) :=
    AnyZI.keys_gives (ρ := Tryz.keysA_ren) { Tryz.keysA with } Fence.wide _ trivial rfl (by omega) w.heap.size b l.length D0 _ (by simp) (by simp) (by
      obtain ⟨es, clock, hb, Ft, hs, hD⟩ := hown
      exact ⟨es, clock, (Below.heap_alloc _ _ b hbl).trans hb, Ft, hs, hD⟩)
  have cS := AnyZI.sorted_in Tryz.sortedA Fence.wide 5 trivial trivial trivial trivial rfl (by omega) (sorts_in _) (enters_of Tryz.func156 (by kernel_rfl) rfl) 157 #[.pointer (some ⟨w.heap.size, 0, none⟩)] trivial (enters_of Tryz.func157 (by kernel_rfl) rfl) _ _ (by rw [hsize]; exact Nat.le_trans hl (by decide)) (by rw [hsize]; omega) _ hseq
  refine (callsIn_wide.1 cS).mono ?_
  rintro e w' ⟨v, ss, rfl, hS, hrow, _, hb⟩
  exact sort_close (hS.trans hperm) hrow hb
set_option maxHeartbeats 1000000 in
theorem sortedB_any (b : Nat) (l : List (Int × Value)) (w : World) (h : MapI w b l) (hl : l.length ≤ 1073741824) :
    Calls Tryz.prog 124 #[.func (.func 158) #[] #[.pointer (some ⟨w.heap.size, 0, none⟩)]] (w.alloc (.cells #[.map (some b)] 210)) (SortPost (w.alloc (.cells #[.map (some b)] 210)) (sortI (l.map (·.1)))) := by
  obtain ⟨D0, hown, hperm, hsize⟩ := h.owns hl
  have hbl := hown.lt
  have hseq : SeqGives Fence.wide 2 Tryz.prog 158 #[.pointer (some ⟨w.heap.size, 0, none⟩)] encZ (fun ss => ss.Perm (intKeys D0)) (Maps.size D0) (w.alloc (.cells #[.map (some b)] 210)) :=
    AnyZI.keys_gives (ρ := Tryz.keysB_ren) { Tryz.keysB with } Fence.wide _ trivial rfl (by omega) w.heap.size b l.length D0 _ (by simp) (by simp) (by
      obtain ⟨es, clock, hb, Ft, hs, hD⟩ := hown
      exact ⟨es, clock, (Below.heap_alloc _ _ b hbl).trans hb, Ft, hs, hD⟩)
  have cS := AnyZI.sorted_in Tryz.sortedA Fence.wide 5 trivial trivial trivial trivial rfl (by omega) (sorts_in _) (enters_of Tryz.func156 (by kernel_rfl) rfl) 158 #[.pointer (some ⟨w.heap.size, 0, none⟩)] trivial (enters_of Tryz.func158 (by kernel_rfl) rfl) _ _ (by rw [hsize]; exact Nat.le_trans hl (by decide)) (by rw [hsize]; omega) _ hseq
  refine (callsIn_wide.1 cS).mono ?_
  rintro e w' ⟨v, ss, rfl, hS, hrow, _, hb⟩
  exact sort_close (hS.trans hperm) hrow hb
end Go.Proofs.YtbpmmmnphpkdjaaGreatDoor
namespace Go.Proofs.YtbpmmmnphpkdjaaGreatDoor
open Go.RowKit Go.MapKept Go.Maps
theorem Clk.of_heap {w w' : World} {tick : Int} {K : List KV} {bc : Nat} {own : List Nat} (h : Clk w tick K bc own) (hh : ∀ g ∈ own, w'.heap[g]? = w.heap[g]?) : Clk w' tick K bc own := by
  obtain ⟨bw, bs, lw, ls, h⟩ := h
  have ho := h.own_
  refine ⟨bw, bs, lw, ls, (hh bc (by rw [ho]; simp)).trans h.cells, h.mw.of_heap (hh bw (by rw [ho]; simp)), h.perm, h.ms.of_heap (hh bs (by rw [ho]; simp)), fun x hx => ?_, h.all, ho, h.nod, h.wf⟩
  obtain ⟨ids, i1, i2, i3⟩ := h.inner x hx
  exact ⟨ids, i1, i2.of_heap (hh x.2 (by rw [ho]; simp; exact .inr (.inr (.inr ⟨x.1, hx⟩)))), i3⟩
theorem Clk.lt {w : World} {tick : Int} {K : List KV} {bc : Nat} {own : List Nat} (h : Clk w tick K bc own) : ∀ g ∈ own, g < w.heap.size := by
  obtain ⟨bw, bs, lw, ls, h⟩ := h
  intro g hg
  rw [h.own_] at hg
  rcases List.mem_cons.1 hg with rfl | hg
  · exact (Array.getElem?_eq_some_iff.1 h.cells).1
  rcases List.mem_cons.1 hg with rfl | hg
  · exact h.mw.lt
  rcases List.mem_cons.1 hg with rfl | hg
  · exact h.ms.lt
  obtain ⟨x, hx, rfl⟩ := List.mem_map.1 hg
  obtain ⟨ids, _, i2, _⟩ := h.inner x hx
  exact i2.lt
theorem Clk.below {w w' : World} {tick : Int} {K : List KV} {bc : Nat} {own : List Nat} (h : Clk w tick K bc own) (hb : Below w.heap.size w w') : Clk w' tick K bc own := h.of_heap fun g hg => hb.block g (h.lt g hg)
theorem Clk.one {w : World} {tick : Int} {K : List KV} {bc : Nat} {own : List Nat} (h : Clk w tick K bc own) : OneK K := by
  obtain ⟨_, _, _, _, h⟩ := h; exact h.one
/-- what 'c.when' says -/
theorem ClockIs.look {w : World} {tick : Int} {K : List KV} {bc bw bs : Nat} {lw : List KV} {ls : List (Int × Nat)} {own : List Nat} (h : ClockIs w tick K bc bw bs lw ls own) {i : Int} (hi : wfI i) :
    ∀ w' : World, w'.heap[bw]? = w.heap[bw]? → (Instr.lookup 204 (.map (some bw)) (.int .i64 i) true).run Tryz.prog w' = .ok (.tuple #[.int .i64 ((getK K i).getD 0), .bool (getK K i).isSome]) w' := by
  rcases h.mw.lookup Tryz.underlying204 true zInt64 hi with ⟨v, hv, hr⟩ | ⟨hn, hr⟩
  · obtain ⟨x, hx, ex⟩ := List.mem_map.1 hv
    have e1 : x.1 = i := congrArg Prod.fst ex
    have e2 : Value.int .i64 x.2 = v := congrArg Prod.snd ex
    have hg : getK K i = some x.2 := getK_of K i x.2 h.one (by rw [← e1]; exact h.perm.mem_iff.1 hx)
    subst e2
    rw [hg]
    exact hr
  · have hg : getK K i = none := by
      rw [getK_none]
      intro x hx e
      exact hn (x.1, .int .i64 x.2) (List.mem_map.2 ⟨x, h.perm.mem_iff.2 hx, rfl⟩) e
    rw [hg]
    exact hr
theorem deadline_any (tick : Int) (K : List KV) (bc : Nat) (own : List Nat) (i : Int) (hi : wfI i) (w : World) (h : Clk w tick K bc own) :
    Calls Tryz.prog 90 #[.pointer (some ⟨bc, 0, none⟩), .int .i64 i] w fun e w' => e = .returned (.tuple #[.int .i64 ((getK K i).getD 0), .bool (getK K i).isSome]) ∧ w = w' := by
  obtain ⟨bw, bs, lw, ls, h⟩ := h
  have k1 : w.cell? ⟨bc, 1, none⟩ = some (.map (some bw)) := by rw [cellH h.cells]; rfl
  have r := h.look hi w rfl
  generalize (getK K i).getD 0 = a at *
  generalize (getK K i).isSome = b at *
  clear h
  go_enter Tryz.func90, Tryz.ntmps90
  go_wp2_with fail
  go_ret2
  exact ⟨rfl, rfl⟩
def NewPost (tick : Int) (w : World) (e : Ending) (w' : World) : Prop :=
  (if 1 ≤ tick ∧ tick ≤ 1099511627776 then ∃ bc own, e = .returned (.tuple #[.pointer (some ⟨bc, 0, none⟩), .int .i64 0]) ∧ Clk w' tick [] bc own ∧ ∀ g ∈ own, w.heap.size ≤ g else e = .returned (.tuple #[.pointer none, .int .i64 1])) ∧ Below w.heap.size w w'
theorem newClock_any (tick : Int) (w : World) : Calls Tryz.prog 87 #[.int .i64 tick] w (NewPost tick w) := by
  by_cases h1 : tick < 1
  · have HN := Lib.hid (show ¬ (1 ≤ tick ∧ tick ≤ 1099511627776) by omega)
    go_enter Tryz.func87, Tryz.ntmps87
    go_wp2_with fail
    go_ret2
    exact ⟨by rw [if_neg HN.out]; rfl, Below.refl _ _⟩
  · by_cases h2 : 1099511627776 < tick
    · have HN := Lib.hid (show ¬ (1 ≤ tick ∧ tick ≤ 1099511627776) by omega)
      go_enter Tryz.func87, Tryz.ntmps87
      go_wp2_with fail
      go_ret2
      exact ⟨by rw [if_neg HN.out]; rfl, Below.refl _ _⟩
    · have HN := Lib.hid (show 1 ≤ tick ∧ tick ≤ 1099511627776 by omega)
      have hmm := @run_makeMap Tryz.prog
      have hC : Clk (((w.alloc (.map #[] 0)).alloc (.map #[] 0)).alloc (.cells #[.int .i64 tick, .map (some w.heap.size), .map (some (w.heap.size + 1))] 207)) tick [] (w.heap.size + 2) [w.heap.size + 2, w.heap.size, w.heap.size + 1] := by
        have m1 : MapI (w.alloc (.map #[] 0)) w.heap.size [] := MapI.made w
        have m2 : MapI ((w.alloc (.map #[] 0)).alloc (.map #[] 0)) (w.heap.size + 1) [] := by
          have := MapI.made (w.alloc (.map #[] 0))
          rwa [World.size_alloc] at this
        refine ⟨w.heap.size, w.heap.size + 1, [], [], ?_, ?_, List.Perm.refl _, ?_, fun x hx => by (cases hx), fun y hy => by (cases hy), rfl, ?_, fun y hy => by (cases hy)⟩
        · have := heap_alloc_new ((w.alloc (.map #[] 0)).alloc (.map #[] 0)) (.cells #[.int .i64 tick, .map (some w.heap.size), .map (some (w.heap.size + 1))] 207)
          simpa using this
        · exact m1.of_heap ((Below.heap_alloc _ _ _ (by simp; omega)).trans (Below.heap_alloc _ _ _ (by simp)))
        · exact m2.of_heap (Below.heap_alloc _ _ _ (by simp))
        · simp
      have HC := Lib.hid hC; clear hC
      have hB : Below w.heap.size w (((w.alloc (.map #[] 0)).alloc (.map #[] 0)).alloc (.cells #[.int .i64 tick, .map (some w.heap.size), .map (some (w.heap.size + 1))] 207)) := (((Below.refl _ w).alloc (Nat.le_refl _) _).alloc (by simp) _).alloc (by simp; omega) _
      have HB := Lib.hid hB; clear hB
      go_enter Tryz.func87, Tryz.ntmps87
      go_wp2_with fail
      go_ret2
      refine ⟨?_, HB.out⟩
      rw [if_pos HN.out]
      exact ⟨_, _, rfl, HC.out, fun g hg => by simp at hg; omega⟩
def Ins (w : World) (tick : Int) (K : List KV) (bc bw bs : Nat) (own : List Nat) (id st : Int) : Prop :=
  ∃ w1, (Instr.mapUpdate 204 (.map (some bw)) (.int .i64 id) (.int .i64 st)).run Tryz.prog w = .ok () w1 ∧ w1.cell? ⟨bc, 2, none⟩ = some (.map (some bs)) ∧
    ((∃ b w2, (Instr.lookup 205 (.map (some bs)) (.int .i64 st) false).run Tryz.prog w1 = .ok (.map (some b)) w1 ∧ (Instr.mapUpdate 210 (.map (some b)) (.int .i64 id) unitV).run Tryz.prog w1 = .ok () w2 ∧
      Clk w2 tick (K ++ [(id, st)]) bc own ∧ Fr own w w2) ∨
    (∃ w2 w3, (Instr.lookup 205 (.map (some bs)) (.int .i64 st) false).run Tryz.prog w1 = .ok (.map none) w1 ∧
      (Instr.mapUpdate 205 (.map (some bs)) (.int .i64 st) (.map (some w1.heap.size))).run Tryz.prog (w1.alloc (.map #[] 0)) = .ok () w2 ∧ w2.cell? ⟨bc, 2, none⟩ = some (.map (some bs)) ∧
      (Instr.lookup 205 (.map (some bs)) (.int .i64 st) false).run Tryz.prog w2 = .ok (.map (some w1.heap.size)) w2 ∧
      (Instr.mapUpdate 210 (.map (some w1.heap.size)) (.int .i64 id) unitV).run Tryz.prog w2 = .ok () w3 ∧
      (∃ own', Clk w3 tick (K ++ [(id, st)]) bc own' ∧ ∀ g ∈ own', g ∈ own ∨ w.heap.size ≤ g) ∧ Fr own w w3))
set_option maxRecDepth 100000 in
theorem ClockIs.ins {w : World} {tick : Int} {K : List KV} {bc bw bs : Nat} {lw : List KV} {ls : List (Int × Nat)} {own : List Nat} (h : ClockIs w tick K bc bw bs lw ls own) {id st : Int} (hi : wfI id) (hs : wfI st) (hn : ∀ x ∈ K, x.1 ≠ id) : Ins w tick K bc bw bs own id st := by
  have hnod := h.nod
  rw [h.own_] at hnod
  obtain ⟨n1, n2, n3, n4, n5⟩ := ne_of_nodup hnod
  obtain ⟨w1, l1, r1, m1, g1, z1, e1⟩ := h.mw.update Tryz.underlying204 hi (.int .i64 st)
  have hl1 : l1 = (lw ++ [(id, st)]).map (fun x => (x.1, Value.int .i64 x.2)) := by
    rcases e1 with ⟨_, e⟩ | ⟨j, old, hj, _⟩
    · rw [e, List.map_append]; rfl
    · exfalso
      rw [List.getElem?_map] at hj
      cases hl : lw[j]? with
      | none => rw [hl] at hj; cases hj
      | some x =>
        rw [hl] at hj
        have e3 : x.1 = id := by
          have := congrArg (fun o => o.map Prod.fst) hj
          simpa using this
        exact hn x (h.perm.mem_iff.1 (List.mem_of_getElem? hl)) e3
  rw [hl1] at m1
  have hperm : (lw ++ [(id, st)]).Perm (K ++ [(id, st)]) := h.perm.append_right _
  have c1 : w1.heap[bc]? = w.heap[bc]? := g1.block bc (Array.getElem?_eq_some_iff.1 h.cells).1 (fun e => n1 (by injection e))
  have s1 : w1.heap[bs]? = w.heap[bs]? := g1.block bs h.ms.lt (fun e => n3 (by injection e with e; exact e.symm))
  have k2 : w1.cell? ⟨bc, 2, none⟩ = some (.map (some bs)) := by rw [cellH (c1.trans h.cells)]; rfl
  have hwf : ∀ y ∈ K ++ [(id, st)], wfI y.1 ∧ wfI y.2 := fun y hy => by
    rcases List.mem_append.1 hy with hy | hy
    · exact h.wf y hy
    · rw [List.mem_singleton.1 hy]; exact ⟨hi, hs⟩
  have F1 : Fr own w w1 := Fr.of_grown g1 (by rw [h.own_]; simp)
  have hin1 : ∀ x ∈ ls, ∀ js : List (Int × Value), MapI w x.2 js → MapI w1 x.2 js := fun x hx js hj => by
    obtain ⟨p1, p2, p3⟩ := n4 x.2 (List.mem_map.2 ⟨_, hx, rfl⟩)
    exact hj.of_heap (g1.block x.2 hj.lt (fun e => p2 (by injection e)))
  refine ⟨w1, r1, k2, ?_⟩
  rcases (h.ms.of_heap s1).lookup Tryz.underlying205 false zInner hs with ⟨v, hv, hr⟩ | ⟨hno, hr⟩
  · left
    obtain ⟨x, hx, ex⟩ := List.mem_map.1 hv
    have ex1 : x.1 = st := congrArg Prod.fst ex
    have ex2 : Value.map (some x.2) = v := congrArg Prod.snd ex
    subst ex2
    obtain ⟨ids, i1, i2, i3⟩ := h.inner x hx
    obtain ⟨p1, p2, p3⟩ := n4 x.2 (List.mem_map.2 ⟨_, hx, rfl⟩)
    obtain ⟨w2, l2, r2, m2, g2, z2, e2⟩ := (hin1 x hx _ i2).update Tryz.underlying210 hi unitV
    have hnid : id ∉ ids := fun hm => hn _ ((i3 id).1 hm) rfl
    have hl2 : l2 = (ids ++ [id]).map (fun i => (i, unitV)) := by
      rcases e2 with ⟨_, e⟩ | ⟨j, old, hj, _⟩
      · rw [e, List.map_append]; rfl
      · exfalso
        rw [List.getElem?_map] at hj
        cases hl : ids[j]? with
        | none => rw [hl] at hj; cases hj
        | some y =>
          rw [hl] at hj
          have e3 : y = id := by
            have := congrArg (fun o => o.map Prod.fst) hj
            simpa using this
          exact hnid (e3 ▸ List.mem_of_getElem? hl)
    rw [hl2] at m2
    have F2 : Fr own w w2 := F1.trans (Fr.of_grown (own := own) g2 (by rw [h.own_]; simp; exact .inr (.inr (.inr ⟨x.1, hx⟩)))) (fun g hg => .inl hg)
    refine ⟨x.2, w2, hr w1 rfl, r2, ⟨bw, bs, _, ls, ?_, ?_, hperm, ?_, fun y hy => ?_, fun y hy => ?_, h.own_, h.nod, hwf⟩, F2⟩
    · exact ((g2.block bc (by rw [z1]; exact (Array.getElem?_eq_some_iff.1 h.cells).1) (fun e => p1 (by injection e with e; exact e.symm))).trans c1).trans h.cells
    · exact m1.of_heap (g2.block bw m1.lt (fun e => p2 (by injection e with e; exact e.symm)))
    · exact (h.ms.of_heap s1).of_heap (g2.block bs (by rw [z1]; exact h.ms.lt) (fun e => p3 (by injection e with e; exact e.symm)))
    · by_cases hyx : y.2 = x.2
      · have := snd_inj n5 hy hx hyx
        subst this
        refine ⟨ids ++ [id], by simp, m2, fun i => ?_⟩
        rw [List.mem_append, List.mem_append, i3, ex1]
        simp
      · obtain ⟨js, j1, j2, j3⟩ := h.inner y hy
        refine ⟨js, j1, (hin1 y hy _ j2).of_heap (g2.block y.2 (hin1 y hy _ j2).lt (fun e => hyx (by injection e))), fun i => ?_⟩
        rw [j3, List.mem_append]
        refine ⟨.inl, fun hh => hh.elim (fun z => z) fun hh => ?_⟩
        have hh := List.mem_singleton.1 hh
        have : y.1 = st := congrArg Prod.snd hh
        exact absurd (congrArg Prod.snd (fst_inj h.steps hy hx (this.trans ex1.symm))) hyx
    · rcases List.mem_append.1 hy with hy | hy
      · exact h.all y hy
      · rw [List.mem_singleton.1 hy]
        exact ⟨x.2, by rw [← ex1]; exact hx⟩
  · right
    have hnost : ∀ x ∈ ls, x.1 ≠ st := fun x hx e => hno (x.1, .map (some x.2)) (List.mem_map.2 ⟨x, hx, rfl⟩) e
    have s1a : (w1.alloc (.map #[] 0)).heap[bs]? = w.heap[bs]? := (Below.heap_alloc w1 _ bs (by rw [z1]; exact h.ms.lt)).trans s1
    obtain ⟨w2, l2, r2, m2, g2, z2, e2⟩ := (h.ms.of_heap s1a).update Tryz.underlying205 hs (.map (some w1.heap.size))
    have hl2 : l2 = (ls ++ [(st, w1.heap.size)]).map (fun x => (x.1, Value.map (some x.2))) := by
      rcases e2 with ⟨_, e⟩ | ⟨j, old, hj, _⟩
      · rw [e, List.map_append]; rfl
      · exfalso
        rw [List.getElem?_map] at hj
        cases hl : ls[j]? with
        | none => rw [hl] at hj; cases hj
        | some y =>
          rw [hl] at hj
          have e3 : y.1 = st := by
            have := congrArg (fun o => o.map Prod.fst) hj
            simpa using this
          exact hnost y (List.mem_of_getElem? hl) e3
    rw [hl2] at m2
    have hsz : bc < w1.heap.size ∧ bw < w1.heap.size ∧ bs < w1.heap.size := ⟨by rw [z1]; exact (Array.getElem?_eq_some_iff.1 h.cells).1, m1.lt, by rw [z1]; exact h.ms.lt⟩
    have hb2 : w2.heap[w1.heap.size]? = (w1.alloc (.map #[] 0)).heap[w1.heap.size]? := g2.block _ (by simp) (fun e => by injection e with e; omega)
    have mn : MapI w2 w1.heap.size [] := (MapI.made w1).of_heap hb2
    obtain ⟨w3, l3, r3, m3, g3, z3, e3⟩ := mn.update Tryz.underlying210 hi unitV
    have hl3 : l3 = [id].map (fun i => (i, unitV)) := by
      rcases e3 with ⟨_, e⟩ | ⟨j, old, hj, _⟩
      · rw [e]; rfl
      · simp at hj
    rw [hl3] at m3
    have c2 : w2.heap[bc]? = w.heap[bc]? := (g2.block bc (by simp; omega) (fun e => n2 (by injection e))).trans ((Below.heap_alloc w1 _ bc hsz.1).trans c1)
    have k3 : w2.cell? ⟨bc, 2, none⟩ = some (.map (some bs)) := by rw [cellH (c2.trans h.cells)]; rfl
    have hlk : (Instr.lookup 205 (.map (some bs)) (.int .i64 st) false).run Tryz.prog w2 = .ok (.map (some w1.heap.size)) w2 := by
      have hap := m2.apart
      rw [List.map_map] at hap
      rcases m2.lookup Tryz.underlying205 false zInner hs with ⟨v, hv, hr2⟩ | ⟨hno2, _⟩
      · obtain ⟨x, hx, ex⟩ := List.mem_map.1 hv
        have ex1 : x.1 = st := congrArg Prod.fst ex
        have ex2 : Value.map (some x.2) = v := congrArg Prod.snd ex
        have : x = (st, w1.heap.size) := fst_inj (l := ls ++ [(st, w1.heap.size)]) hap hx (by simp) ex1
        rw [this] at ex2
        rw [← ex2] at hr2
        exact hr2 w2 rfl
      · exact absurd rfl (hno2 (st, .map (some w1.heap.size)) (List.mem_map.2 ⟨(st, w1.heap.size), by simp, rfl⟩))
    have F2 : Fr own w w2 := (F1.trans (Fr.of_below (own := own) ((Below.refl _ w1).alloc (Nat.le_refl _) (.map #[] 0))) (fun g hg => .inl hg)).trans (Fr.of_grown (own := own) g2 (by rw [h.own_]; simp)) (fun g hg => .inl hg)
    have F3 : Fr own w w3 := F2.trans (Fr.of_grown (own := [w1.heap.size]) g3 (by simp)) (fun g hg => .inr (by simp at hg; rw [hg, z1]; exact Nat.le_refl _))
    have hlow : ∀ g, g < w1.heap.size → w3.heap[g]? = w2.heap[g]? := fun g hg => g3.block g (by have := g2.size; simp at this; omega) (fun e => by injection e with e; omega)
    have hold : ∀ x ∈ ls, x.2 < w1.heap.size := fun x hx => by
      obtain ⟨js, _, j2, _⟩ := h.inner x hx
      rw [z1]; exact j2.lt
    refine ⟨w2, w3, hr w1 rfl, r2, k3, hlk, r3, ⟨bc :: bw :: bs :: (ls ++ [(st, w1.heap.size)]).map (·.2), ⟨bw, bs, _, ls ++ [(st, w1.heap.size)], ?_, ?_, hperm, ?_, fun y hy => ?_, fun y hy => ?_, rfl, ?_, hwf⟩, fun g hg => ?_⟩, F3⟩
    · exact ((hlow bc hsz.1).trans c2).trans h.cells
    · exact m1.of_heap ((hlow bw hsz.2.1).trans ((g2.block bw (by simp; omega) (fun e => n3 (by injection e))).trans (Below.heap_alloc w1 _ bw hsz.2.1)))
    · exact m2.of_heap (hlow bs hsz.2.2)
    · rcases List.mem_append.1 hy with hy | hy
      · obtain ⟨js, j1, j2, j3⟩ := h.inner y hy
        have hj1 := hin1 y hy _ j2
        obtain ⟨p1, p2, p3⟩ := n4 y.2 (List.mem_map.2 ⟨_, hy, rfl⟩)
        refine ⟨js, j1, hj1.of_heap ((hlow y.2 (hold y hy)).trans ((g2.block y.2 (by have := hold y hy; simp; omega) (fun e => p3 (by injection e))).trans (Below.heap_alloc w1 _ y.2 (hold y hy)))), fun i => ?_⟩
        rw [j3, List.mem_append]
        refine ⟨.inl, fun hh => hh.elim (fun z => z) fun hh => ?_⟩
        have hh := List.mem_singleton.1 hh
        exact absurd (congrArg Prod.snd hh) (hnost y hy)
      · rw [List.mem_singleton.1 hy]
        refine ⟨[id], by simp, m3, fun i => ?_⟩
        rw [List.mem_append]
        constructor
        · intro hh; right; simp at hh ⊢; exact hh
        · rintro (hh | hh)
          · exfalso
            obtain ⟨b, hb⟩ := h.all _ hh
            exact hnost _ hb rfl
          · simp at hh ⊢; exact hh
    · rcases List.mem_append.1 hy with hy | hy
      · obtain ⟨b, hb⟩ := h.all y hy
        exact ⟨b, List.mem_append_left _ hb⟩
      · rw [List.mem_singleton.1 hy]
        exact ⟨w1.heap.size, by simp⟩
    · have e : (bc :: bw :: bs :: (ls ++ [(st, w1.heap.size)]).map (·.2)) = (bc :: bw :: bs :: ls.map (·.2)) ++ [w1.heap.size] := by simp
      rw [e, List.nodup_append]
      refine ⟨hnod, by simp, fun a ha c hc => ?_⟩
      rw [List.mem_singleton.1 hc]
      rcases List.mem_cons.1 ha with rfl | ha
      · omega
      rcases List.mem_cons.1 ha with rfl | ha
      · omega
      rcases List.mem_cons.1 ha with rfl | ha
      · omega
      obtain ⟨x, hx, rfl⟩ := List.mem_map.1 ha
      have := hold x hx
      omega
    · have e : (bc :: bw :: bs :: (ls ++ [(st, w1.heap.size)]).map (·.2)) = (bc :: bw :: bs :: ls.map (·.2)) ++ [w1.heap.size] := by simp
      rw [e] at hg
      rcases List.mem_append.1 hg with hg | hg
      · left; rw [h.own_]; exact hg
      · right; rw [List.mem_singleton.1 hg, z1]; exact Nat.le_refl _
end Go.Proofs.YtbpmmmnphpkdjaaGreatDoor
namespace Go.Proofs.YtbpmmmnphpkdjaaGreatDoor
open Go.RowKit Go.MapKept Go.Maps
theorem ClockIs.of_heap {w w' : World} {tick : Int} {K : List KV} {bc bw bs : Nat} {lw : List KV} {ls : List (Int × Nat)} {own : List Nat} (h : ClockIs w tick K bc bw bs lw ls own) (hh : ∀ g ∈ own, w'.heap[g]? = w.heap[g]?) : ClockIs w' tick K bc bw bs lw ls own := by
  have ho := h.own_
  refine ⟨(hh bc (by rw [ho]; simp)).trans h.cells, h.mw.of_heap (hh bw (by rw [ho]; simp)), h.perm, h.ms.of_heap (hh bs (by rw [ho]; simp)), fun x hx => ?_, h.all, ho, h.nod, h.wf⟩
  obtain ⟨ids, i1, i2, i3⟩ := h.inner x hx
  exact ⟨ids, i1, i2.of_heap (hh x.2 (by rw [ho]; simp; exact .inr (.inr (.inr ⟨x.1, hx⟩)))), i3⟩
theorem Fr.drewN (own : List Nat) (w : World) (q : Nat) : Fr own w (w.drewN q) := ⟨rfl, rfl, rfl, Nat.le_refl _, fun _ _ _ => rfl⟩
theorem eqMapSome (b : Nat) (w : World) : (binOp .eql 210 (.map (some b)) (.map none)).run Tryz.prog w = .ok (.bool false) w := by kernel_rfl
theorem eqMapNone (w : World) : (binOp .eql 210 (.map none) (.map none)).run Tryz.prog w = .ok (.bool true) w := by kernel_rfl
def touchOk (id timeout now : Int) : Prop := 1 ≤ id ∧ 1 ≤ timeout ∧ 0 ≤ now ∧ now ≤ 1152921504606846976
theorem step_wf {tick timeout now : Int} (h1 : 1 ≤ tick) (h2 : tick ≤ 1099511627776) (ht : 1 ≤ timeout) (ht2 : timeout ≤ 2147483647) (hn : 0 ≤ now) (hn2 : now ≤ 1152921504606846976) :
    0 ≤ (now + timeout) / tick ∧ (now + timeout) / tick ≤ 1152921506754330623 ∧ wfI (stepK tick timeout now) ∧ 0 ≤ stepK tick timeout now ∧ stepK tick timeout now ≤ 1153922604606846976 := by
  have a := Int.ediv_nonneg (show 0 ≤ now + timeout by omega) (show 0 ≤ tick by omega)
  have b := Int.ediv_le_self tick (show 0 ≤ now + timeout by omega)
  have c := stepK_le (tick := tick) (timeout := timeout) (now := now) h1
  have d := stepK_gt (tick := tick) (timeout := timeout) (now := now) h1
  refine ⟨a, by omega, ⟨by omega, by omega⟩, by omega, by omega⟩
set_option maxRecDepth 100000 in
set_option maxHeartbeats 1000000 in
theorem touch_bad (bc : Nat) (id timeout now : Int) (w : World) (hb : ¬ touchOk id timeout now) :
    Calls Tryz.prog 89 #[.pointer (some ⟨bc, 0, none⟩), .int .i64 id, .int .i32 timeout, .int .i64 now] w fun e w' => e = .returned (.int .i64 1) ∧ w = w' := by
  have hc : id < 1 ∨ (¬ id < 1 ∧ timeout < 1) ∨ (¬ id < 1 ∧ ¬ timeout < 1 ∧ now < 0) ∨ (¬ id < 1 ∧ ¬ timeout < 1 ∧ ¬ now < 0 ∧ 1152921504606846976 < now) := by
    unfold touchOk at hb
    by_cases h1 : id < 1
    · exact .inl h1
    by_cases h2 : timeout < 1
    · exact .inr (.inl ⟨h1, h2⟩)
    by_cases h3 : now < 0
    · exact .inr (.inr (.inl ⟨h1, h2, h3⟩))
    by_cases h4 : 1152921504606846976 < now
    · exact .inr (.inr (.inr ⟨h1, h2, h3, h4⟩))
    · exact absurd ⟨by omega, by omega, by omega, by omega⟩ hb
  clear hb
  rcases hc with h1 | ⟨h1, h2⟩ | ⟨h1, h2, h3⟩ | ⟨h1, h2, h3, h4⟩
  all_goals (
    go_enter Tryz.func89, Tryz.ntmps89
    go_wp2_with fail
    go_ret
    exact ⟨rfl, rfl⟩)
set_option maxRecDepth 100000 in
set_option maxHeartbeats 4000000 in
theorem touch_any (tick : Int) (K : List KV) (bc : Nat) (own : List Nat) (id timeout now : Int) (w : World) (h : Clk w tick K bc own) (hok : touchOk id timeout now) (hid : id ≤ 9223372036854775807) (hto : timeout ≤ 2147483647) (ht1 : 1 ≤ tick) (ht2 : tick ≤ 1099511627776) :
    Calls Tryz.prog 89 #[.pointer (some ⟨bc, 0, none⟩), .int .i64 id, .int .i32 timeout, .int .i64 now] w (ClkPost (.int .i64 0) tick (putK K id (stepK tick timeout now)) bc own w) := by
  obtain ⟨bw, bs, lw, ls, h⟩ := h
  obtain ⟨o1, o2, o3, o4⟩ := hok
  obtain ⟨b1, b2, hsw, b4, b5⟩ := step_wf ht1 ht2 o2 hto o3 o4
  have hiw : wfI id := ⟨by omega, hid⟩
  have hst : stepK tick timeout now = ((now + timeout) / tick + 1) * tick := rfl
  have f2 : (now + timeout).tdiv tick = (now + timeout) / tick := Int.tdiv_eq_ediv_of_nonneg (by omega)
  generalize stepK tick timeout now = st at *
  generalize (now + timeout) / tick = q at *
  have k0 : w.cell? ⟨bc, 0, none⟩ = some (.int .i64 tick) := by rw [cellH h.cells]; rfl
  have k1 : w.cell? ⟨bc, 1, none⟩ = some (.map (some bw)) := by rw [cellH h.cells]; rfl
  have k2 : w.cell? ⟨bc, 2, none⟩ = some (.map (some bs)) := by rw [cellH h.cells]; rfl
  have H := Lib.hid h
  have HW := Lib.hid (And.intro hiw hsw)
  have HR := Lib.hid (fun n => h.look hiw (w.drewN n) rfl)
  have HOK := Lib.hid (And.intro ht1 ht2)
  have f5 : (q + 1) * tick = st := hst.symm
  have hti : (tick == 0) = false := by simp; omega
  have f1 : IntKind.i64.wrap (now + timeout) = now + timeout := IntWalk.i64_in _ (by omega)
  have f3 : IntKind.i64.wrap q = q := IntWalk.i64_in _ (by omega)
  have f4 : IntKind.i64.wrap (q + 1) = q + 1 := IntWalk.i64_in _ (by omega)
  have f6 : IntKind.i64.wrap st = st := IntWalk.i64_in _ (by omega)
  clear h hst hsw hiw
  cases hg : getK K id with
  | none =>
    have HG := Lib.hid hg
    rw [hg] at HR
    have HP := Lib.hid (show putK K id st = K ++ [(id, st)] by unfold putK; rw [hg])
    have HI := Lib.hid (fun n => (H.out.of_heap (w' := w.drewN n) (fun _ _ => rfl)).ins HW.out.1 HW.out.2 ((getK_none K id).1 hg))
    clear hg
    · go_enter Tryz.func89, Tryz.ntmps89
      go_wp2_with fail
      go_quiet (fail)
      have r := HR.out nq
      simp only [Option.getD_none, Option.isSome_none] at r
      obtain ⟨w1, r1, k3, hor⟩ := HI.out nq
      have hq1 := eqMapSome
      have hq2 := eqMapNone
      rcases hor with ⟨b, w2, r2, r3, hC, hF⟩ | ⟨w2, w3, r2, r3, k4, r4, r5, ⟨own2, hC, hs2⟩, hF⟩
      · unfold unitV at r3
        have HC := Lib.hid hC; have HF := Lib.hid hF
        clear hC hF
        go_wp2_with fail
        go_ret
        exact ⟨rfl, ⟨own, by rw [HP.out]; exact HC.out, fun g hg => .inl hg⟩, (Fr.drewN own w nq).trans HF.out (fun g hg => .inl hg)⟩
      · unfold unitV at r5
        have hmm := @run_makeMap Tryz.prog
        have HC := Lib.hid hC; have HF := Lib.hid hF; have HS := Lib.hid hs2
        clear hC hF hs2
        go_wp2_with fail
        go_ret
        exact ⟨rfl, ⟨own2, by rw [HP.out]; exact HC.out, HS.out⟩, (Fr.drewN own w nq).trans HF.out (fun g hg => .inl hg)⟩
  | some old =>
    have HG := Lib.hid hg
    rw [hg] at HR
    clear hg
    by_cases hso : st ≤ old
    · have HP := Lib.hid (show putK K id st = K by unfold putK; rw [HG.out]; simp only; rw [if_pos hso])
      go_enter Tryz.func89, Tryz.ntmps89
      go_wp2_with fail
      go_quiet (fail)
      have r := HR.out nq
      simp only [Option.getD_some, Option.isSome_some] at r
      go_wp2_with fail
      go_ret
      exact ⟨rfl, ⟨own, ⟨_, _, _, _, by rw [HP.out]; exact H.out.of_heap fun _ _ => rfl⟩, fun g hg => .inl hg⟩, Fr.drewN _ _ _⟩
    · have HP := Lib.hid (show putK K id st = dropK K id ++ [(id, st)] by unfold putK; rw [HG.out]; simp only; rw [if_neg hso])
      have hso2 : old < st := by omega
      have HC0 := Lib.hid (fun n => (⟨bw, bs, lw, ls, H.out.of_heap fun _ _ => rfl⟩ : Clk (w.drewN n) tick K bc own))
      go_enter Tryz.func89, Tryz.ntmps89
      go_wp2_with fail
      go_quiet (fail)
      have r := HR.out nq
      simp only [Option.getD_some, Option.isSome_some] at r
      go_wp2_with fail
      go_at_call 123
      refine (leave_any tick K bc own id old _ (HC0.out nq) (getK_mem K id old HG.out)).mono ?_
      rintro e wl ⟨rfl, ⟨own1, ⟨bw1, bs1, lw1, ls1, hC1⟩, hs1⟩, hF1⟩
      have k1 : wl.cell? ⟨bc, 1, none⟩ = some (.map (some bw1)) := by rw [cellH hC1.cells]; rfl
      have k2 : wl.cell? ⟨bc, 2, none⟩ = some (.map (some bs1)) := by rw [cellH hC1.cells]; rfl
      obtain ⟨w1, r1, k3, hor⟩ := hC1.ins HW.out.1 HW.out.2 drop_ne
      have HS1 := Lib.hid hs1; have HF1 := Lib.hid hF1
      clear hC1 hs1 hF1
      have hq1 := eqMapSome
      have hq2 := eqMapNone
      rcases hor with ⟨b, w2, r2, r3, hC, hF⟩ | ⟨w2, w3, r2, r3, k4, r4, r5, ⟨own2, hC, hs2⟩, hF⟩
      · unfold unitV at r3
        have HC := Lib.hid hC; have HF := Lib.hid hF
        clear hC hF
        go_wp2_with fail
        go_ret
        exact ⟨rfl, ⟨own1, by rw [HP.out]; exact HC.out, fun g hg => .inl (HS1.out g hg)⟩, ((Fr.drewN own w nq).trans HF1.out (fun g hg => .inl hg)).trans HF.out (fun g hg => .inl (HS1.out g hg))⟩
      · unfold unitV at r5
        have hmm := @run_makeMap Tryz.prog
        have HC := Lib.hid hC; have HF := Lib.hid hF; have HS := Lib.hid hs2
        clear hC hF hs2
        go_wp2_with fail
        go_ret
        exact ⟨rfl, ⟨own2, by rw [HP.out]; exact HC.out, fun g hg => (HS.out g hg).elim (fun h1 => .inl (HS1.out g h1)) (fun h2 => .inr (Nat.le_trans HF1.out.size h2))⟩, ((Fr.drewN own w nq).trans HF1.out (fun g hg => .inl hg)).trans HF.out (fun g hg => .inl (HS1.out g hg))⟩
end Go.Proofs.YtbpmmmnphpkdjaaGreatDoor
namespace Go.Proofs.YtbpmmmnphpkdjaaGreatDoor
open Go.RowKit Go.MapKept Go.Maps
def idsAt (K : List KV) (s : Int) : List Int := sortI ((K.filter fun x => decide (x.2 = s)).map (·.1))
theorem mem_sortI {l : List Int} {x : Int} : x ∈ sortI l ↔ x ∈ l := (sortI_perm l).mem_iff
theorem sortI_sorted (l : List Int) : (sortI l).Pairwise (fun a b => a ≤ b) := by
  have := List.pairwise_mergeSort (le := leI) (fun a b c h1 h2 => by simp only [leI, decide_eq_true_eq] at *; exact Int.le_trans h1 h2) (fun a b => by simp only [leI, Bool.or_eq_true, decide_eq_true_eq]; exact Int.le_total a b) l
  exact this.imp fun h => by simpa [leI] using h
theorem sortI_congr {l l' : List Int} (h : l.Perm l') : sortI l = sortI l' := mergeSort_of_perm_i h
theorem mem_idsAt {K : List KV} {s i : Int} : i ∈ idsAt K s ↔ (i, s) ∈ K := by
  unfold idsAt
  rw [mem_sortI, List.mem_map]
  constructor
  · rintro ⟨x, hx, rfl⟩
    obtain ⟨h1, h2⟩ := List.mem_filter.1 hx
    have h2 : x.2 = s := by simpa using h2
    rw [← h2]; exact h1
  · intro h
    exact ⟨(i, s), List.mem_filter.2 ⟨h, by simp⟩, rfl⟩
/-- what has been told behind the first k steps -/
def toldK (K : List KV) (S : List Int) (k : Nat) : List Int := (S.take k).flatMap (idsAt K)
def leftK (K : List KV) (S : List Int) (k : Nat) : List KV := K.filter fun x => decide (x.2 ∉ S.take k)
def cutK (K : List KV) (ids : List Int) (j : Nat) : List KV := K.filter fun x => decide (x.1 ∉ ids.take j)
theorem take_bang {l : List Int} {k : Nat} (h : k < l.length) : l.take (k + 1) = l.take k ++ [l[k]!] := by
  rw [getElem!_pos l k h, List.take_succ_eq_append_getElem h]
theorem cutK_succ (K : List KV) (ids : List Int) (j : Nat) (h : j < ids.length) : dropK (cutK K ids j) ids[j]! = cutK K ids (j + 1) := by
  unfold dropK cutK
  rw [List.filter_filter]
  refine List.filter_congr fun x _ => ?_
  rw [take_bang h]
  by_cases h1 : x.1 ∈ ids.take j <;> by_cases h2 : x.1 = ids[j]! <;> simp [h1, h2]
theorem cutK_zero (K : List KV) (ids : List Int) : cutK K ids 0 = K := by unfold cutK; simp
theorem cut_left {K : List KV} {S : List Int} {k : Nat} (h1 : OneK K) (hk : k < S.length) : cutK (leftK K S k) (idsAt (leftK K S k) S[k]!) (idsAt (leftK K S k) S[k]!).length = leftK K S (k + 1) := by
  unfold cutK
  rw [List.take_length]
  have e0 : ∀ f : KV → Bool, (leftK K S k).filter f = K.filter (fun x => f x && decide (x.2 ∉ S.take k)) := fun f => by unfold leftK; rw [List.filter_filter]
  rw [e0]
  conv => rhs; unfold leftK
  refine List.filter_congr fun x hx => ?_
  rw [take_bang hk, Bool.eq_iff_iff]
  simp only [Bool.and_eq_true, decide_eq_true_eq, List.mem_append, List.mem_singleton, not_or]
  by_cases h2 : x.2 ∈ S.take k
  · exact ⟨fun h => absurd h2 h.2, fun h => absurd h2 h.1⟩
  · have hm : x.1 ∈ idsAt (leftK K S k) S[k]! ↔ x.2 = S[k]! := by
      rw [mem_idsAt]
      unfold leftK
      rw [List.mem_filter]
      constructor
      · rintro ⟨h3, _⟩
        have a := getK_of K x.1 _ h1 h3
        have b := getK_of K x.1 x.2 h1 hx
        rw [a] at b
        injection b with b
        exact b.symm
      · intro e
        rw [← e]
        exact ⟨hx, by simpa using h2⟩
    rw [hm]
    exact And.comm
theorem idsAt_left {K : List KV} {S : List Int} {k : Nat} (hk : k < S.length) (hS : S.Nodup) : idsAt (leftK K S k) S[k]! = idsAt K S[k]! := by
  unfold idsAt leftK
  congr 2
  rw [List.filter_filter]
  refine List.filter_congr fun x _ => ?_
  rw [Bool.eq_iff_iff]
  simp only [Bool.and_eq_true, decide_eq_true_eq]
  refine ⟨fun h => h.1, fun h => ⟨h, ?_⟩⟩
  rw [h]
  have h2 := hS.sublist (List.take_sublist (k + 1) S)
  rw [take_bang hk, List.nodup_append] at h2
  exact fun hm => h2.2.2 _ hm _ (by simp) rfl
theorem toldK_succ (K : List KV) (S : List Int) (k : Nat) (hk : k < S.length) : toldK K S (k + 1) = toldK K S k ++ idsAt K S[k]! := by
  unfold toldK
  rw [take_bang hk, List.flatMap_append, List.flatMap_singleton]
theorem nodup_idsAt {K : List KV} (h : OneK K) (s : Int) : (idsAt K s).Nodup := (sortI_perm _).nodup_iff.2 (oneK_filter h _)
theorem told_mem {K : List KV} {S : List Int} {k : Nat} {i : Int} : i ∈ toldK K S k ↔ ∃ s, s ∈ S.take k ∧ (i, s) ∈ K := by
  unfold toldK
  rw [List.mem_flatMap]
  exact ⟨fun ⟨s, h1, h2⟩ => ⟨s, h1, mem_idsAt.1 h2⟩, fun ⟨s, h1, h2⟩ => ⟨s, h1, mem_idsAt.2 h2⟩⟩
theorem told_nodup {K : List KV} (h : OneK K) {S : List Int} (hS : S.Nodup) : ∀ k, k ≤ S.length → (toldK K S k).Nodup
  | 0, _ => by simp [toldK]
  | k + 1, hk => by
    rw [toldK_succ K S k (by omega), List.nodup_append]
    refine ⟨told_nodup h hS k (by omega), nodup_idsAt h _, fun a ha b hb e => ?_⟩
    subst e
    obtain ⟨s, h1, h2⟩ := told_mem.1 ha
    have h3 := mem_idsAt.1 hb
    have a1 := getK_of K _ _ h h2
    have a2 := getK_of K _ _ h h3
    rw [a1] at a2
    injection a2 with a2
    have h4 := hS.sublist (List.take_sublist (k + 1) S)
    rw [take_bang (by omega), List.nodup_append] at h4
    exact h4.2.2 s h1 S[k]! (by simp) a2
theorem told_end {K : List KV} (h : OneK K) {S : List Int} {now : Int} {k : Nat} (hall : ∀ x ∈ K, x.2 ∈ S) (hk : ∀ s ∈ S, s ∈ S.take k ↔ s ≤ now) : leftK K S k = lateK K now ∧ ∀ i, i ∈ toldK K S k ↔ i ∈ overK K now := by
  constructor
  · unfold leftK lateK
    refine List.filter_congr fun x hx => ?_
    have := hk x.2 (hall x hx)
    by_cases h1 : x.2 ≤ now
    · have h2 : ¬ now < x.2 := by omega
      simp [this, h1, h2]
    · have h2 : now < x.2 := by omega
      simp [this, h1, h2]
  · intro i
    rw [told_mem, mem_over h]
    constructor
    · rintro ⟨s, h1, h2⟩
      exact ⟨s, getK_of K i s h h2, (hk s (hall _ h2)).1 h1⟩
    · rintro ⟨s, h1, h2⟩
      have h3 := getK_mem K i s h1
      exact ⟨s, (hk s (hall _ h3)).2 h2, h3⟩
theorem take_le {S : List Int} (hS : S.Pairwise (fun a b => a ≤ b)) {now : Int} {k : Nat} (hk : ∀ j, j < k → S[j]! ≤ now) (hke : k ≤ S.length) (hend : k = S.length ∨ (k < S.length ∧ now < S[k]!)) : ∀ s ∈ S, s ∈ S.take k ↔ s ≤ now := by
  intro s hs
  constructor
  · intro h
    obtain ⟨j, hj, e⟩ := List.getElem_of_mem h
    rw [List.getElem_take] at e
    have hj1 : j < k := by rw [List.length_take] at hj; omega
    have := hk j hj1
    rw [getElem!_pos S j (by omega), e] at this
    exact this
  · intro h
    obtain ⟨j, hj, rfl⟩ := List.getElem_of_mem hs
    rcases hend with he | ⟨he1, he2⟩
    · rw [he, List.take_length]; exact List.getElem_mem _
    · by_cases hjk : j < k
      · exact List.mem_take_iff_getElem.2 ⟨j, by omega, rfl⟩
      · exfalso
        rw [getElem!_pos S k he1] at he2
        rcases Nat.lt_or_eq_of_le (Nat.le_of_not_lt hjk) with h3 | h3
        · have := List.pairwise_iff_getElem.1 hS k j he1 hj h3
          omega
        · subst h3; omega
theorem told_ord {K : List KV} (h : OneK K) {S : List Int} (hS : S.Nodup) (hSS : S.Pairwise (fun a b => a ≤ b)) (k : Nat) : (toldK K S k).Pairwise (ltI K) := by
  unfold toldK
  rw [List.pairwise_flatMap]
  constructor
  · intro s _
    have h1 : (idsAt K s).Pairwise (fun a b => a ≤ b) := sortI_sorted _
    have h2 : (idsAt K s).Pairwise (fun a b => a ≠ b) := nodup_idsAt h s
    have h3 := List.pairwise_and_iff.2 ⟨h1, h2⟩
    refine (List.Pairwise.and_mem.1 h3).imp fun {a b} hh => ?_
    obtain ⟨ha, hb, h4, h5⟩ := hh
    exact ⟨s, s, mem_idsAt.1 ha, mem_idsAt.1 hb, .inr ⟨rfl, by simp only; omega⟩⟩
  · have h3 : S.Pairwise (fun a b => a ≤ b ∧ a ≠ b) := List.pairwise_and_iff.2 ⟨hSS, hS⟩
    refine (h3.sublist (List.take_sublist k S)).imp fun {a b} hh x hx y hy => ?_
    exact ⟨a, b, mem_idsAt.1 hx, mem_idsAt.1 hy, .inl (by simp only; omega)⟩
def ExpPost (tick : Int) (K : List KV) (bc : Nat) (own : List Nat) (now : Int) (w : World) (e : Ending) (w' : World) : Prop :=
  (∃ E v, e = .returned v ∧ RowI w' w.heap.size v E ∧ (∀ i, i ∈ E ↔ i ∈ overK K now) ∧ E.Nodup) ∧ (∃ own', Clk w' tick (lateK K now) bc own' ∧ ∀ g ∈ own', g ∈ own ∨ w.heap.size ≤ g) ∧ Fr own w w'
def ExpPost2 (tick : Int) (K : List KV) (bc : Nat) (own : List Nat) (now : Int) (w : World) (e : Ending) (w' : World) : Prop :=
  (∃ E v, e = .returned v ∧ RowI w' w.heap.size v E ∧ (∀ i, i ∈ E ↔ i ∈ overK K now) ∧ E.Nodup ∧ E.Pairwise (ltI K)) ∧ (∃ own', Clk w' tick (lateK K now) bc own' ∧ ∀ g ∈ own', g ∈ own ∨ w.heap.size ≤ g) ∧ Fr own w w'
theorem ClockIs.lookStep {w : World} {tick : Int} {K : List KV} {bc bw bs : Nat} {lw : List KV} {ls : List (Int × Nat)} {own : List Nat} (h : ClockIs w tick K bc bw bs lw ls own) {s : Int} {b : Nat} (hb : (s, b) ∈ ls) (hs : wfI s) :
    ∀ w' : World, w'.heap[bs]? = w.heap[bs]? → (Instr.lookup 205 (.map (some bs)) (.int .i64 s) false).run Tryz.prog w' = .ok (.map (some b)) w' := by
  rcases h.ms.lookup Tryz.underlying205 false zInner hs with ⟨v, hv, hr⟩ | ⟨hn, _⟩
  · obtain ⟨x, hx, ex⟩ := List.mem_map.1 hv
    have e1 : x.1 = s := congrArg Prod.fst ex
    have e2 : Value.map (some x.2) = v := congrArg Prod.snd ex
    have e3 := fst_inj h.steps hx hb e1
    rw [e3] at e2
    rw [← e2] at hr
    exact hr
  · exact absurd rfl (hn (s, .map (some b)) (List.mem_map.2 ⟨(s, b), hb, rfl⟩))
theorem inner_ids {w : World} {tick : Int} {K : List KV} {bc bw bs : Nat} {lw : List KV} {ls : List (Int × Nat)} {own : List Nat} (h : ClockIs w tick K bc bw bs lw ls own) {s : Int} {b : Nat} (hb : (s, b) ∈ ls) :
    ∃ ids : List Int, MapI w b (ids.map fun i => (i, unitV)) ∧ sortI ids = idsAt K s ∧ ids.length ≤ K.length := by
  obtain ⟨ids, _, i2, i3⟩ := h.inner _ hb
  have hnd : ids.Nodup := by
    have := i2.apart
    rw [List.map_map] at this
    have e : ids.map ((fun x : Int × Value => x.1) ∘ fun i => (i, unitV)) = ids := by simp [Function.comp_def]
    rwa [e] at this
  have hp : ids.Perm ((K.filter fun x => decide (x.2 = s)).map (·.1)) := by
    refine (List.perm_ext_iff_of_nodup hnd (oneK_filter h.one _)).2 fun i => ?_
    rw [i3, List.mem_map]
    constructor
    · intro hm
      exact ⟨(i, s), List.mem_filter.2 ⟨hm, by simp⟩, rfl⟩
    · rintro ⟨x, hx, rfl⟩
      obtain ⟨h1, h2⟩ := List.mem_filter.1 hx
      have h2 : x.2 = s := by simpa using h2
      show (x.1, s) ∈ K
      rw [← h2]; exact h1
  refine ⟨ids, i2, sortI_congr hp, ?_⟩
  rw [hp.length_eq, List.length_map]
  exact List.length_filter_le _ _
theorem nodup_len : ∀ (l m : List Int), l.Nodup → (∀ x ∈ l, x ∈ m) → l.length ≤ m.length
  | [], _, _, _ => Nat.zero_le _
  | a :: l, m, h, hs => by
    rw [List.nodup_cons] at h
    have ha : a ∈ m := hs a (List.mem_cons_self ..)
    have ih := nodup_len l (m.erase a) h.2 (fun x hx => (List.mem_erase_of_ne (show x ≠ a from fun e => h.1 (by rw [← e]; exact hx))).2 (hs x (List.mem_cons_of_mem _ hx)))
    rw [List.length_erase_of_mem ha] at ih
    have : 0 < m.length := List.length_pos_of_mem ha
    rw [List.length_cons]
    omega
theorem exp_close {tick : Int} {K : List KV} {S : List Int} {bc : Nat} {own own1 : List Nat} {now : Int} {w w1 wr : World} {v : Value} {k : Nat} (hone : OneK K) (hSN : S.Nodup) (hSS : S.Pairwise (fun a b => a ≤ b)) (hSM : ∀ s, s ∈ S ↔ ∃ x ∈ K, x.2 = s)
    (hk : k ≤ S.length) (hlow : ∀ j, j < k → S[j]! ≤ now) (hend : k = S.length ∨ (k < S.length ∧ now < S[k]!)) (hrow : RowI wr w1.heap.size v (toldK K S k)) (hclk : Clk wr tick (leftK K S k) bc own1) (hown : ∀ g ∈ own1, g ∈ own) (hfr : Fr own w wr) (hle : w.heap.size ≤ w1.heap.size) :
    ExpPost2 tick K bc own now w (.returned v) wr := by
  obtain ⟨e1, e2⟩ := told_end hone (fun x hx => (hSM x.2).2 ⟨x, hx, rfl⟩) (take_le hSS hlow hk hend)
  refine ⟨⟨toldK K S k, v, rfl, ?_, e2, told_nodup hone hSN k hk, told_ord hone hSN hSS k⟩, ⟨own1, by rw [← e1]; exact hclk, fun g hg => .inl (hown g hg)⟩, hfr⟩
  exact ⟨hrow.1, hrow.2.imp (fun x => x) fun ⟨g, cap, cur, a, b, r⟩ => ⟨g, cap, cur, a, Nat.le_trans hle b, r⟩⟩
theorem Fr.grown {own : List Nat} {w wr w5 : World} {row : Option Nat} (h : Fr own w wr) (hg : wr.grownBy w5 row) (hr : ∀ k, row = some k → w.heap.size ≤ k) : Fr own w w5 :=
  ⟨hg.os.trans h.os, hg.tape.trans h.tape, hg.output.trans h.output, Nat.le_trans h.size hg.size, fun g hlt hn => (hg.block g (Nat.lt_of_lt_of_le hlt h.size) (fun e => by have := hr g e.symm; omega)).trans (h.block g hlt hn)⟩
theorem told_len {K : List KV} (h : OneK K) {S : List Int} (hS : S.Nodup) {k : Nat} (hk : k ≤ S.length) : (toldK K S k).length ≤ K.length := by
  have := nodup_len (toldK K S k) (K.map (·.1)) (told_nodup h hS k hk) (fun i hi => by
    obtain ⟨s, _, h2⟩ := told_mem.1 hi
    exact List.mem_map.2 ⟨_, h2, rfl⟩)
  rwa [List.length_map] at this
def ExR (tick : Int) (K : List KV) (S : List Int) (bc : Nat) (own : List Nat) (now : Int) (w w1 : World) (A1 : Option Addr) (c1 : Nat) (v i : Value) (wr : World) : Prop := ∃ (k : Nat) (own' : List Nat) (A : Option Addr) (c : Nat), i = .int .i64 ↑k ∧ v = .slice A (toldK K S k).length c ∧ k ≤ S.length ∧ (∀ j, j < k → S[j]! ≤ now) ∧
  RowI wr w1.heap.size (.slice A (toldK K S k).length c) (toldK K S k) ∧ Clk wr tick (leftK K S k) bc own' ∧ (∀ g ∈ own', g ∈ own) ∧ Fr own w wr ∧ wr.ownsRow (w.heap.size + 1) 2 1 (.slice A1 S.length c1) S.length (S.map encZ) ∧ w1.heap.size ≤ wr.heap.size
def InR (tick : Int) (Kc : List KV) (ids : List Int) (bc : Nat) (own : List Nat) (w2 : World) (i : Value) (wr : World) : Prop := ∃ (j : Nat) (own' : List Nat), i = .int .i64 ↑j ∧ j ≤ ids.length ∧ Clk wr tick (cutK Kc ids j) bc own' ∧ (∀ g ∈ own', g ∈ own) ∧ Fr own w2 wr
set_option maxRecDepth 100000 in
set_option maxHeartbeats 4000000 in
theorem expired_ord (tick : Int) (K : List KV) (bc : Nat) (own : List Nat) (now : Int) (w : World) (h : Clk w tick K bc own) (hlen : K.length ≤ 2097152) :
    Calls Tryz.prog 92 #[.pointer (some ⟨bc, 0, none⟩), .int .i64 now] w (ExpPost2 tick K bc own now w) := by
  have H := Lib.hid h
  have HONE := Lib.hid h.one
  obtain ⟨bw, bs, lw, ls, h⟩ := h
  have k2 : w.cell? ⟨bc, 2, none⟩ = some (.map (some bs)) := by rw [cellH h.cells]; rfl
  have hsub : ∀ s, s ∈ ls.map (·.1) ↔ ∃ x ∈ K, x.2 = s := fun s => by
    rw [List.mem_map]
    constructor
    · rintro ⟨x, hx, rfl⟩
      obtain ⟨ids, i1, _, i3⟩ := h.inner x hx
      obtain ⟨i, hi⟩ := List.exists_mem_of_ne_nil ids i1
      exact ⟨_, (i3 i).1 hi, rfl⟩
    · rintro ⟨x, hx, rfl⟩
      obtain ⟨b, hb⟩ := h.all x hx
      exact ⟨_, hb, rfl⟩
  have hlsl : ls.length ≤ 2097152 := by
    have h1 : ((ls.map (·.1))).length ≤ (K.map (·.2)).length := nodup_len _ _ h.steps fun s hs => by
      obtain ⟨x, hx, e⟩ := (hsub s).1 hs
      exact List.mem_map.2 ⟨x, hx, e⟩
    rw [List.length_map, List.length_map] at h1
    omega
  have cS := sortedA_any bs _ w h.ms (by rw [List.length_map]; omega)
  rw [List.map_map] at cS
  obtain ⟨S, HS⟩ : ∃ S, Hid (sortI (ls.map (·.1)) = S) := ⟨_, Lib.hid rfl⟩
  have e : sortI (ls.map ((fun x => x.1) ∘ fun x => (x.1, Value.map (some x.2)))) = S := HS.out
  rw [e] at cS
  have HSN := Lib.hid (show S.Nodup by rw [← HS.out]; exact (sortI_perm _).nodup_iff.2 h.steps)
  have HSS := Lib.hid (show S.Pairwise (fun a b => a ≤ b) by rw [← HS.out]; exact sortI_sorted _)
  have HSM := Lib.hid (show ∀ s, s ∈ S ↔ ∃ x ∈ K, x.2 = s by intro s; rw [← HS.out, mem_sortI]; exact hsub s)
  have HSL := Lib.hid (show S.length ≤ 2097152 by rw [← HS.out, (sortI_perm _).length_eq, List.length_map]; exact hlsl)
  have HWF := Lib.hid h.wf
  have HLT := Lib.hid H.out.lt
  have cK := keysA_any (some bs) w
  clear e hsub h
  go_enter Tryz.func92, Tryz.ntmps92
  go_wp2_with fail
  refine cK.mono ?_
  rintro e w' ⟨rfl, rfl⟩
  go_wp2_with fail
  refine cS.mono ?_
  rintro e w1 ⟨A1, c1, rfl, hv1, hb1⟩
  rw [World.size_alloc] at hv1 hb1
  have HV1 := Lib.hid hv1
  have hbw1 : Below w.heap.size w w1 := ((Below.refl _ w).alloc (Nat.le_refl _) _).trans (hb1.mono (by omega))
  have HB1 := Lib.hid hbw1
  have HZ1 := Lib.hid hb1.size
  clear hv1 hb1 hbw1 cK cS k2
  go_wp2_with fail
  go_loopw [5, 20] (fun v i wr => ExR tick K S bc own now w w1 A1 c1 v i wr) (fun _ i _ => S.length - (intOf i).toNat)
  case atStart => exact ⟨0, own, none, 0, rfl, by simp [toldK], Nat.zero_le _, fun j hj => absurd hj (by omega), by simpa [RowI, toldK] using World.ownsRow_nil w1 w1.heap.size 2 1, by
      have : leftK K S 0 = K := by unfold leftK; simp
      rw [this]; exact H.out.below HB1.out, fun g hg => hg, Fr.of_below HB1.out, HV1.out, Nat.le_refl _⟩
  case round =>
    obtain ⟨k, own1, A, c, rfl, rfl, hk, hlow, hrow, hclk, hown, hfr, hvS, hsz⟩ := hrel
    have hSL := HSL.out
    by_cases hlt : k < S.length
    · obtain ⟨g1, hA1, hg1, z1⟩ := row_at hvS rfl hlt
      subst hA1
      have hkl : ((k : Nat) : Int) < (S.length : Int) := by omega
      by_cases hnow : now < S[k]!
      · have HC := Lib.hid (exp_close HONE.out HSN.out HSS.out HSM.out hk hlow (.inr ⟨hlt, hnow⟩) hrow hclk hown hfr HB1.out.size)
        generalize S[k]! = s at *
        clear hlow hrow hclk hown hfr hvS
        go_wp2_with fail
        go_ret
        exact HC.out
      · have hmS : S[k]! ∈ S := by rw [getElem!_pos S k hlt]; exact List.getElem_mem _
        obtain ⟨x, hxK, hxs⟩ := (HSM.out S[k]!).1 hmS
        have hws : wfI S[k]! := by rw [← hxs]; exact (HWF.out x hxK).2
        have hxL : x ∈ leftK K S k := by
          unfold leftK
          rw [List.mem_filter]
          refine ⟨hxK, ?_⟩
          rw [hxs]
          have h2 := HSN.out.sublist (List.take_sublist (k + 1) S)
          rw [take_bang hlt, List.nodup_append] at h2
          simpa using fun hm => h2.2.2 _ hm S[k]! (by simp) rfl
        have HCL := Lib.hid hclk
        have hltc := hclk.lt
        obtain ⟨bw2, bs2, lw2, ls2, hC⟩ := hclk
        obtain ⟨b, hb⟩ := hC.all x hxL
        rw [hxs] at hb
        have r1 := hC.lookStep hb hws wr rfl
        have k2 : wr.cell? ⟨bc, 2, none⟩ = some (.map (some bs2)) := by rw [cellH hC.cells]; rfl
        obtain ⟨ids, i1, i2, i3⟩ := inner_ids hC hb
        have cK := keysB_any (some b) wr
        have hLK : (leftK K S k).length ≤ K.length := List.length_filter_le _ _
        have cS := sortedB_any b _ wr i1 (by rw [List.length_map]; omega)
        rw [List.map_map] at cS
        have ei : sortI (ids.map ((fun x => x.1) ∘ fun i => (i, unitV))) = idsAt (leftK K S k) S[k]! := by
          rw [← i2]
          congr 1
          simp [Function.comp_def]
        rw [ei] at cS
        have HCUT := Lib.hid (cut_left (S := S) (k := k) HONE.out hlt)
        have HID := Lib.hid (idsAt_left (K := K) (S := S) (k := k) hlt HSN.out)
        have HTOLD := Lib.hid (toldK_succ K S k hlt)
        have HLOW := Lib.hid (show ∀ j, j < k + 1 → S[j]! ≤ now from fun j hj => by rcases Nat.lt_succ_iff_lt_or_eq.1 hj with h2 | rfl; exact hlow j h2; omega)
        have HIN := Lib.hid (fun i => (mem_idsAt (K := leftK K S k) (s := S[k]!) (i := i)).1)
        have HIL : Hid ((idsAt (leftK K S k) S[k]!).length ≤ 2097152) := Lib.hid (by
          rw [← i2, (sortI_perm ids).length_eq]; omega)
        have HLN := Lib.hid (show 0 < (idsAt (leftK K S k) S[k]!).length from List.length_pos_of_mem (mem_idsAt.2 (show (x.1, S[k]!) ∈ leftK K S k by rw [← hxs]; exact hxL)))
        have HTL := Lib.hid (Nat.le_trans (told_len HONE.out HSN.out hk) hlen)
        have HIDN := Lib.hid (nodup_idsAt hC.one S[k]!)
        have HIW := Lib.hid (show ∀ i ∈ idsAt (leftK K S k) S[k]!, wfI i from fun i hi => (hC.wf _ (mem_idsAt.1 hi)).1)
        have HROW := Lib.hid hrow
        have HOWN := Lib.hid hown
        have HFR := Lib.hid hfr
        have HVS := Lib.hid hvS
        have HSZ := Lib.hid hsz
        have HNL := Lib.hid (show ∀ g ∈ own, g < w.heap.size from HLT.out)
        generalize hL : idsAt (leftK K S k) S[k]! = L at *
        generalize hs : S[k]! = s at *
        have hnl : L.length ≤ 2097152 := HIL.out
        clear hC hb i1 i2 i3 ei hrow hown hfr hvS hsz hxL hxs hxK hmS hlow hltc hLK
        go_wp2_with fail
        refine cK.mono ?_
        rintro e w' ⟨rfl, rfl⟩
        go_wp2_with fail
        refine cS.mono ?_
        rintro e w2 ⟨A2, c2, rfl, hv2, hb2⟩
        rw [World.size_alloc] at hv2 hb2
        have hbw2 : Below wr.heap.size wr w2 := ((Below.refl _ wr).alloc (Nat.le_refl _) _).trans (hb2.mono (by omega))
        have HB2 := Lib.hid hbw2
        have HV2 := Lib.hid hv2
        clear hv2 hb2 hbw2 cK cS k2 r1
        have HCW := Lib.hid (HCL.out.below HB2.out)
        go_wp2_with fail
        go_loopw [37] (fun i wr3 => InR tick (leftK K S k) L bc own w2 i wr3) (fun i _ => L.length - (intOf i).toNat)
        case atStart => exact ⟨0, own1, rfl, Nat.zero_le _, by rw [cutK_zero]; exact HCW.out, HOWN.out, Fr.refl _ _⟩
        case round =>
          obtain ⟨j, own3, rfl, hj, hclk3, hown3, hfr3⟩ := hrel
          have HC3 := Lib.hid hclk3
          have HO3 := Lib.hid hown3
          have HF3 := Lib.hid hfr3
          have hv3 := own_fr HV2.out hfr3 (fun g hg => by have := HNL.out g hg; have := HFR.out.size; omega)
          clear hclk3 hown3 hfr3
          by_cases hjn : j < L.length
          · obtain ⟨g2, hA2, _, z2⟩ := row_at hv3 rfl hjn
            subst hA2
            have hjn2 : ((j : Nat) : Int) < (L.length : Int) := by omega
            have hmL : L[j]! ∈ L := by rw [getElem!_pos L j (by omega)]; exact List.getElem_mem _
            have HM := Lib.hid (show (L[j]!, s) ∈ cutK (leftK K S k) L j from by
              unfold cutK
              rw [List.mem_filter]
              refine ⟨HIN.out _ hmL, ?_⟩
              have h2 := HIDN.out.sublist (List.take_sublist (j + 1) L)
              rw [take_bang (by omega), List.nodup_append] at h2
              simpa using fun hm => h2.2.2 _ hm L[j]! (by simp) rfl)
            have HS3 := Lib.hid (cutK_succ (leftK K S k) L j (by omega))
            clear hmL hv3
            generalize L[j]! = idj at *
            go_wp2_with fail
            go_at_call 123
            refine (leave_any tick _ bc own3 idj s _ HC3.out HM.out).mono ?_
            rintro e w4 ⟨rfl, ⟨own4, hC4, hs4⟩, hF4⟩
            rw [HS3.out] at hC4
            have HC4 := Lib.hid hC4; have HS4 := Lib.hid hs4; have HF4 := Lib.hid hF4
            clear hC4 hs4 hF4
            go_wp2_with fail
            go_roundw
            case rel => exact ⟨j + 1, own4, by go_num, by omega, HC4.out, fun g hg => HO3.out g (HS4.out g hg), HF3.out.trans HF4.out (fun g hg => .inl (HO3.out g hg))⟩
            case measure => simp [intOf]; omega
          · have hjn2 : j = L.length := by omega
            subst hjn2
            rw [HCUT.out] at HC3
            obtain ⟨g2, hA2, _, _⟩ := row_at hv3 rfl HLN.out
            subst hA2
            have HV3 := Lib.hid hv3; clear hv3
            have hr2 := own_fr HROW.out (Fr.of_below (own := []) HB2.out) (fun g hg => by cases hg)
            have HR3 := Lib.hid (own_fr hr2 HF3.out (fun g hg => by have := HNL.out g hg; have := HB1.out.size; omega))
            have hs2 := own_fr HVS.out (Fr.of_below (own := []) HB2.out) (fun g hg => by cases hg)
            have HS3 := Lib.hid (own_fr hs2 HF3.out (fun g hg => by have := HNL.out g hg; omega))
            have HFW := Lib.hid ((HFR.out.trans (Fr.of_below (own := own) HB2.out) (fun g hg => .inl hg)).trans HF3.out (fun g hg => .inl hg))
            have HW1 := Lib.hid (Nat.le_trans (Nat.le_trans HSZ.out HB2.out.size) HF3.out.size)
            clear hr2 hs2
            obtain ⟨i0, hi0, hz0, hz1, hz2⟩ := info_partsI infoI64
            have hml : (toldK K S k).length + L.length ≤ maxLen := by have := HTL.out; unfold maxLen; omega
            have hby : ((toldK K S k).length + L.length) * 8 ≤ 140737488355328 := by have := HTL.out; omega
            have hone : ∀ u ∈ L.map encZ, u.oneCell' = true := fun u hu => by
              obtain ⟨z, _, rfl⟩ := List.mem_map.1 hu
              rfl
            go_wp2_with (at_builtin; refine wpList_append_own _ rfl _ _ _ rfl w1.heap.size 2 i0 _ 1 8 Tryz.underlying75 hi0 hz0 hz1 hz2 rfl (by decide) (.slice A (toldK K S k).length c) (toldK K S k).length ((toldK K S k).map encZ) rfl HR3.out ⟨g2, 0, none⟩ L.length c2 (L.map encZ) rfl (by rw [List.length_map, Nat.mul_one]) (HV3.out.cells rfl) hone hml hby HW1.out ?hk)
            case hk =>
              intro v' w5 hown5 hgrow5 _
              obtain ⟨A5, c5, rfl⟩ := own_formI hown5
              have hlen5 : (toldK K S k).length + L.length = (toldK K S (k + 1)).length := by rw [HTOLD.out, List.length_append, ← HID.out]
              rw [← List.map_append] at hown5
              have hap : toldK K S k ++ L = toldK K S (k + 1) := by rw [HTOLD.out, ← HID.out]
              rw [hap, hlen5] at hown5
              rw [hlen5]
              have hbk : ∀ q, (Value.slice A (toldK K S k).length c).ownBlock = some q → w1.heap.size ≤ q := fun q hq => (HR3.out.lt q hq).1
              have hc5 : Clk w5 tick (leftK K S (k + 1)) bc own3 := HC3.out.of_heap fun g hg => hgrow5.block g (HC3.out.lt g hg) (fun e => by
                have h1 := hbk g e.symm
                have h2 := HNL.out g (HO3.out g hg)
                have h3 := HB1.out.size
                omega)
              have hf5 : Fr own w w5 := HFW.out.grown hgrow5 (fun q hq => Nat.le_trans HB1.out.size (hbk q hq))
              have hs5 := HS3.out.kept hgrow5 (.inr fun e => by
                have h1 := hbk g1 (by rw [← e]; rfl)
                have h2 := (HV1.out.lt g1 rfl).2
                omega)
              have HX := Lib.hid (And.intro hown5 (And.intro hc5 (And.intro hf5 (And.intro hs5 (Nat.le_trans HW1.out hgrow5.size)))))
              clear hown5 hc5 hf5 hs5 hbk hap hlen5 hgrow5
              go_wp2_with fail
              go_roundw
              case rel => exact ⟨k + 1, own3, A5, c5, by go_num, rfl, by omega, HLOW.out, HX.out.1, HX.out.2.1, HO3.out, HX.out.2.2.1, HX.out.2.2.2.1, HX.out.2.2.2.2⟩
              case measure => simp [intOf]; omega
    · have hke : k = S.length := by omega
      have HC := Lib.hid (exp_close HONE.out HSN.out HSS.out HSM.out hk hlow (.inl hke) hrow hclk hown hfr HB1.out.size)
      clear hlow hrow hclk hown hfr hvS
      go_wp2_with fail
      go_ret
      exact HC.out
theorem expired_any (tick : Int) (K : List KV) (bc : Nat) (own : List Nat) (now : Int) (w : World) (h : Clk w tick K bc own) (hlen : K.length ≤ 2097152) :
    Calls Tryz.prog 92 #[.pointer (some ⟨bc, 0, none⟩), .int .i64 now] w (ExpPost tick K bc own now w) :=
  (expired_ord tick K bc own now w h hlen).mono fun _ _ hh => by
    obtain ⟨⟨E, v, a, b, c, d, _⟩, r⟩ := hh
    exact ⟨⟨E, v, a, b, c, d⟩, r⟩
end Go.Proofs.YtbpmmmnphpkdjaaGreatDoor
