/- What lies in memory for a clock; the walk of (*Clock).leave. Condition: ids and steps are int64. Rows of memory that a caller owns: small words. No condition. append of a list to a list that the caller owns, for any kind of element. No condition but lengths. -/
import Derived.Test.YtbpmmmnphpkdjaaGreatDoorZClkM
import Derived.Lib.Hide
import Derived.Lib.SlicesS
import Derived.LoopTactic
import Derived.BigCall
import Derived.Lib.SlKeysI
import Derived.Laws.AppendOwn
import Derived.Deep.AppendLies
import Derived.Test.YtbpmmmnphpkdjaaGreatDoorZSl
import Derived.Laws.AppendOwnNone
namespace Go.Proofs.YtbpmmmnphpkdjaaGreatDoor
open Go.RowKit Go.MapKept Go.Maps
theorem MapI.len {w : World} {t e : TypeId} {b : Nat} {l : List (Int × Value)} (h : MapI w b l) (ht : Tryz.prog.underlying t = some (.map 2 e)) (ty : TypeId) : (Builtin.len_ #[t] ty #[.map (some b)]).run Tryz.prog w = .ok (.int .i64 l.length) w := by
  obtain ⟨es, clock, hb, _, hl, _⟩ := h
  have e1 : es.size = l.length := by
    have := congrArg List.length hl
    simpa using this
  simp [Builtin.len_, run_underlying ht, MapKept.run_getObj_map hb, Result.andThen, goInt, e1]
theorem cellH {w : World} {b o : Nat} {cs : Array Value} {t : TypeId} {f : Nat × Nat} (h : w.heap[b]? = some (.cells cs t f)) : w.cell? ⟨b, o, none⟩ = cs[o]? := by simp [World.cell?, h]
def unitV : Value := .agg #[]
structure ClockIs (w : World) (tick : Int) (K : List KV) (bc bw bs : Nat) (lw : List KV) (ls : List (Int × Nat)) (own : List Nat) : Prop where
  cells : w.heap[bc]? = some (.cells #[.int .i64 tick, .map (some bw), .map (some bs)] 207 (0, 0))
  mw : MapI w bw (lw.map fun x => (x.1, .int .i64 x.2))
  perm : lw.Perm K
  ms : MapI w bs (ls.map fun x => (x.1, .map (some x.2)))
  inner : ∀ x ∈ ls, ∃ ids : List Int, ids ≠ [] ∧ MapI w x.2 (ids.map fun i => (i, unitV)) ∧ ∀ i, i ∈ ids ↔ (i, x.1) ∈ K
  all : ∀ y ∈ K, ∃ b, (y.2, b) ∈ ls
  own_ : own = bc :: bw :: bs :: ls.map (·.2)
  nod : own.Nodup
  wf : ∀ y ∈ K, wfI y.1 ∧ wfI y.2
theorem ClockIs.one {w : World} {tick : Int} {K : List KV} {bc bw bs : Nat} {lw : List KV} {ls : List (Int × Nat)} {own : List Nat} (h : ClockIs w tick K bc bw bs lw ls own) : OneK K := by
  have := h.mw.apart
  rw [List.map_map] at this
  have e : (lw.map (·.1)).Nodup := this
  exact (h.perm.map (·.1)).nodup_iff.1 e
theorem ClockIs.steps {w : World} {tick : Int} {K : List KV} {bc bw bs : Nat} {lw : List KV} {ls : List (Int × Nat)} {own : List Nat} (h : ClockIs w tick K bc bw bs lw ls own) : (ls.map (·.1)).Nodup := by
  have := h.ms.apart
  rw [List.map_map] at this
  exact this
def Clk (w : World) (tick : Int) (K : List KV) (bc : Nat) (own : List Nat) : Prop := ∃ bw bs lw ls, ClockIs w tick K bc bw bs lw ls own
theorem zInt64 (w : World) : (zeroValue 2).run Tryz.prog w = .ok (.int .i64 0) w := by kernel_rfl
theorem zInner (w : World) : (zeroValue 210).run Tryz.prog w = .ok (.map none) w := by kernel_rfl
/-- a call that turns a clock -/
def ClkPost (v : Value) (tick : Int) (K : List KV) (bc : Nat) (own : List Nat) (w : World) (e : Ending) (w' : World) : Prop :=
  e = .returned v ∧ (∃ own', Clk w' tick K bc own' ∧ ∀ g ∈ own', g ∈ own ∨ w.heap.size ≤ g) ∧ Fr own w w'
theorem ne_of_nodup {bc bw bs : Nat} {l : List Nat} (h : (bc :: bw :: bs :: l).Nodup) : bc ≠ bw ∧ bc ≠ bs ∧ bw ≠ bs ∧ (∀ x ∈ l, x ≠ bc ∧ x ≠ bw ∧ x ≠ bs) ∧ l.Nodup := by
  simp only [List.nodup_cons, List.mem_cons, not_or] at h
  exact ⟨h.1.1, h.1.2.1, h.2.1.1, fun x hx => ⟨fun e => h.1.2.2 (e ▸ hx), fun e => h.2.1.2 (e ▸ hx), fun e => h.2.2.1 (e ▸ hx)⟩, h.2.2.2⟩
theorem fst_inj {α β : Type} : ∀ {l : List (α × β)} {x y : α × β}, (l.map (·.1)).Nodup → x ∈ l → y ∈ l → x.1 = y.1 → x = y
  | z :: r, x, y, h, hx, hy, e => by
    rw [List.map_cons, List.nodup_cons] at h
    rcases List.mem_cons.1 hx with h1 | h1 <;> rcases List.mem_cons.1 hy with h2 | h2
    · rw [h1, h2]
    · exact absurd (List.mem_map.2 ⟨y, h2, by rw [← e, h1]⟩) h.1
    · exact absurd (List.mem_map.2 ⟨x, h1, by rw [e, h2]⟩) h.1
    · exact fst_inj h.2 h1 h2 e
theorem snd_inj {α β : Type} : ∀ {l : List (α × β)} {x y : α × β}, (l.map (·.2)).Nodup → x ∈ l → y ∈ l → x.2 = y.2 → x = y
  | z :: r, x, y, h, hx, hy, e => by
    rw [List.map_cons, List.nodup_cons] at h
    rcases List.mem_cons.1 hx with h1 | h1 <;> rcases List.mem_cons.1 hy with h2 | h2
    · rw [h1, h2]
    · exact absurd (List.mem_map.2 ⟨y, h2, by rw [← e, h1]⟩) h.1
    · exact absurd (List.mem_map.2 ⟨x, h1, by rw [e, h2]⟩) h.1
    · exact snd_inj h.2 h1 h2 e
/-- (*Clock).leave: it lays nothing anew -/
def LeavePost (tick : Int) (K : List KV) (bc : Nat) (own : List Nat) (w : World) (e : Ending) (w' : World) : Prop :=
  e = .returned (.tuple #[]) ∧ (∃ own', Clk w' tick K bc own' ∧ ∀ g ∈ own', g ∈ own) ∧ Fr own w w'
set_option maxRecDepth 100000 in
set_option maxHeartbeats 1000000 in
theorem leave_any (tick : Int) (K : List KV) (bc : Nat) (own : List Nat) (id step : Int) (w : World) (h : Clk w tick K bc own) (hm : (id, step) ∈ K) :
    Calls Tryz.prog 123 #[.pointer (some ⟨bc, 0, none⟩), .int .i64 id, .int .i64 step] w (LeavePost tick (dropK K id) bc own w) := by
  obtain ⟨bw, bs, lw, ls, h⟩ := h
  obtain ⟨hi, hs⟩ := h.wf _ hm
  obtain ⟨b, hb⟩ := h.all _ hm
  obtain ⟨ids, hne, hmi, hids⟩ := h.inner _ hb
  have k0 : w.cell? ⟨bc, 0, none⟩ = some (.int .i64 tick) := by rw [cellH h.cells]; rfl
  have k1 : w.cell? ⟨bc, 1, none⟩ = some (.map (some bw)) := by rw [cellH h.cells]; rfl
  have k2 : w.cell? ⟨bc, 2, none⟩ = some (.map (some bs)) := by rw [cellH h.cells]; rfl
  have hnod := h.nod
  rw [h.own_] at hnod
  obtain ⟨n1, n2, n3, n4, n5⟩ := ne_of_nodup hnod
  obtain ⟨q1, q2, q3⟩ := n4 b (List.mem_map.2 ⟨_, hb, rfl⟩)
  obtain ⟨w1, l1, r1, m1, g1, z1, e1⟩ := h.mw.delete (ty := 0) Tryz.underlying204 hi
  have c1 : w1.heap[bc]? = w.heap[bc]? := g1.block bc (Array.getElem?_eq_some_iff.1 h.cells).1 (fun e => n1 (by injection e))
  have s1 : w1.heap[bs]? = w.heap[bs]? := g1.block bs h.ms.lt (fun e => n3 (by injection e with e; exact e.symm))
  have b1 : w1.heap[b]? = w.heap[b]? := g1.block b hmi.lt (fun e => q2 (by injection e))
  have hlook : ∀ w' : World, w'.heap[bs]? = w.heap[bs]? → (Instr.lookup 205 (.map (some bs)) (.int .i64 step) false).run Tryz.prog w' = .ok (.map (some b)) w' := by
    rcases h.ms.lookup Tryz.underlying205 false zInner hs with ⟨v, hv, hr⟩ | ⟨hn, _⟩
    · obtain ⟨x, hx, ex⟩ := List.mem_map.1 hv
      have e1 : x.1 = step := congrArg Prod.fst ex
      have e2 : Value.map (some x.2) = v := congrArg Prod.snd ex
      have e3 := fst_inj h.steps hx hb e1
      rw [e3] at e2
      rw [← e2] at hr
      exact hr
    · exact absurd rfl (hn (step, .map (some b)) (List.mem_map.2 ⟨(step, b), hb, rfl⟩))
  have r2 := hlook w1 s1
  obtain ⟨w2, l2, r3, m2, g2, z2, e2⟩ := (hmi.of_heap b1).delete (ty := 0) Tryz.underlying210 hi
  have c2 : w2.heap[bc]? = w.heap[bc]? := (g2.block bc (by rw [z1]; exact (Array.getElem?_eq_some_iff.1 h.cells).1) (fun e => q1 (by injection e with e; exact e.symm))).trans c1
  have s2 : w2.heap[bs]? = w.heap[bs]? := (g2.block bs (by rw [z1]; exact h.ms.lt) (fun e => q3 (by injection e with e; exact e.symm))).trans s1
  have r4 := hlook w2 s2
  have r5 := m2.len Tryz.underlying210 3
  have k3 : w1.cell? ⟨bc, 2, none⟩ = some (.map (some bs)) := by rw [cellH (c1.trans h.cells)]; rfl
  have k4 : w2.cell? ⟨bc, 2, none⟩ = some (.map (some bs)) := by rw [cellH (c2.trans h.cells)]; rfl
  have hids2 : ∀ i, i ∈ ids.filter (fun i => decide (i ≠ id)) ↔ (i, step) ∈ dropK K id := fun i => by
    rw [List.mem_filter, mem_drop, hids]
    simp
  have hl2 : l2 = (ids.filter (fun i => decide (i ≠ id))).map (fun i => (i, unitV)) := by rw [e2, List.filter_map]; rfl
  have hl1 : l1 = (dropK lw id).map (fun x => (x.1, Value.int .i64 x.2)) := by rw [e1, List.filter_map]; rfl
  have hperm : (dropK lw id).Perm (dropK K id) := h.perm.filter _
  have hone := h.one
  have hwf : ∀ y ∈ dropK K id, wfI y.1 ∧ wfI y.2 := fun y hy => h.wf y (mem_drop.1 hy).1
  have hinner : ∀ x ∈ ls, x.1 ≠ step → ∃ ids : List Int, ids ≠ [] ∧ MapI w2 x.2 (ids.map fun i => (i, unitV)) ∧ ∀ i, i ∈ ids ↔ (i, x.1) ∈ dropK K id := fun x hx hxs => by
    obtain ⟨js, j1, j2, j3⟩ := h.inner x hx
    obtain ⟨p1, p2, p3⟩ := n4 x.2 (List.mem_map.2 ⟨_, hx, rfl⟩)
    have hxb : x.2 ≠ b := fun e => hxs (congrArg Prod.fst (snd_inj (y := (step, b)) n5 hx hb e))
    refine ⟨js, j1, j2.of_heap ((g2.block x.2 (by rw [z1]; exact j2.lt) (fun e => hxb (by injection e))).trans (g1.block x.2 j2.lt (fun e => p2 (by injection e)))), fun i => ?_⟩
    rw [j3, mem_drop]
    refine ⟨fun hki => ⟨hki, fun e => hxs ?_⟩, fun hki => hki.1⟩
    have e : i = id := e
    subst e
    have h1 := getK_of K i x.1 hone hki
    have h2 := getK_of K i step hone hm
    rw [h1] at h2
    injection h2
  have mw2 : MapI w2 bw ((dropK lw id).map fun x => (x.1, .int .i64 x.2)) := by
    rw [← hl1]
    exact m1.of_heap (g2.block bw m1.lt (fun e => q2 (by injection e with e; exact e.symm)))
  rw [hl2] at m2 r5
  have F2 : Fr own w w2 := (Fr.of_grown (own := own) g1 (by rw [h.own_]; simp)).trans (Fr.of_grown (own := own) g2 (by rw [h.own_]; simp; exact .inr (.inr (.inr ⟨step, hb⟩)))) (fun g hg => .inl hg)
  have hsz2 : w2.heap.size = w.heap.size := by rw [z2, z1]
  by_cases hemp : ids.filter (fun i => decide (i ≠ id)) = []
  · obtain ⟨w3, l3, r6, m3, g3, z3, e3⟩ := (h.ms.of_heap s2).delete (ty := 0) Tryz.underlying205 hs
    have hl3 : l3 = (ls.filter (fun x => decide (x.1 ≠ step))).map (fun x => (x.1, Value.map (some x.2))) := by rw [e3, List.filter_map]; rfl
    rw [hl3] at m3
    have c3 : w3.heap[bc]? = w.heap[bc]? := (g3.block bc (by rw [hsz2]; exact (Array.getElem?_eq_some_iff.1 h.cells).1) (fun e => n2 (by injection e))).trans c2
    have hC : ClockIs w3 tick (dropK K id) bc bw bs (dropK lw id) (ls.filter (fun x => decide (x.1 ≠ step))) (bc :: bw :: bs :: (ls.filter (fun x => decide (x.1 ≠ step))).map (·.2)) := by
      refine ⟨c3.trans h.cells, mw2.of_heap (g3.block bw mw2.lt (fun e => n3 (by injection e))), hperm, m3, fun x hx => ?_, fun y hy => ?_, rfl, ?_, hwf⟩
      · obtain ⟨hx1, hx2⟩ := List.mem_filter.1 hx
        obtain ⟨js, j1, j2, j3⟩ := hinner x hx1 (by simpa using hx2)
        obtain ⟨p1, p2, p3⟩ := n4 x.2 (List.mem_map.2 ⟨_, hx1, rfl⟩)
        exact ⟨js, j1, j2.of_heap (g3.block x.2 j2.lt (fun e => p3 (by injection e))), j3⟩
      · obtain ⟨b', hb'⟩ := h.all y (mem_drop.1 hy).1
        refine ⟨b', List.mem_filter.2 ⟨hb', ?_⟩⟩
        have : y.2 ≠ step := fun e => by
          have : y.1 ∈ ids.filter (fun i => decide (i ≠ id)) := (hids2 y.1).2 (by rw [← e]; exact hy)
          rw [hemp] at this
          cases this
        simpa using this
      · refine hnod.sublist ?_
        exact ((List.Sublist.map _ List.filter_sublist).cons_cons _ |>.cons_cons _ |>.cons_cons _)
    have F3 : Fr own w w3 := F2.trans (Fr.of_grown (own := own) g3 (by rw [h.own_]; simp)) (fun g hg => .inl hg)
    have hsub : ∀ g ∈ (bc :: bw :: bs :: (ls.filter (fun x => decide (x.1 ≠ step))).map (·.2)), g ∈ own := fun g hg => (by
      rw [h.own_]
      exact ((List.Sublist.map _ List.filter_sublist).cons_cons _ |>.cons_cons _ |>.cons_cons _ : List.Sublist _ _).subset hg)
    rw [hemp] at r5
    have HC := Lib.hid hC; have HF := Lib.hid F3; have HS := Lib.hid hsub
    clear h hC F3 hsub hinner hids hids2 hwf hl1 hl2 hl3 hperm hemp hlook mw2 m1 m2 m3 hmi F2 e1 e2 e3
    go_enter Tryz.func123, Tryz.ntmps123
    go_wp2_with fail
    go_end0
    exact ⟨rfl, ⟨_, ⟨_, _, _, _, HC.out⟩, HS.out⟩, HF.out⟩
  · have hC : ClockIs w2 tick (dropK K id) bc bw bs (dropK lw id) ls own := by
      refine ⟨c2.trans h.cells, mw2, hperm, h.ms.of_heap s2, fun x hx => ?_, fun y hy => h.all y (mem_drop.1 hy).1, h.own_, h.nod, hwf⟩
      by_cases hxs : x.1 = step
      · have hxb : x = (step, b) := fst_inj h.steps hx hb hxs
        subst hxb
        exact ⟨_, hemp, m2, hids2⟩
      · exact hinner x hx hxs
    have hlen : (((ids.filter (fun i => decide (i ≠ id))).map (fun i => (i, unitV))).length : Int) ≠ 0 := by
      rw [List.length_map]
      have := List.length_pos_iff.2 hemp
      omega
    generalize ((ids.filter (fun i => decide (i ≠ id))).map (fun i => (i, unitV))).length = ln at *
    have hln : ((ln : Int) == 0) = false := by simpa using hlen
    have HC := Lib.hid hC; have HF := Lib.hid F2
    clear h hC hinner hids hids2 hwf hl1 hl2 hperm hemp hlook mw2 m1 m2 hmi F2 e1 e2 hlen
    go_enter Tryz.func123, Tryz.ntmps123
    go_wp2_with fail
    go_end0
    exact ⟨rfl, ⟨own, ⟨_, _, _, _, HC.out⟩, fun g hg => hg⟩, HF.out⟩
end Go.Proofs.YtbpmmmnphpkdjaaGreatDoor
namespace Go.Proofs.YtbpmmmnphpkdjaaGreatDoor
open Go.RowKit Go.MapKept Go.Maps
/-- the slice holds these numbers -/
def RowI (w : World) (base : Nat) (v : Value) (l : List Int) : Prop := w.ownsRow base 2 1 v l.length (l.map encZ)
theorem infoI64 : (Tryz.prog.info? 2).map (fun i => (i.zero, i.size, i.bytes)) = some (some (.int .i64 0), 1, 8) := by kernel_rfl
theorem info_partsI {T : TypeId} {z : Value} {s b : Nat} (h : (Tryz.prog.info? T).map (fun i => (i.zero, i.size, i.bytes)) = some (some z, s, b)) : ∃ i, Tryz.prog.info? T = some i ∧ i.zero = some z ∧ i.size = s ∧ i.bytes = b := by
  cases hi : Tryz.prog.info? T with
  | none => rw [hi] at h; cases h
  | some i =>
    rw [hi] at h
    simp only [Option.map_some, Option.some.injEq, Prod.mk.injEq] at h
    exact ⟨i, rfl, h.1, h.2.1, h.2.2⟩
theorem own_fr {w w' : World} {base n k : Nat} {e : TypeId} {v : Value} {xs : List Value} {own : List Nat} (h : w.ownsRow base e k v n xs) (hf : Fr own w w') (hb : ∀ g ∈ own, g < base) : w'.ownsRow base e k v n xs := by
  refine ⟨h.1, h.2.imp id fun ⟨g, cap, cur, e1, e2, e3, r⟩ => ⟨g, cap, cur, e1, e2, ?_, r⟩⟩
  exact (hf.block g (Array.getElem?_eq_some_iff.1 e3).1 (fun hm => by have := hb g hm; omega)).trans e3
theorem own_formI {w : World} {base n k : Nat} {T : TypeId} {v : Value} {r : List Value} (h : w.ownsRow base T k v n r) : ∃ A c, v = .slice A n c := by
  rcases h.2 with ⟨e, e2⟩ | ⟨g, cap, cur, e, _⟩
  · subst e e2; exact ⟨none, 0, rfl⟩
  · exact ⟨_, _, e⟩
theorem row_at {w : World} {base n c : Nat} {A : Option Addr} {l : List Int} (h : w.ownsRow base 2 1 (.slice A n c) n (l.map encZ)) (hl : l.length = n) {j : Nat} (hj : j < n) : ∃ g, A = some ⟨g, 0, none⟩ ∧ base ≤ g ∧ w.cell? ⟨g, j, none⟩ = some (.int .i64 l[j]!) := by
  obtain ⟨g, cap, e, h1, h2⟩ := h.form (by omega)
  injection e with e e2 e3
  subst e e3
  refine ⟨g, rfl, h1, ?_⟩
  rw [h.cellAt j (by omega), List.getElem?_map, List.getElem?_eq_getElem (by omega), getElem!_pos l j (by omega)]
  rfl
end Go.Proofs.YtbpmmmnphpkdjaaGreatDoor
namespace Go.Proofs.YtbpmmmnphpkdjaaGreatDoor
open Go.RowKit Go.MapKept Go.Maps
theorem Sl.news {α : Type} [Inhabited α] {w : World} {B : Nat} {enc : α → List Value} {k n : Nat} {a : Addr} {zs : List α} (hk : ∀ x, (enc x).length = k) (hk0 : 0 < k) (h : Sl w B enc k (some a) n zs) :
    ∀ j u, (zs.flatMap enc)[j]? = some u → w.cell? (a.add j) = some u := by
  intro j u hu
  have hlen : (zs.flatMap enc).length = n * k := by
    rw [← h.len]
    exact flat_len hk zs
  have hj : j < n * k := by rw [← hlen]; exact (List.getElem?_eq_some_iff.1 hu).1
  have hn : 0 < n := by rcases Nat.eq_zero_or_pos n with e | e; (rw [e] at hj; omega); exact e
  obtain ⟨b, off, e, hb, hc⟩ := h.2 hn
  injection e with e
  subst e
  have hd : j / k < n := (Nat.div_lt_iff_lt_mul hk0).2 hj
  have hm : j % k < k := Nat.mod_lt _ hk0
  obtain ⟨y, hy⟩ : ∃ y, (enc zs[j / k]!)[j % k]? = some y := ⟨_, List.getElem?_eq_getElem (by rw [hk]; exact hm)⟩
  have h1 := flat_at hk zs (j / k) (j % k) y (by rw [h.len]; exact hd) hy
  have e1 : j / k * k + j % k = j := by rw [Nat.mul_comm]; exact Nat.div_add_mod j k
  rw [e1, hu] at h1
  injection h1 with h1
  subst h1
  have := hc (j / k) hd (j % k) u hy
  rw [Nat.add_assoc, e1] at this
  have e2 : (⟨b, off, none⟩ : Addr).add j = ⟨b, off + j, none⟩ := by
    simp only [Addr.add]; by_cases h0 : j = 0 <;> simp [h0]
  rw [e2]; exact this
theorem own_belowG {w w' : World} {base n : Nat} {T : TypeId} {k : Nat} {v : Value} {r : List Value} (h : w.ownsRow base T k v n r) (hg : w.grownBy w' v.ownBlock) (hb : base ≤ w.heap.size) : Below base w w' := by
  refine (Below.refl base w).grown hg hb (fun j hj => ?_)
  rcases h with ⟨_, ⟨e, e2⟩ | ⟨g, cap, cur, e, hge, _⟩⟩
  · rw [e] at hj; cases hj
  · rw [e] at hj; injection hj with hj; simp only at hj; omega
/-- what is known of a kind of element -/
structure Elem {α : Type} [Inhabited α] (enc : α → List Value) (ST T : TypeId) (k bs : Nat) (z : Value) : Prop where
  under : Tryz.prog.underlying ST = some (.slice T)
  info : (Tryz.prog.info? T).map (fun i => (i.zero, i.size, i.bytes)) = some (some z, k, bs)
  size : z.cells.size = k
  len : ∀ x, (enc x).length = k
  pos : 0 < k
  one : ∀ x u, u ∈ enc x → u.oneCell' = true
  small : bs ≤ 64
theorem wpList_appG {α : Type} [Inhabited α] {enc : α → List Value} {ST T : TypeId} {k bs : Nat} {z : Value} (E : Elem enc ST T k bs z) {ops : Array Oper} {rest : List Oper} {o : Oper} {a : Act} {Q : Exit → Act → World → Prop} {w : World} (hgd : o.guard = none) (s x : Operand)
    (ho : o.op = .call { callee := .builtin .append, args := #[s, x], argTypes := #[ST, ST] }) (base : Nat) (A : Option Addr) (n c : Nat) (l : List α) (hs : a.eval s = .slice A n c)
    (hown : w.ownsRow base T k (.slice A n c) n (l.flatMap enc)) (A' : Option Addr) (m c' : Nat) (l' : List α) (hx : a.eval x = .slice A' m c') (hsl : Sl w w.heap.size enc k A' m l')
    (hA' : A' = none → m = 0 ∧ c' = 0) (hn : n + m ≤ 16777216) (hbase : base ≤ w.heap.size)
    (h : ∀ A2 c2 w', w'.ownsRow base T k (.slice A2 (n + m) c2) (n + m) ((l ++ l').flatMap enc) → Below base w w' → wpList Tryz.prog ops Q rest (a.put o.dst (.slice A2 (n + m) c2)) w') : wpList Tryz.prog ops Q (o :: rest) a w := by
  obtain ⟨i0, hi0, hz0, hz1, hz2⟩ := info_partsI E.info
  cases A' with
  | none =>
    obtain ⟨rfl, rfl⟩ := hA' rfl
    have hl0 : l' = [] := List.length_eq_zero_iff.1 hsl.len
    subst hl0
    refine wpList_append_own_none hgd s x _ ho base _ i0 k E.under hi0 _ n _ hs hown hx ?_
    have := h A c w (by rw [List.append_nil]; exact hown) (Below.refl _ _)
    exact this
  | some a0 =>
    refine wpList_append_own w hgd s x _ ho base T i0 _ k bs E.under hi0 hz0 hz1 hz2 E.size E.pos _ n _ hs hown a0 m c' (l'.flatMap enc) hx (by rw [flat_len E.len, hsl.len]) (Sl.news E.len E.pos hsl) ?_ (by unfold maxLen; omega) ?_ hbase ?_
    · intro u hu
      obtain ⟨x, _, hx⟩ := List.mem_flatMap.1 hu
      exact E.one x u hx
    · have := Nat.mul_le_mul hn E.small
      omega
    · intro v' w' h1 h2 _
      obtain ⟨A2, c2, rfl⟩ := own_formI h1
      refine h A2 c2 w' ?_ (own_belowG hown h2 hbase)
      rw [List.flatMap_append]; exact h1
/-- '[]T{}' -/
theorem own_empty {T : TypeId} {k : Nat} (w : World) : (w.alloc (.cells #[] T)).ownsRow w.heap.size T k (.slice (some ⟨w.heap.size, 0, none⟩) 0 0) 0 [] :=
  ⟨by simp, .inr ⟨w.heap.size, 0, #[], rfl, Nat.le_refl _, (MapKept.heap_alloc _ _).1, Nat.le_refl _, by decide, by simp, by simp⟩⟩
theorem own_later {w w' : World} {base n k : Nat} {T : TypeId} {v : Value} {xs : List Value} (h : w.ownsRow base T k v n xs) (hb : Below w.heap.size w w') : w'.ownsRow base T k v n xs :=
  own_fr h (Fr.of_below (own := []) hb) (by simp)
end Go.Proofs.YtbpmmmnphpkdjaaGreatDoor
