/- A word for a map that the call itself has made: which keys and values it holds, in order of their coming; what a lookup, a store, a delete, a len do. -/
import Derived.Maps.Keyed
import Derived.Carry
import Derived.OwnWalk
import Derived.Maps.OwnSet
import Derived.DeepKeys4
import Derived.WalkKit
import Derived.Below
import Derived.Deep.Draws
import Derived.RowKit
namespace Go.Proofs.YthpjneobmmpbnaaGreatDoor
open Go.RowKit Go.MapKept Go.Maps
open Go.ChangeMaps (setBlock heap_setBlock_same heap_setBlock_other)

/-- block b of w is a map of these keys and values -/
def MapV (w : World) (P : Program) (k : TypeId) (b : Nat) (l : List (Value × Value)) : Prop :=
  ∃ es clock, w.heap[b]? = some (.map es clock) ∧ Stamped es clock ∧ es.toList.map (fun e => (e.key, e.val)) = l ∧ ∀ p ∈ l, ∃ kl, keyOf P k p.1 = some kl

section
variable {P : Program} {w w' : World} {k t e : TypeId} {b : Nat} {l : List (Value × Value)}
theorem MapV.made (w : World) (P : Program) (k : TypeId) : MapV (w.alloc (.map #[] 0)) P k w.heap.size [] :=
  ⟨#[], 0, (heap_alloc w _).1, stamped_empty 0, rfl, fun p hp => absurd hp (by simp)⟩
theorem MapV.lt (h : MapV w P k b l) : b < w.heap.size := by
  obtain ⟨es, clock, hb, _⟩ := h
  exact (Array.getElem?_eq_some_iff.1 hb).1
theorem MapV.of_heap (h : MapV w P k b l) (hh : w'.heap[b]? = w.heap[b]?) : MapV w' P k b l := by
  obtain ⟨es, clock, hb, r⟩ := h
  exact ⟨es, clock, hh.trans hb, r⟩
theorem MapV.kept {row : Option Nat} (h : MapV w P k b l) (hg : w.grownBy w' row) (hne : some b ≠ row) : MapV w' P k b l := h.of_heap (hg.block b h.lt hne)
theorem MapV.below {B : Nat} (h : MapV w P k b l) (hb : Below B w w') (hB : b < B) : MapV w' P k b l := h.of_heap (hb.block b hB)
theorem MapV.drewN (h : MapV w P k b l) (q : Nat) : MapV (w.drewN q) P k b l := h
theorem MapV.alloc (h : MapV w P k b l) (o : Obj) : MapV (w.alloc o) P k b l := h.kept (World.grownBy_alloc w o none) (by simp)
theorem MapV.setCell (h : MapV w P k b l) {p : Addr} (hp : b ≠ p.block) (u : Value) : MapV (w.setCell p u) P k b l := h.of_heap (Below.heap_setCell w p u b hp)
/-- the keys differ -/
theorem MapV.apart (h : MapV w P k b l) : l.Pairwise (fun p q => p.1 ≠ q.1) := by
  obtain ⟨es, clock, _, hs, rfl, _⟩ := h
  rw [List.pairwise_map]
  exact ((stamped_iff es clock).1 hs).2.2

theorem keys_of {es : Array MapEntry} (hl : es.toList.map (fun e => (e.key, e.val)) = l) (hk : ∀ p ∈ l, ∃ kl, keyOf P k p.1 = some kl) : ∀ x ∈ es.toList, ∃ kl, keyOf P k x.key = some kl := by
  intro x hx
  exact hk (x.key, x.val) (by rw [← hl]; exact List.mem_map.2 ⟨x, hx, rfl⟩)

/-- 'v, ok := m[k]' and 'm[k]', in every world in which that block is the same -/
theorem MapV.lookup (h : MapV w P k b l) (K : Keyed P k) (ht : P.underlying t = some (.map k e)) (c : Bool) {z : Value} (hz : ∀ w : World, (zeroValue e).run P w = .ok z w) {key : Value} {kl : Lit} (hkey : keyOf P k key = some kl) :
    (∃ v, (key, v) ∈ l ∧ ∀ w' : World, w'.heap[b]? = w.heap[b]? → (Instr.lookup t (.map (some b)) key c).run P w' = .ok (if c then .tuple #[v, .bool true] else v) w') ∨
    ((∀ p ∈ l, p.1 ≠ key) ∧ ∀ w' : World, w'.heap[b]? = w.heap[b]? → (Instr.lookup t (.map (some b)) key c).run P w' = .ok (if c then .tuple #[z, .bool false] else z) w') := by
  obtain ⟨es, clock, hb, hs, rfl, hk⟩ := h
  by_cases hex : ∃ e0 ∈ es.toList, e0.key = key
  · obtain ⟨e0, he0, hek⟩ := hex
    refine .inl ⟨e0.val, List.mem_map.2 ⟨e0, he0, by rw [hek]⟩, fun w' hw' => ?_⟩
    have hb' := hw'.trans hb
    rcases K.find w' hkey es.toList (keys_of rfl hk) with ⟨h1, h2⟩ | ⟨j, e1, h1, h2, h3⟩
    · exact absurd hek (h2 e0 he0)
    · have he : e1 = e0 := by
        have hpw := ((stamped_iff es clock).1 hs).2.2
        obtain ⟨j0, hj0, rfl⟩ := List.getElem_of_mem he0
        obtain ⟨hj1, rfl⟩ := List.getElem?_eq_some_iff.1 h2
        rw [List.pairwise_iff_getElem] at hpw
        rcases Nat.lt_trichotomy j j0 with hlt | rfl | hlt
        · exact absurd (h3.trans hek.symm) (hpw j j0 hj1 hj0 hlt)
        · rfl
        · exact absurd (hek.trans h3.symm) (hpw j0 j hj0 hj1 hlt)
      subst he
      simp [Instr.lookup, run_underlying ht, MapKept.run_getObj_map hb', K.check w' _ hkey, h1, Result.andThen]
  · refine .inr ⟨fun p hp => ?_, fun w' hw' => ?_⟩
    · obtain ⟨x, hx, rfl⟩ := List.mem_map.1 hp
      exact fun e => hex ⟨x, hx, e⟩
    · have hb' := hw'.trans hb
      rcases K.find w' hkey es.toList (keys_of rfl hk) with ⟨h1, h2⟩ | ⟨j, e1, h1, h2, h3⟩
      · simp [Instr.lookup, run_underlying ht, MapKept.run_getObj_map hb', K.check w' _ hkey, h1, hz, Result.andThen]
      · exact absurd h3 (fun e => hex ⟨e1, List.mem_of_getElem? h2, e⟩)

/-- 'm[k] = v' -/
theorem MapV.update (h : MapV w P k b l) (K : Keyed P k) (ht : P.underlying t = some (.map k e)) {key val : Value} {kl : Lit} (hkey : keyOf P k key = some kl) :
    ∃ w' l', (Instr.mapUpdate t (.map (some b)) key val).run P w = .ok () w' ∧ MapV w' P k b l' ∧ w.grownBy w' (some b) ∧ w'.heap.size = w.heap.size ∧
      (((∀ p ∈ l, p.1 ≠ key) ∧ l' = l ++ [(key, val)]) ∨ ∃ j old, l[j]? = some (key, old) ∧ l' = l.set j (key, val)) := by
  obtain ⟨es, clock, hb, hs, rfl, hk⟩ := h
  have grown : ∀ es' clock', w.grownBy (setBlock w b (.map es' clock')) (some b) := fun es' clock' => ⟨rfl, rfl, rfl, by simp [setBlock], fun i _ hi => heap_setBlock_other hb _ (fun e => hi (by rw [e]))⟩
  rcases K.find w hkey es.toList (keys_of rfl hk) with ⟨h1, h2⟩ | ⟨j, e0, h1, h2, h3⟩
  · refine ⟨setBlock w b (.map (es.push ⟨key, val, clock⟩) (clock + 1)), _, ?_, ⟨_, _, heap_setBlock_same hb _, stamped_push hs h2, rfl, ?_⟩, grown _ _, by simp [setBlock], .inl ⟨fun p hp => ?_, by simp⟩⟩
    · simp [Instr.mapUpdate, run_underlying ht, MapKept.run_getObj_map hb, K.check w false hkey, h1, MapKept.run_setObj_map _ hb, Result.andThen, setBlock]
    · intro p hp
      simp only [Array.toList_push, List.map_append, List.map_cons, List.map_nil, List.mem_append, List.mem_singleton] at hp
      rcases hp with hp | rfl
      · exact hk p hp
      · exact ⟨kl, hkey⟩
    · obtain ⟨x, hx, rfl⟩ := List.mem_map.1 hp
      exact h2 x hx
  · have hj : es[j]? = some e0 := by simpa using h2
    have hkeyf : ∀ e', es[j]? = some e' → ({ e' with key := key, val := val } : MapEntry).key = e'.key := fun e' he' => by rw [hj] at he'; cases he'; exact h3.symm
    have hlist : (es.modify j (fun e' => { e' with key := key, val := val })).toList = es.toList.set j { e0 with key := key, val := val } := by rw [Array.toList_modify, ChangeMaps.modify_eq_set _ _ _ _ h2]
    refine ⟨setBlock w b (.map (es.modify j (fun e' => { e' with key := key, val := val })) clock), _, ?_, ⟨_, _, heap_setBlock_same hb _, stamped_modify hs j (fun e' => { e' with key := key, val := val }) (fun _ _ => rfl) (fun e' _ he' => hkeyf e' he'), rfl, ?_⟩, grown _ _, by simp [setBlock], .inr ⟨j, e0.val, ?_, ?_⟩⟩
    · simp [Instr.mapUpdate, run_underlying ht, MapKept.run_getObj_map hb, K.check w false hkey, h1, hj, h3, K.stays w hkey, MapKept.run_setObj_map _ hb, Result.andThen, setBlock]
    · intro p hp
      rw [hlist, List.map_set] at hp
      rcases List.mem_or_eq_of_mem_set hp with hp | rfl
      · exact hk p hp
      · exact ⟨kl, hkey⟩
    · rw [List.getElem?_map, h2]; simp [h3]
    · rw [hlist, List.map_set]

/-- 'delete(m, k)' -/
theorem MapV.delete {ty : TypeId} (h : MapV w P k b l) (K : Keyed P k) (ht : P.underlying t = some (.map k e)) {key : Value} {kl : Lit} (hkey : keyOf P k key = some kl) :
    ∃ w' l', (Builtin.delete_ #[t, k] ty #[.map (some b), key]).run P w = .ok (.tuple #[]) w' ∧ MapV w' P k b l' ∧ w.grownBy w' (some b) ∧ w'.heap.size = w.heap.size ∧
      (((∀ p ∈ l, p.1 ≠ key) ∧ l' = l) ∨ ∃ j old, l[j]? = some (key, old) ∧ l' = l.eraseIdx j) := by
  obtain ⟨es, clock, hb, hs, rfl, hk⟩ := h
  have grown : ∀ es' clock', w.grownBy (setBlock w b (.map es' clock')) (some b) := fun es' clock' => ⟨rfl, rfl, rfl, by simp [setBlock], fun i _ hi => heap_setBlock_other hb _ (fun e => hi (by rw [e]))⟩
  rcases K.find w hkey es.toList (keys_of rfl hk) with ⟨h1, h2⟩ | ⟨j, e0, h1, h2, h3⟩
  · refine ⟨setBlock w b (.map es clock), _, ?_, ⟨_, _, heap_setBlock_same hb _, hs, rfl, hk⟩, grown _ _, by simp [setBlock], .inl ⟨fun p hp => ?_, rfl⟩⟩
    · simp [Builtin.delete_, run_underlying ht, MapKept.run_getObj_map hb, K.check w _ hkey, h1, MapKept.run_setObj_map _ hb, Result.andThen, setBlock]
    · obtain ⟨x, hx, rfl⟩ := List.mem_map.1 hp
      exact h2 x hx
  · have hjs : j < es.size := by have := (List.getElem?_eq_some_iff.1 h2).1; simpa using this
    have hsub : (es.eraseIdxIfInBounds j).toList = es.toList.eraseIdx j := by
      unfold Array.eraseIdxIfInBounds
      rw [dif_pos hjs]
      simp
    refine ⟨setBlock w b (.map (es.eraseIdxIfInBounds j) clock), _, ?_, ⟨_, _, heap_setBlock_same hb _, stamped_erase hs j, rfl, ?_⟩, grown _ _, by simp [setBlock], .inr ⟨j, e0.val, ?_, ?_⟩⟩
    · simp [Builtin.delete_, run_underlying ht, MapKept.run_getObj_map hb, K.check w _ hkey, h1, MapKept.run_setObj_map _ hb, Result.andThen, setBlock]
    · intro p hp
      rw [hsub, ChangeMaps.map_eraseIdx] at hp
      exact hk p ((List.eraseIdx_sublist _ _).subset hp)
    · rw [List.getElem?_map, h2]; simp [h3]
    · rw [hsub, ChangeMaps.map_eraseIdx]
end
end Go.Proofs.YthpjneobmmpbnaaGreatDoor
namespace Go.Proofs.YthpjneobmmpbnaaGreatDoor
abbrev KV := Int × Int
end Go.Proofs.YthpjneobmmpbnaaGreatDoor
