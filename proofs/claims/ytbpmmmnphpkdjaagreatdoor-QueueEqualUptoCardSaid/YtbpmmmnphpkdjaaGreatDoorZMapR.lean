/- A range over a map whose keys are int64, by its list of keys and values: who is still to come. No condition. -/
import Derived.Test.YtbpmmmnphpkdjaaGreatDoorZClkM
import Derived.Maps.Range
import Derived.Maps.RangeRun
import Derived.Laws.IdiomRangeMap
namespace Go.Proofs.YtbpmmmnphpkdjaaGreatDoor
open Go.RowKit Go.MapKept Go.Maps
open Go.ChangeMaps (setBlock heap_setBlock_same heap_setBlock_other)
/-- block r ranges over block b, a map of these; 'left' says who is still to come -/
def RgI (w : World) (b r : Nat) (l : List (Int × Value)) (left : Int → Bool) : Prop :=
  r ≠ b ∧ ∃ es clock since seen c0, w.heap[b]? = some (.map es clock) ∧ Stamped es clock ∧ es.toList.map (fun e => (e.key, e.val)) = l.map (fun x => ((.int .i64 x.1, x.2) : Value × Value)) ∧
    w.heap[r]? = some (.mapIter (some b) since seen c0) ∧ (∀ x ∈ es.toList, x.born < since) ∧ since ≤ c0 ∧ since ≤ clock ∧ ∀ x ∈ es.toList, ∀ i, x.key = .int .i64 i → left i = !seen.contains x.born
theorem pw_inj {α β : Type} (f : α → β) : ∀ {l : List α}, l.Pairwise (fun x y => f x ≠ f y) → ∀ {x y : α}, x ∈ l → y ∈ l → f x = f y → x = y
  | a :: l, h, x, y, hx, hy, e => by
    rw [List.pairwise_cons] at h
    rcases List.mem_cons.1 hx with h1 | h1 <;> rcases List.mem_cons.1 hy with h2 | h2
    · rw [h1, h2]
    · subst h1; exact absurd e (h.1 y h2)
    · subst h2; exact absurd e.symm (h.1 x h1)
    · exact pw_inj f h.2 h1 h2 e
theorem RgI.keep {w w' : World} {b r : Nat} {l : List (Int × Value)} {left : Int → Bool} (h : RgI w b r l left) (h1 : w'.heap[b]? = w.heap[b]?) (h2 : w'.heap[r]? = w.heap[r]?) : RgI w' b r l left := by
  obtain ⟨hne, es, clock, since, seen, c0, a1, a2, a3, a4, a5⟩ := h
  exact ⟨hne, es, clock, since, seen, c0, h1.trans a1, a2, a3, h2.trans a4, a5⟩
theorem RgI.rlt {w : World} {b r : Nat} {l : List (Int × Value)} {left : Int → Bool} (h : RgI w b r l left) : r < w.heap.size := by
  obtain ⟨_, es, clock, since, seen, c0, a1, a2, a3, a4, _⟩ := h
  exact (Array.getElem?_eq_some_iff.1 a4).1
theorem MapI.range {w : World} {b : Nat} {l : List (Int × Value)} (h : MapI w b l) {t e : TypeId} (ht : Tryz.prog.underlying t = some (.map 2 e)) :
    ∃ w', (Instr.range t (.map (some b))).run Tryz.prog w = .ok (.pointer (some ⟨w.heap.size, 0, none⟩)) w' ∧ RgI w' b w.heap.size l (fun _ => true) ∧ Below w.heap.size w w' ∧ w'.heap.size = w.heap.size + 1 := by
  obtain ⟨es, clock, hb, hs, hl, _⟩ := h
  have hlt := (Array.getElem?_eq_some_iff.1 hb).1
  refine ⟨_, run_range_map w t 2 e b es clock ht hb, ⟨by omega, es, clock, clock, #[], clock, (Below.heap_alloc _ _ b hlt).trans hb, hs, hl, heap_alloc_new _ _, ((stamped_iff es clock).1 hs).1, Nat.le_refl _, Nat.le_refl _, fun x _ i _ => by simp⟩, (Below.refl _ w).alloc (Nat.le_refl _) _, by simp⟩
theorem RgI.next {w : World} {b r : Nat} {l : List (Int × Value)} {left : Int → Bool} (h : RgI w b r l left) :
    ((∀ p ∈ l, left p.1 = false) ∧ ∀ ty, (Instr.next (.pointer (some ⟨r, 0, none⟩)) false ty).run Tryz.prog w = .ok (.tuple #[.bool false]) w) ∨
    ∃ i v, (i, v) ∈ l ∧ left i = true ∧ ∃ w', (∀ ty, (Instr.next (.pointer (some ⟨r, 0, none⟩)) false ty).run Tryz.prog w = .ok (.tuple #[.bool true, .int .i64 i, v]) w') ∧ RgI w' b r l (fun j => left j && decide (j ≠ i)) ∧ w.grownBy w' (some r) ∧ w'.heap.size = w.heap.size ∧ w'.rangeLeft b r < w.rangeLeft b r ∧
      (Instr.entry (.pointer (some ⟨r, 0, none⟩))).run Tryz.prog w' = .ok (.tuple #[.int .i64 i, v]) w' := by
  obtain ⟨hne, es, clock, since, seen, c0, hb, hs, hl, hr, hold, hsc, hsk, hleft⟩ := h
  obtain ⟨_, hbn, hkn⟩ := (stamped_iff es clock).1 hs
  have hbn' : es.toList.Pairwise (fun x y => x.born ≠ y.born) := by
    have := hbn; unfold List.Nodup at this; rwa [List.pairwise_map] at this
  have key : ∀ x ∈ es.toList, ∃ i v, x.key = .int .i64 i ∧ x.val = v ∧ (i, v) ∈ l := fun x hx => by
    have hm : (x.key, x.val) ∈ l.map (fun x => ((.int .i64 x.1, x.2) : Value × Value)) := by rw [← hl]; exact List.mem_map.2 ⟨x, hx, rfl⟩
    obtain ⟨p, hp, e⟩ := List.mem_map.1 hm
    injection e with e1 e2
    exact ⟨p.1, p.2, e1.symm, e2.symm, hp⟩
  have back : ∀ p ∈ l, ∃ x ∈ es.toList, x.key = .int .i64 p.1 := fun p hp => by
    have hm : ((.int .i64 p.1, p.2) : Value × Value) ∈ es.toList.map (fun e => (e.key, e.val)) := by rw [hl]; exact List.mem_map.2 ⟨p, hp, rfl⟩
    obtain ⟨x, hx, e⟩ := List.mem_map.1 hm
    injection e with e1 e2
    exact ⟨x, hx, e1⟩
  by_cases hz : (leftOf es seen).size = 0
  · left
    refine ⟨fun p hp => ?_, fun ty => ?_⟩
    · obtain ⟨x, hx, e1⟩ := back p hp
      rw [hleft x hx p.1 e1, all_seen es seen hz x hx, Bool.not_true]
    · rcases run_next_at (P := Tryz.prog) w ty r b since c0 seen es clock hr hb hold hsc with ⟨_, hrun⟩ | ⟨e, he, _⟩
      · exact hrun
      · have : (leftOf es seen).toList = [] := by rw [Array.eq_empty_of_size_eq_zero hz]
        rw [this] at he; cases he
  · right
    rcases run_next_at (P := Tryz.prog) w 0 r b since c0 seen es clock hr hb hold hsc with ⟨h0, _⟩ | ⟨e, he, w1, hal, hrun⟩
    · exact absurd h0 hz
    · obtain ⟨hem, hes⟩ := mem_left he
      obtain ⟨i, v, ek, ev, hm⟩ := key e hem
      have hr1 : w1.heap[r]? = some (.mapIter (some b) since seen c0) := by rcases hal with rfl | rfl <;> exact hr
      have hb1 : w1.heap[b]? = some (.map es clock) := by rcases hal with rfl | rfl <;> exact hb
      have hset := heap_set (o' := .mapIter (some b) since (seen.push e.born) clock) hr1
      have hb' : (setBlock w1 r (.mapIter (some b) since (seen.push e.born) clock)).heap[b]? = some (.map es clock) := (hset.2 b (fun e1 => hne e1.symm)).trans hb1
      rw [ek, ev] at hrun
      refine ⟨i, v, hm, by rw [hleft e hem i ek, hes]; rfl, _, fun ty => ?_, ⟨hne, es, clock, since, seen.push e.born, clock, hb', hs, hl, hset.1, hold, hsk, hsk, fun x hx j hj => ?_⟩, ?_, ?_, ?_, ?_⟩
      · exact hrun
      · show (left j && decide (j ≠ i)) = _
        rw [hleft x hx j hj, contains_push]
        by_cases hji : j = i
        · have hxe : x = e := pw_inj (fun z : MapEntry => z.key) hkn hx hem (by rw [hj, ek, hji])
          subst hxe
          simp [hji]
        · have hb2 : (x.born == e.born) = false := beq_eq_false_iff_ne.2 fun hbb => hji (by
            have hxe : x = e := pw_inj (fun z : MapEntry => z.born) hbn' hx hem hbb
            subst hxe
            rw [ek] at hj
            injection hj with _ hj
            exact hj.symm)
          rw [hb2, decide_eq_true hji]
          simp
      · rcases hal with rfl | rfl <;> exact ⟨rfl, rfl, rfl, by simp [setBlock], fun i _ hi => hset.2 i (fun e1 => hi (by rw [e1]))⟩
      · rcases hal with rfl | rfl <;> simp [setBlock]
      · unfold World.rangeLeft
        have hset1 : (setBlock w1 r (.mapIter (some b) since (seen.push e.born) clock)).heap[r]? = some (.mapIter (some b) since (seen.push e.born) clock) := hset.1
        rw [hb', hset1, hb, hr]
        exact left_shrinks es seen e he
      · have := run_entry_at (P := Tryz.prog) _ r b since seen es clock e hset.1 hb' hem hbn
        rwa [ek, ev] at this
end Go.Proofs.YtbpmmmnphpkdjaaGreatDoor
