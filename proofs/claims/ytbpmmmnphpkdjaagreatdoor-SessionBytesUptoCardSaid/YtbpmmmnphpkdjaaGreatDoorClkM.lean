/- Maps whose keys are int64, by their lists of keys and values; what blocks a call may turn. No condition but that the keys are int64. -/
import Derived.Test.YtbpmmmnphpkdjaaGreatDoorMap
import Derived.Test.YtbpmmmnphpkdjaaGreatDoorClkP
import Derived.Test.YtbpmmmnphpkdjaaGreatDoorProg
import Derived.Maps.Range
import Derived.Lib.SlKeysI
namespace Go.Proofs.YtbpmmmnphpkdjaaGreatDoor
open Go.RowKit Go.MapKept Go.Maps

def wfI (i : Int) : Prop := -9223372036854775808 ≤ i ∧ i ≤ 9223372036854775807
theorem wfI_lit {i : Int} (h : wfI i) : (Lit.int .i64 i).wf = true := by
  simp [Lit.wf]
  exact ⟨h.1, h.2⟩
theorem lawInt : Keyed Tryz.prog 2 := int_keyed Tryz.underlying2
theorem keyInt {i : Int} (h : wfI i) : keyOf Tryz.prog 2 (.int .i64 i) = some (.int .i64 i) := keyOf_int_mk Tryz.underlying2 (wfI_lit h)
/-- block b of w is a map from int64 of these keys and values -/
def MapI (w : World) (b : Nat) (l : List (Int × Value)) : Prop := MapV w Tryz.prog 2 b (l.map fun x => (.int .i64 x.1, x.2))
theorem erase_filter : ∀ (l : List (Int × Value)) (j : Nat) (x : Int × Value) (i : Int), l[j]? = some x → x.1 = i → (l.map (·.1)).Nodup → l.eraseIdx j = l.filter (fun x => decide (x.1 ≠ i))
  | [], _, _, _, h, _, _ => by simp at h
  | y :: r, 0, x, i, h, e, hn => by
    have hyx : y = x := by simpa using h
    rw [List.map_cons, List.nodup_cons] at hn
    have hyi : y.1 = i := by rw [hyx]; exact e
    rw [List.eraseIdx_cons_zero, List.filter_cons_of_neg (by simp [hyi])]
    symm
    rw [List.filter_eq_self]
    intro z hz
    have : z.1 ≠ i := fun e2 => hn.1 (List.mem_map.2 ⟨z, hz, e2.trans hyi.symm⟩)
    simpa using this
  | y :: r, j + 1, x, i, h, e, hn => by
    rw [List.getElem?_cons_succ] at h
    rw [List.map_cons, List.nodup_cons] at hn
    have hy : y.1 ≠ i := fun e2 => hn.1 (List.mem_map.2 ⟨x, List.mem_of_getElem? h, e.trans e2.symm⟩)
    rw [List.eraseIdx_cons_succ, List.filter_cons_of_pos (by simpa using hy), erase_filter r j x i h e hn.2]
section
variable {w w' : World} {t e : TypeId} {b : Nat} {l : List (Int × Value)}
theorem MapI.made (w : World) : MapI (w.alloc (.map #[] 0)) w.heap.size [] := MapV.made _ _ _
theorem MapI.lt (h : MapI w b l) : b < w.heap.size := MapV.lt h
theorem MapI.of_heap (h : MapI w b l) (hh : w'.heap[b]? = w.heap[b]?) : MapI w' b l := MapV.of_heap h hh
theorem MapI.apart (h : MapI w b l) : (l.map (·.1)).Nodup := by
  have := MapV.apart h
  rw [List.pairwise_map] at this
  show (l.map (·.1)).Pairwise (· ≠ ·)
  rw [List.pairwise_map]
  exact this.imp fun {a b} hne e => hne (by rw [e])
theorem MapI.lookup (h : MapI w b l) (ht : Tryz.prog.underlying t = some (.map 2 e)) (c : Bool) {z : Value} (hz : ∀ w : World, (zeroValue e).run Tryz.prog w = .ok z w) {i : Int} (hi : wfI i) :
    (∃ v, (i, v) ∈ l ∧ ∀ w' : World, w'.heap[b]? = w.heap[b]? → (Instr.lookup t (.map (some b)) (.int .i64 i) c).run Tryz.prog w' = .ok (if c then .tuple #[v, .bool true] else v) w') ∨
    ((∀ p ∈ l, p.1 ≠ i) ∧ ∀ w' : World, w'.heap[b]? = w.heap[b]? → (Instr.lookup t (.map (some b)) (.int .i64 i) c).run Tryz.prog w' = .ok (if c then .tuple #[z, .bool false] else z) w') := by
  rcases MapV.lookup h lawInt ht c hz (keyInt hi) with ⟨v, hm, hr⟩ | ⟨hn, hr⟩
  · obtain ⟨x, hx, ex⟩ := List.mem_map.1 hm
    have e1 : x.1 = i := by have := congrArg Prod.fst ex; simpa using this
    have e2 : x.2 = v := congrArg Prod.snd ex
    exact .inl ⟨v, by rw [← e1, ← e2]; exact hx, hr⟩
  · exact .inr ⟨fun p hp e => hn _ (List.mem_map.2 ⟨p, hp, rfl⟩) (by rw [e]), hr⟩
theorem MapI.update (h : MapI w b l) (ht : Tryz.prog.underlying t = some (.map 2 e)) {i : Int} (hi : wfI i) (val : Value) :
    ∃ w' l', (Instr.mapUpdate t (.map (some b)) (.int .i64 i) val).run Tryz.prog w = .ok () w' ∧ MapI w' b l' ∧ w.grownBy w' (some b) ∧ w'.heap.size = w.heap.size ∧
      (((∀ p ∈ l, p.1 ≠ i) ∧ l' = l ++ [(i, val)]) ∨ ∃ j old, l[j]? = some (i, old) ∧ l' = l.set j (i, val)) := by
  obtain ⟨w', l', h1, h2, h3, h4, h5⟩ := MapV.update (val := val) h lawInt ht (keyInt hi)
  rcases h5 with ⟨hn, rfl⟩ | ⟨j, old, hj, rfl⟩
  · exact ⟨w', l ++ [(i, val)], h1, by show MapV _ _ _ _ _; rw [List.map_append]; exact h2, h3, h4, .inl ⟨fun p hp e => hn _ (List.mem_map.2 ⟨p, hp, rfl⟩) (by rw [e]), rfl⟩⟩
  · rw [List.getElem?_map] at hj
    cases hl : l[j]? with
    | none => rw [hl] at hj; cases hj
    | some x =>
      rw [hl] at hj
      have hj : ((.int .i64 x.1, x.2) : Value × Value) = (.int .i64 i, old) := by simpa using hj
      have e1 : x.1 = i := by have := congrArg Prod.fst hj; simpa using this
      have e2 : x.2 = old := congrArg Prod.snd hj
      refine ⟨w', l.set j (i, val), h1, by show MapV _ _ _ _ _; rw [List.map_set]; exact h2, h3, h4, .inr ⟨j, old, by rw [hl, ← e1, ← e2], rfl⟩⟩
theorem MapI.delete {ty : TypeId} (h : MapI w b l) (ht : Tryz.prog.underlying t = some (.map 2 e)) {i : Int} (hi : wfI i) :
    ∃ w' l', (Builtin.delete_ #[t, 2] ty #[.map (some b), .int .i64 i]).run Tryz.prog w = .ok (.tuple #[]) w' ∧ MapI w' b l' ∧ w.grownBy w' (some b) ∧ w'.heap.size = w.heap.size ∧ l' = l.filter (fun x => decide (x.1 ≠ i)) := by
  have hap := h.apart
  obtain ⟨w', l', h1, h2, h3, h4, h5⟩ := MapV.delete (ty := ty) h lawInt ht (keyInt hi)
  rcases h5 with ⟨hn, rfl⟩ | ⟨j, old, hj, rfl⟩
  · refine ⟨w', l, h1, h2, h3, h4, ?_⟩
    symm
    rw [List.filter_eq_self]
    intro x hx
    have : x.1 ≠ i := fun e => hn _ (List.mem_map.2 ⟨x, hx, rfl⟩) (by rw [e])
    simpa using this
  · rw [List.getElem?_map] at hj
    cases hl : l[j]? with
    | none => rw [hl] at hj; cases hj
    | some x =>
      rw [hl] at hj
      have hj : ((.int .i64 x.1, x.2) : Value × Value) = (.int .i64 i, old) := by simpa using hj
      have e1 : x.1 = i := by have := congrArg Prod.fst hj; simpa using this
      have hE : l.eraseIdx j = l.filter (fun x => decide (x.1 ≠ i)) := erase_filter l j x i hl e1 hap
      refine ⟨w', l.eraseIdx j, h1, ?_, h3, h4, hE⟩
      show MapV _ _ _ _ _
      rw [ChangeMaps.map_eraseIdx]
      exact h2
end
/-- what may turn: blocks of 'own', and new ones -/
structure Fr (own : List Nat) (w w' : World) : Prop where
  os : w'.os = w.os
  tape : w'.tape = w.tape
  output : w'.output = w.output
  size : w.heap.size ≤ w'.heap.size
  block : ∀ g, g < w.heap.size → g ∉ own → w'.heap[g]? = w.heap[g]?
theorem Fr.refl (own : List Nat) (w : World) : Fr own w w := ⟨rfl, rfl, rfl, Nat.le_refl _, fun _ _ _ => rfl⟩
theorem Fr.trans {own own1 : List Nat} {a b c : World} (h : Fr own a b) (k : Fr own1 b c) (hs : ∀ g ∈ own1, g ∈ own ∨ a.heap.size ≤ g) : Fr own a c :=
  ⟨k.os.trans h.os, k.tape.trans h.tape, k.output.trans h.output, Nat.le_trans h.size k.size, fun g hg hn => (k.block g (Nat.lt_of_lt_of_le hg h.size) (fun hm => (hs g hm).elim hn (fun hle => by omega))).trans (h.block g hg hn)⟩
theorem Fr.below {own : List Nat} {w w' : World} {B : Nat} (h : Fr own w w') (hB : B ≤ w.heap.size) (ho : ∀ g ∈ own, B ≤ g) : Below B w w' :=
  ⟨h.os, h.tape, h.output, h.size, fun g hg => h.block g (by omega) (fun hm => by have := ho g hm; omega)⟩
theorem Fr.of_below {own : List Nat} {w w' : World} (h : Below w.heap.size w w') : Fr own w w' := ⟨h.os, h.tape, h.output, h.size, fun g hg _ => h.block g hg⟩
theorem Fr.of_grown {own : List Nat} {w w' : World} {b : Nat} (h : w.grownBy w' (some b)) (hb : b ∈ own) : Fr own w w' :=
  ⟨h.os, h.tape, h.output, h.size, fun g hg hn => h.block g hg (fun e => by injection e with e; exact hn (e ▸ hb))⟩
theorem MapI.fr {own : List Nat} {w w' : World} {b : Nat} {l : List (Int × Value)} (h : MapI w b l) (hf : Fr own w w') (hn : b ∉ own) : MapI w' b l := h.of_heap (hf.block b h.lt hn)
end Go.Proofs.YtbpmmmnphpkdjaaGreatDoor
