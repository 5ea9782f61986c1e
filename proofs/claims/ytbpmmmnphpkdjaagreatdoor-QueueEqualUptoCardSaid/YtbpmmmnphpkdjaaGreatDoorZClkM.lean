/- Plain laws of a clock: who is known, until when; what a touch, a drop, an asking do. No program in sight. Maps whose keys are int64, by their lists of keys and values; what blocks a call may turn. No condition but that the keys are int64. -/
import Derived.RowKit
import Derived.Test.YtbpmmmnphpkdjaaGreatDoorZMap
import Derived.Test.YtbpmmmnphpkdjaaGreatDoorProg
import Derived.Maps.Range
import Derived.Lib.SlKeysI
namespace Go.Proofs.YtbpmmmnphpkdjaaGreatDoor
abbrev KV := Int × Int
/-- until when one is known -/
def getK : List KV → Int → Option Int
  | [], _ => none
  | x :: r, i => if x.1 = i then some x.2 else getK r i
def dropK (K : List KV) (i : Int) : List KV := K.filter fun x => decide (x.1 ≠ i)
def stepK (tick timeout now : Int) : Int := ((now + timeout) / tick + 1) * tick
def putK (K : List KV) (i s : Int) : List KV := match getK K i with
  | some old => if s ≤ old then K else dropK K i ++ [(i, s)]
  | none => K ++ [(i, s)]
def lateK (K : List KV) (now : Int) : List KV := K.filter fun x => decide (now < x.2)
def overK (K : List KV) (now : Int) : List Int := (K.filter fun x => decide (x.2 ≤ now)).map (·.1)
def OneK (K : List KV) : Prop := (K.map (·.1)).Nodup
theorem getK_mem : ∀ (K : List KV) (i s : Int), getK K i = some s → (i, s) ∈ K
  | x :: r, i, s, h => by
    unfold getK at h
    split at h
    · rename_i e
      injection h with h
      subst e h
      exact List.mem_cons_self ..
    · exact List.mem_cons_of_mem _ (getK_mem r i s h)
theorem getK_none : ∀ (K : List KV) (i : Int), getK K i = none ↔ ∀ x ∈ K, x.1 ≠ i
  | [], i => by simp [getK]
  | x :: r, i => by
    unfold getK
    split
    · rename_i e
      simp [e]
    · rename_i e
      rw [getK_none r i]
      simp [e]
theorem getK_of (K : List KV) (i s : Int) (h1 : OneK K) (h : (i, s) ∈ K) : getK K i = some s := by
  induction K with
  | nil => cases h
  | cons x r ih =>
    unfold OneK at h1
    rw [List.map_cons, List.nodup_cons] at h1
    unfold getK
    rcases List.mem_cons.1 h with rfl | h
    · rw [if_pos rfl]
    · rw [if_neg (fun e => h1.1 (List.mem_map.2 ⟨_, h, e.symm⟩))]
      exact ih h1.2 h
theorem getK_iff {K : List KV} (h1 : OneK K) (i s : Int) : getK K i = some s ↔ (i, s) ∈ K := ⟨getK_mem K i s, getK_of K i s h1⟩
theorem oneK_filter {K : List KV} (h : OneK K) (f : KV → Bool) : OneK (K.filter f) := List.Nodup.sublist (List.Sublist.map _ List.filter_sublist) h
theorem oneK_drop {K : List KV} (h : OneK K) (i : Int) : OneK (dropK K i) := oneK_filter h _
theorem oneK_late {K : List KV} (h : OneK K) (n : Int) : OneK (lateK K n) := oneK_filter h _
theorem oneK_snoc {K : List KV} (h : OneK K) (i s : Int) (hn : ∀ x ∈ K, x.1 ≠ i) : OneK (K ++ [(i, s)]) := by
  unfold OneK
  rw [List.map_append, List.nodup_append]
  refine ⟨h, by simp, fun a ha b hb e => ?_⟩
  obtain ⟨x, hx, rfl⟩ := List.mem_map.1 ha
  simp at hb
  exact hn x hx (e.trans hb)
theorem drop_ne {K : List KV} {i : Int} : ∀ x ∈ dropK K i, x.1 ≠ i := fun x hx => by
  have := (List.mem_filter.1 hx).2
  simpa using this
theorem oneK_put {K : List KV} (h : OneK K) (i s : Int) : OneK (putK K i s) := by
  unfold putK
  split
  · split
    · exact h
    · exact oneK_snoc (oneK_drop h i) i s drop_ne
  · rename_i e
    exact oneK_snoc h i s ((getK_none K i).1 e)
theorem mem_drop {K : List KV} {i : Int} {x : KV} : x ∈ dropK K i ↔ x ∈ K ∧ x.1 ≠ i := by
  unfold dropK; rw [List.mem_filter]; simp
theorem getK_append (K L : List KV) (i : Int) : getK (K ++ L) i = (getK K i).or (getK L i) := by
  induction K with
  | nil => simp [getK]
  | cons x r ih =>
    rw [List.cons_append, getK, getK]
    split
    · simp
    · exact ih
theorem getK_drop (K : List KV) (i j : Int) : getK (dropK K i) j = if j = i then none else getK K j := by
  induction K with
  | nil => unfold dropK; simp [getK]
  | cons x r ih =>
    unfold dropK at ih ⊢
    rw [List.filter_cons]
    by_cases hx : x.1 = i
    · rw [if_neg (by simp [hx]), ih]
      by_cases hj : j = i
      · rw [if_pos hj, if_pos hj]
      · rw [if_neg hj, if_neg hj, getK, if_neg (fun e => hj (e.symm.trans hx))]
    · rw [if_pos (by simp [hx]), getK, getK, ih]
      by_cases hj : j = i
      · subst hj; simp [hx]
      · simp [hj]
theorem getK_put (K : List KV) (i s j : Int) : getK (putK K i s) j = if j = i then some (match getK K i with | some old => if s ≤ old then old else s | none => s) else getK K j := by
  unfold putK
  cases h : getK K i with
  | some old =>
    simp only
    by_cases hs : s ≤ old
    · rw [if_pos hs, if_pos hs]
      by_cases hj : j = i
      · rw [if_pos hj, hj, h]
      · rw [if_neg hj]
    · rw [if_neg hs, if_neg hs, getK_append, getK_drop]
      by_cases hj : j = i
      · rw [if_pos hj, if_pos hj]; simp [getK, hj]
      · rw [if_neg hj, if_neg hj]
        have hj' : ¬ i = j := fun e => hj e.symm
        simp [getK, hj']
  | none =>
    simp only
    rw [getK_append]
    by_cases hj : j = i
    · rw [if_pos hj, hj, h]; simp [getK]
    · have hj' : ¬ i = j := fun e => hj e.symm
      rw [if_neg hj]; simp [getK, hj']
theorem mem_put {K : List KV} {i s : Int} {x : KV} (h : x ∈ putK K i s) : x ∈ K ∨ x = (i, s) := by
  unfold putK at h
  split at h
  · split at h
    · exact .inl h
    · rcases List.mem_append.1 h with h | h
      · exact .inl (mem_drop.1 h).1
      · exact .inr (List.mem_singleton.1 h)
  · rcases List.mem_append.1 h with h | h
    · exact .inl h
    · exact .inr (List.mem_singleton.1 h)
theorem mem_late {K : List KV} {n : Int} {x : KV} : x ∈ lateK K n ↔ x ∈ K ∧ n < x.2 := by
  unfold lateK; rw [List.mem_filter]; simp
theorem getK_late {K : List KV} (h : OneK K) (n j : Int) : getK (lateK K n) j = match getK K j with | some s => if s ≤ n then none else some s | none => none := by
  cases hg : getK K j with
  | none =>
    simp only
    rw [getK_none] at hg ⊢
    exact fun x hx => hg x (mem_late.1 hx).1
  | some s =>
    simp only
    have hm := getK_mem K j s hg
    split
    · rename_i hle
      rw [getK_none]
      intro x hx e
      obtain ⟨hx1, hx2⟩ := mem_late.1 hx
      have := getK_of K x.1 x.2 h hx1
      rw [e, hg] at this
      injection this with this
      omega
    · rename_i hle
      exact getK_of _ _ _ (oneK_late h n) (mem_late.2 ⟨hm, by show n < s; omega⟩)
theorem mem_over {K : List KV} (h : OneK K) (n i : Int) : i ∈ overK K n ↔ ∃ s, getK K i = some s ∧ s ≤ n := by
  unfold overK
  constructor
  · intro hi
    obtain ⟨x, hx, rfl⟩ := List.mem_map.1 hi
    obtain ⟨h1, h2⟩ := List.mem_filter.1 hx
    exact ⟨x.2, getK_of K x.1 x.2 h h1, by simpa using h2⟩
  · rintro ⟨s, h1, h2⟩
    exact List.mem_map.2 ⟨(i, s), List.mem_filter.2 ⟨getK_mem K i s h1, by simpa using h2⟩, rfl⟩
theorem nodup_over {K : List KV} (h : OneK K) (n : Int) : (overK K n).Nodup := oneK_filter h _
theorem late_nil {K : List KV} {n : Int} (h : ∀ x ∈ K, x.2 ≤ n) : lateK K n = [] := by
  unfold lateK
  rw [List.filter_eq_nil_iff]
  intro x hx
  have := h x hx
  simp; omega
theorem stepK_gt {tick timeout now : Int} (ht : 1 ≤ tick) : now + timeout < stepK tick timeout now := by
  unfold stepK
  have := Int.lt_ediv_add_one_mul_self (now + timeout) (show 0 < tick by omega)
  exact this
theorem stepK_le {tick timeout now : Int} (ht : 1 ≤ tick) : stepK tick timeout now ≤ now + timeout + tick := by
  unfold stepK
  have := Int.ediv_mul_le (now + timeout) (show tick ≠ 0 by omega)
  rw [Int.add_mul, Int.one_mul]
  omega
def ltK (a b : KV) : Prop := a.2 < b.2 ∨ (a.2 = b.2 ∧ a.1 < b.1)
theorem ltK.trans {a b c : KV} (h : ltK a b) (h' : ltK b c) : ltK a c := by unfold ltK at *; omega
theorem ltK.ne {a b : KV} (h : ltK a b) : a ≠ b := fun e => by subst e; unfold ltK at h; omega
theorem ltK.tri {a b : KV} (h : ¬ ltK a b) (hne : a.1 ≠ b.1) : ltK b a := by unfold ltK at *; omega
/-- the order of ids by their deadlines in K -/
def ltI (K : List KV) (i j : Int) : Prop := ∃ s t, (i, s) ∈ K ∧ (j, t) ∈ K ∧ ltK (i, s) (j, t)
end Go.Proofs.YtbpmmmnphpkdjaaGreatDoor
namespace Go.Proofs.YtbpmmmnphpkdjaaGreatDoor
open Go.RowKit Go.MapKept Go.Maps

def wfI (i : Int) : Prop := -9223372036854775808 ≤ i ∧ i ≤ 9223372036854775807
theorem wfI_lit {i : Int} (h : wfI i) : (Lit.int .i64 i).wf = true := by
  simp [Lit.wf]
  exact ⟨h.1, h.2⟩
theorem lawInt : Keyed Tryz.prog 2 := int_keyed Tryz.underlying2
theorem keyInt {i : Int} (h : wfI i) : keyOf Tryz.prog 2 (.int .i64 i) = some (.int .i64 i) := keyOf_int_mk Tryz.underlying2 (wfI_lit h)
/-- block b of w is a map from int64 of these keys and values -/
def MapI (w : World) (b : Nat) (l : List (Int × Value)) : Prop := MapV w Tryz.prog 2 b (l.map fun x => (.int .i64 x.1, x.2))
theorem erase_filter : ∀ (l : List (Int × Value)) (j : Nat) (x : Int × Value) (i : Int), l[j]? = some x → x.1 = i → (l.map (·.1)).Nodup → l.eraseIdx j = l.filter (fun x => decide (x.1 ≠ i))
  | [], _, _, _, h, _, _ => by simp at h
  | y :: r, 0, x, i, h, e, hn => by
    have hyx : y = x := by simpa using h
    rw [List.map_cons, List.nodup_cons] at hn
    have hyi : y.1 = i := by rw [hyx]; exact e
    rw [List.eraseIdx_cons_zero, List.filter_cons_of_neg (by simp [hyi])]
    symm
    rw [List.filter_eq_self]
    intro z hz
    have : z.1 ≠ i := fun e2 => hn.1 (List.mem_map.2 ⟨z, hz, e2.trans hyi.symm⟩)
    simpa using this
  | y :: r, j + 1, x, i, h, e, hn => by
    rw [List.getElem?_cons_succ] at h
    rw [List.map_cons, List.nodup_cons] at hn
    have hy : y.1 ≠ i := fun e2 => hn.1 (List.mem_map.2 ⟨x, List.mem_of_getElem? h, e.trans e2.symm⟩)
    rw [List.eraseIdx_cons_succ, List.filter_cons_of_pos (by simpa using hy), erase_filter r j x i h e hn.2]
section
variable {w w' : World} {t e : TypeId} {b : Nat} {l : List (Int × Value)}
theorem MapI.made (w : World) : MapI (w.alloc (.map #[] 0)) w.heap.size [] := MapV.made _ _ _
theorem MapI.lt (h : MapI w b l) : b < w.heap.size := MapV.lt h
theorem MapI.of_heap (h : MapI w b l) (hh : w'.heap[b]? = w.heap[b]?) : MapI w' b l := MapV.of_heap h hh
theorem MapI.apart (h : MapI w b l) : (l.map (·.1)).Nodup := by
  have := MapV.apart h
  rw [List.pairwise_map] at this
  show (l.map (·.1)).Pairwise (· ≠ ·)
  rw [List.pairwise_map]
  exact this.imp fun {a b} hne e => hne (by rw [e])
theorem MapI.lookup (h : MapI w b l) (ht : Tryz.prog.underlying t = some (.map 2 e)) (c : Bool) {z : Value} (hz : ∀ w : World, (zeroValue e).run Tryz.prog w = .ok z w) {i : Int} (hi : wfI i) :
    (∃ v, (i, v) ∈ l ∧ ∀ w' : World, w'.heap[b]? = w.heap[b]? → (Instr.lookup t (.map (some b)) (.int .i64 i) c).run Tryz.prog w' = .ok (if c then .tuple #[v, .bool true] else v) w') ∨
    ((∀ p ∈ l, p.1 ≠ i) ∧ ∀ w' : World, w'.heap[b]? = w.heap[b]? → (Instr.lookup t (.map (some b)) (.int .i64 i) c).run Tryz.prog w' = .ok (if c then .tuple #[z, .bool false] else z) w') := by
  rcases MapV.lookup h lawInt ht c hz (keyInt hi) with ⟨v, hm, hr⟩ | ⟨hn, hr⟩
  · obtain ⟨x, hx, ex⟩ := List.mem_map.1 hm
    have e1 : x.1 = i := by have := congrArg Prod.fst ex; simpa using this
    have e2 : x.2 = v := congrArg Prod.snd ex
    exact .inl ⟨v, by rw [← e1, ← e2]; exact hx, hr⟩
  · exact .inr ⟨fun p hp e => hn _ (List.mem_map.2 ⟨p, hp, rfl⟩) (by rw [e]), hr⟩
theorem MapI.update (h : MapI w b l) (ht : Tryz.prog.underlying t = some (.map 2 e)) {i : Int} (hi : wfI i) (val : Value) :
    ∃ w' l', (Instr.mapUpdate t (.map (some b)) (.int .i64 i) val).run Tryz.prog w = .ok () w' ∧ MapI w' b l' ∧ w.grownBy w' (some b) ∧ w'.heap.size = w.heap.size ∧
      (((∀ p ∈ l, p.1 ≠ i) ∧ l' = l ++ [(i, val)]) ∨ ∃ j old, l[j]? = some (i, old) ∧ l' = l.set j (i, val)) := by
  obtain ⟨w', l', h1, h2, h3, h4, h5⟩ := MapV.update (val := val) h lawInt ht (keyInt hi)
  rcases h5 with ⟨hn, rfl⟩ | ⟨j, old, hj, rfl⟩
  · exact ⟨w', l ++ [(i, val)], h1, by show MapV _ _ _ _ _; rw [List.map_append]; exact h2, h3, h4, .inl ⟨fun p hp e => hn _ (List.mem_map.2 ⟨p, hp, rfl⟩) (by rw [e]), rfl⟩⟩
  · rw [List.getElem?_map] at hj
    cases hl : l[j]? with
    | none => rw [hl] at hj; cases hj
    | some x =>
      rw [hl] at hj
      have hj : ((.int .i64 x.1, x.2) : Value × Value) = (.int .i64 i, old) := by simpa using hj
      have e1 : x.1 = i := by have := congrArg Prod.fst hj; simpa using this
      have e2 : x.2 = old := congrArg Prod.snd hj
      refine ⟨w', l.set j (i, val), h1, by show MapV _ _ _ _ _; rw [List.map_set]; exact h2, h3, h4, .inr ⟨j, old, by rw [hl, ← e1, ← e2], rfl⟩⟩
theorem MapI.delete {ty : TypeId} (h : MapI w b l) (ht : Tryz.prog.underlying t = some (.map 2 e)) {i : Int} (hi : wfI i) :
    ∃ w' l', (Builtin.delete_ #[t, 2] ty #[.map (some b), .int .i64 i]).run Tryz.prog w = .ok (.tuple #[]) w' ∧ MapI w' b l' ∧ w.grownBy w' (some b) ∧ w'.heap.size = w.heap.size ∧ l' = l.filter (fun x => decide (x.1 ≠ i)) := by
  have hap := h.apart
  obtain ⟨w', l', h1, h2, h3, h4, h5⟩ := MapV.delete (ty := ty) h lawInt ht (keyInt hi)
  rcases h5 with ⟨hn, rfl⟩ | ⟨j, old, hj, rfl⟩
  · refine ⟨w', l, h1, h2, h3, h4, ?_⟩
    symm
    rw [List.filter_eq_self]
    intro x hx
    have : x.1 ≠ i := fun e => hn _ (List.mem_map.2 ⟨x, hx, rfl⟩) (by rw [e])
    simpa using this
  · rw [List.getElem?_map] at hj
    cases hl : l[j]? with
    | none => rw [hl] at hj; cases hj
    | some x =>
      rw [hl] at hj
      have hj : ((.int .i64 x.1, x.2) : Value × Value) = (.int .i64 i, old) := by simpa using hj
      have e1 : x.1 = i := by have := congrArg Prod.fst hj; simpa using this
      have hE : l.eraseIdx j = l.filter (fun x => decide (x.1 ≠ i)) := erase_filter l j x i hl e1 hap
      refine ⟨w', l.eraseIdx j, h1, ?_, h3, h4, hE⟩
      show MapV _ _ _ _ _
      rw [ChangeMaps.map_eraseIdx]
      exact h2
end
/-- what may turn: blocks of 'own', and new ones -/
structure Fr (own : List Nat) (w w' : World) : Prop where
  os : w'.os = w.os
  tape : w'.tape = w.tape
  output : w'.output = w.output
  size : w.heap.size ≤ w'.heap.size
  block : ∀ g, g < w.heap.size → g ∉ own → w'.heap[g]? = w.heap[g]?
theorem Fr.refl (own : List Nat) (w : World) : Fr own w w := ⟨rfl, rfl, rfl, Nat.le_refl _, fun _ _ _ => rfl⟩
theorem Fr.trans {own own1 : List Nat} {a b c : World} (h : Fr own a b) (k : Fr own1 b c) (hs : ∀ g ∈ own1, g ∈ own ∨ a.heap.size ≤ g) : Fr own a c :=
  ⟨k.os.trans h.os, k.tape.trans h.tape, k.output.trans h.output, Nat.le_trans h.size k.size, fun g hg hn => (k.block g (Nat.lt_of_lt_of_le hg h.size) (fun hm => (hs g hm).elim hn (fun hle => by omega))).trans (h.block g hg hn)⟩
theorem Fr.below {own : List Nat} {w w' : World} {B : Nat} (h : Fr own w w') (hB : B ≤ w.heap.size) (ho : ∀ g ∈ own, B ≤ g) : Below B w w' :=
  ⟨h.os, h.tape, h.output, h.size, fun g hg => h.block g (by omega) (fun hm => by have := ho g hm; omega)⟩
theorem Fr.of_below {own : List Nat} {w w' : World} (h : Below w.heap.size w w') : Fr own w w' := ⟨h.os, h.tape, h.output, h.size, fun g hg _ => h.block g hg⟩
theorem Fr.of_grown {own : List Nat} {w w' : World} {b : Nat} (h : w.grownBy w' (some b)) (hb : b ∈ own) : Fr own w w' :=
  ⟨h.os, h.tape, h.output, h.size, fun g hg hn => h.block g hg (fun e => by injection e with e; exact hn (e ▸ hb))⟩
theorem MapI.fr {own : List Nat} {w w' : World} {b : Nat} {l : List (Int × Value)} (h : MapI w b l) (hf : Fr own w w') (hn : b ∉ own) : MapI w' b l := h.of_heap (hf.block b h.lt hn)
end Go.Proofs.YtbpmmmnphpkdjaaGreatDoor
