/- Plain laws of a clock: who is known, until when; what a touch, a drop, an asking do. No program in sight. -/
import Derived.RowKit
namespace Go.Proofs.YtbpmmmnphpkdjaaGreatDoor
abbrev KV := Int × Int
/-- until when one is known -/
def getK : List KV → Int → Option Int
  | [], _ => none
  | x :: r, i => if x.1 = i then some x.2 else getK r i
def dropK (K : List KV) (i : Int) : List KV := K.filter fun x => decide (x.1 ≠ i)
def stepK (tick timeout now : Int) : Int := ((now + timeout) / tick + 1) * tick
def putK (K : List KV) (i s : Int) : List KV := match getK K i with
  | some old => if s ≤ old then K else dropK K i ++ [(i, s)]
  | none => K ++ [(i, s)]
def lateK (K : List KV) (now : Int) : List KV := K.filter fun x => decide (now < x.2)
def overK (K : List KV) (now : Int) : List Int := (K.filter fun x => decide (x.2 ≤ now)).map (·.1)
def OneK (K : List KV) : Prop := (K.map (·.1)).Nodup
theorem getK_mem : ∀ (K : List KV) (i s : Int), getK K i = some s → (i, s) ∈ K
  | x :: r, i, s, h => by
    unfold getK at h
    split at h
    · rename_i e
      injection h with h
      subst e h
      exact List.mem_cons_self ..
    · exact List.mem_cons_of_mem _ (getK_mem r i s h)
theorem getK_none : ∀ (K : List KV) (i : Int), getK K i = none ↔ ∀ x ∈ K, x.1 ≠ i
  | [], i => by simp [getK]
  | x :: r, i => by
    unfold getK
    split
    · rename_i e
      simp [e]
    · rename_i e
      rw [getK_none r i]
      simp [e]
theorem getK_of (K : List KV) (i s : Int) (h1 : OneK K) (h : (i, s) ∈ K) : getK K i = some s := by
  induction K with
  | nil => cases h
  | cons x r ih =>
    unfold OneK at h1
    rw [List.map_cons, List.nodup_cons] at h1
    unfold getK
    rcases List.mem_cons.1 h with rfl | h
    · rw [if_pos rfl]
    · rw [if_neg (fun e => h1.1 (List.mem_map.2 ⟨_, h, e.symm⟩))]
      exact ih h1.2 h
theorem getK_iff {K : List KV} (h1 : OneK K) (i s : Int) : getK K i = some s ↔ (i, s) ∈ K := ⟨getK_mem K i s, getK_of K i s h1⟩
theorem oneK_filter {K : List KV} (h : OneK K) (f : KV → Bool) : OneK (K.filter f) := List.Nodup.sublist (List.Sublist.map _ List.filter_sublist) h
theorem oneK_drop {K : List KV} (h : OneK K) (i : Int) : OneK (dropK K i) := oneK_filter h _
theorem oneK_late {K : List KV} (h : OneK K) (n : Int) : OneK (lateK K n) := oneK_filter h _
theorem oneK_snoc {K : List KV} (h : OneK K) (i s : Int) (hn : ∀ x ∈ K, x.1 ≠ i) : OneK (K ++ [(i, s)]) := by
  unfold OneK
  rw [List.map_append, List.nodup_append]
  refine ⟨h, by simp, fun a ha b hb e => ?_⟩
  obtain ⟨x, hx, rfl⟩ := List.mem_map.1 ha
  simp at hb
  exact hn x hx (e.trans hb)
theorem drop_ne {K : List KV} {i : Int} : ∀ x ∈ dropK K i, x.1 ≠ i := fun x hx => by
  have := (List.mem_filter.1 hx).2
  simpa using this
theorem oneK_put {K : List KV} (h : OneK K) (i s : Int) : OneK (putK K i s) := by
  unfold putK
  split
  · split
    · exact h
    · exact oneK_snoc (oneK_drop h i) i s drop_ne
  · rename_i e
    exact oneK_snoc h i s ((getK_none K i).1 e)
theorem mem_drop {K : List KV} {i : Int} {x : KV} : x ∈ dropK K i ↔ x ∈ K ∧ x.1 ≠ i := by
  unfold dropK; rw [List.mem_filter]; simp
theorem getK_append (K L : List KV) (i : Int) : getK (K ++ L) i = (getK K i).or (getK L i) := by
  induction K with
  | nil => simp [getK]
  | cons x r ih =>
    rw [List.cons_append, getK, getK]
    split
    · simp
    · exact ih
theorem getK_drop (K : List KV) (i j : Int) : getK (dropK K i) j = if j = i then none else getK K j := by
  induction K with
  | nil => unfold dropK; simp [getK]
  | cons x r ih =>
    unfold dropK at ih ⊢
    rw [List.filter_cons]
    by_cases hx : x.1 = i
    · rw [if_neg (by simp [hx]), ih]
      by_cases hj : j = i
      · rw [if_pos hj, if_pos hj]
      · rw [if_neg hj, if_neg hj, getK, if_neg (fun e => hj (e.symm.trans hx))]
    · rw [if_pos (by simp [hx]), getK, getK, ih]
      by_cases hj : j = i
      · subst hj; simp [hx]
      · simp [hj]
theorem getK_put (K : List KV) (i s j : Int) : getK (putK K i s) j = if j = i then some (match getK K i with | some old => if s ≤ old then old else s | none => s) else getK K j := by
  unfold putK
  cases h : getK K i with
  | some old =>
    simp only
    by_cases hs : s ≤ old
    · rw [if_pos hs, if_pos hs]
      by_cases hj : j = i
      · rw [if_pos hj, hj, h]
      · rw [if_neg hj]
    · rw [if_neg hs, if_neg hs, getK_append, getK_drop]
      by_cases hj : j = i
      · rw [if_pos hj, if_pos hj]; simp [getK, hj]
      · rw [if_neg hj, if_neg hj]
        have hj' : ¬ i = j := fun e => hj e.symm
        simp [getK, hj']
  | none =>
    simp only
    rw [getK_append]
    by_cases hj : j = i
    · rw [if_pos hj, hj, h]; simp [getK]
    · have hj' : ¬ i = j := fun e => hj e.symm
      rw [if_neg hj]; simp [getK, hj']
theorem mem_put {K : List KV} {i s : Int} {x : KV} (h : x ∈ putK K i s) : x ∈ K ∨ x = (i, s) := by
  unfold putK at h
  split at h
  · split at h
    · exact .inl h
    · rcases List.mem_append.1 h with h | h
      · exact .inl (mem_drop.1 h).1
      · exact .inr (List.mem_singleton.1 h)
  · rcases List.mem_append.1 h with h | h
    · exact .inl h
    · exact .inr (List.mem_singleton.1 h)
theorem mem_late {K : List KV} {n : Int} {x : KV} : x ∈ lateK K n ↔ x ∈ K ∧ n < x.2 := by
  unfold lateK; rw [List.mem_filter]; simp
theorem getK_late {K : List KV} (h : OneK K) (n j : Int) : getK (lateK K n) j = match getK K j with | some s => if s ≤ n then none else some s | none => none := by
  cases hg : getK K j with
  | none =>
    simp only
    rw [getK_none] at hg ⊢
    exact fun x hx => hg x (mem_late.1 hx).1
  | some s =>
    simp only
    have hm := getK_mem K j s hg
    split
    · rename_i hle
      rw [getK_none]
      intro x hx e
      obtain ⟨hx1, hx2⟩ := mem_late.1 hx
      have := getK_of K x.1 x.2 h hx1
      rw [e, hg] at this
      injection this with this
      omega
    · rename_i hle
      exact getK_of _ _ _ (oneK_late h n) (mem_late.2 ⟨hm, by show n < s; omega⟩)
theorem mem_over {K : List KV} (h : OneK K) (n i : Int) : i ∈ overK K n ↔ ∃ s, getK K i = some s ∧ s ≤ n := by
  unfold overK
  constructor
  · intro hi
    obtain ⟨x, hx, rfl⟩ := List.mem_map.1 hi
    obtain ⟨h1, h2⟩ := List.mem_filter.1 hx
    exact ⟨x.2, getK_of K x.1 x.2 h h1, by simpa using h2⟩
  · rintro ⟨s, h1, h2⟩
    exact List.mem_map.2 ⟨(i, s), List.mem_filter.2 ⟨getK_mem K i s h1, by simpa using h2⟩, rfl⟩
theorem nodup_over {K : List KV} (h : OneK K) (n : Int) : (overK K n).Nodup := oneK_filter h _
theorem late_nil {K : List KV} {n : Int} (h : ∀ x ∈ K, x.2 ≤ n) : lateK K n = [] := by
  unfold lateK
  rw [List.filter_eq_nil_iff]
  intro x hx
  have := h x hx
  simp; omega
theorem stepK_gt {tick timeout now : Int} (ht : 1 ≤ tick) : now + timeout < stepK tick timeout now := by
  unfold stepK
  have := Int.lt_ediv_add_one_mul_self (now + timeout) (show 0 < tick by omega)
  exact this
theorem stepK_le {tick timeout now : Int} (ht : 1 ≤ tick) : stepK tick timeout now ≤ now + timeout + tick := by
  unfold stepK
  have := Int.ediv_mul_le (now + timeout) (show tick ≠ 0 by omega)
  rw [Int.add_mul, Int.one_mul]
  omega
def ltK (a b : KV) : Prop := a.2 < b.2 ∨ (a.2 = b.2 ∧ a.1 < b.1)
theorem ltK.trans {a b c : KV} (h : ltK a b) (h' : ltK b c) : ltK a c := by unfold ltK at *; omega
theorem ltK.ne {a b : KV} (h : ltK a b) : a ≠ b := fun e => by subst e; unfold ltK at h; omega
theorem ltK.tri {a b : KV} (h : ¬ ltK a b) (hne : a.1 ≠ b.1) : ltK b a := by unfold ltK at *; omega
/-- the order of ids by their deadlines in K -/
def ltI (K : List KV) (i j : Int) : Prop := ∃ s t, (i, s) ∈ K ∧ (j, t) ∈ K ∧ ltK (i, s) (j, t)
end Go.Proofs.YtbpmmmnphpkdjaaGreatDoor
