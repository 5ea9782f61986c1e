/- The document's clock on paper: a list that rises by deadline, then by id; what it has of a clock's list. No program in sight. -/
import Derived.Test.YtbpmmmnphpkdjaaGreatDoorZClkM
namespace Go.Proofs.YtbpmmmnphpkdjaaGreatDoor
/-- the document's list holds what the clock's list holds, in order -/
def Ref (K L : List KV) : Prop := L.Perm K ∧ L.Pairwise ltK
theorem Ref.nil : Ref [] [] := ⟨List.Perm.refl _, List.Pairwise.nil⟩
theorem oneK_perm {K L : List KV} (h : L.Perm K) (h1 : OneK K) : OneK L := (h.map _).nodup_iff.2 h1
theorem getK_perm {K L : List KV} (h : L.Perm K) (h1 : OneK K) (i : Int) : getK L i = getK K i := by
  cases hg : getK K i with
  | none =>
    rw [getK_none] at hg ⊢
    exact fun x hx => hg x (h.mem_iff.1 hx)
  | some s => exact getK_of L i s (oneK_perm h h1) (h.mem_iff.2 (getK_mem K i s hg))
theorem bang_mem {L : List KV} {k : Nat} (hk : k < L.length) : L[k]! ∈ L := by rw [getElem!_pos L k hk]; exact List.getElem_mem _
theorem getK_at {L : List KV} (h1 : OneK L) {k : Nat} (hk : k < L.length) {i : Int} (hi : L[k]!.1 = i) : getK L i = some L[k]!.2 := by
  rw [← hi]; exact getK_of L _ _ h1 (bang_mem hk)
theorem getK_not {L : List KV} {i : Int} (h : ∀ j, j < L.length → L[j]!.1 ≠ i) : getK L i = none := by
  rw [getK_none]
  intro x hx
  obtain ⟨j, hj, e⟩ := List.getElem_of_mem hx
  have := h j hj
  rwa [getElem!_pos L j hj, e] at this
theorem take_drop_at {L : List KV} {k : Nat} (hk : k < L.length) : L.take k ++ [L[k]!] ++ L.drop (k + 1) = L := by
  rw [getElem!_pos L k hk, List.append_assoc, List.singleton_append, ← List.drop_eq_getElem_cons hk, List.take_append_drop]
theorem drop_at {L : List KV} (h1 : OneK L) {k : Nat} (hk : k < L.length) {i : Int} (hi : L[k]!.1 = i) : dropK L i = L.take k ++ L.drop (k + 1) := by
  have e := take_drop_at hk
  have h2 : OneK (L.take k ++ [L[k]!] ++ L.drop (k + 1)) := by rw [e]; exact h1
  unfold OneK at h2
  rw [List.map_append, List.map_append, List.nodup_append, List.nodup_append] at h2
  obtain ⟨⟨_, _, h3⟩, _, h4⟩ := h2
  have a1 : (L.take k).filter (fun x => decide (x.1 ≠ i)) = L.take k := by
    rw [List.filter_eq_self]
    intro x hx
    have := h3 x.1 (List.mem_map.2 ⟨x, hx, rfl⟩) L[k]!.1 (by simp)
    rw [hi] at this
    simpa using this
  have a2 : (L.drop (k + 1)).filter (fun x => decide (x.1 ≠ i)) = L.drop (k + 1) := by
    rw [List.filter_eq_self]
    intro x hx
    have := h4 L[k]!.1 (List.mem_append.2 (.inr (by simp))) x.1 (List.mem_map.2 ⟨x, hx, rfl⟩)
    rw [hi] at this
    have := fun e : x.1 = i => this e.symm
    simpa using this
  conv => lhs; rw [← e]
  unfold dropK
  rw [List.filter_append, List.filter_append, a1, a2, List.filter_cons, if_neg (by rw [hi]; simp), List.filter_nil, List.append_nil]
theorem Ref.drop {K L : List KV} (h : Ref K L) (i : Int) : Ref (dropK K i) (dropK L i) := ⟨h.1.filter _, h.2.filter _⟩
/-- where a new one comes to stand -/
def AtK (L : List KV) (x : KV) (k : Nat) : Prop := k ≤ L.length ∧ (∀ j, j < k → ltK L[j]! x) ∧ (k = L.length ∨ (k < L.length ∧ ¬ ltK L[k]! x))
theorem ins_sorted {L : List KV} {x : KV} {k : Nat} (hs : L.Pairwise ltK) (hn : ∀ y ∈ L, y.1 ≠ x.1) (h : AtK L x k) : (L.take k ++ [x] ++ L.drop k).Pairwise ltK := by
  obtain ⟨hk, h1, h2⟩ := h
  rw [List.append_assoc, List.pairwise_append]
  refine ⟨hs.sublist (List.take_sublist _ _), ?_, fun a ha b hb => ?_⟩
  · rw [List.singleton_append, List.pairwise_cons]
    refine ⟨fun b hb => ?_, hs.sublist (List.drop_sublist _ _)⟩
    rcases h2 with h2 | ⟨h2, h3⟩
    · rw [h2, List.drop_length] at hb; cases hb
    · have h4 := h3
      have h5 := ltK.tri h3 (hn _ (bang_mem h2))
      rw [List.drop_eq_getElem_cons h2, ← getElem!_pos L k h2] at hb
      rcases List.mem_cons.1 hb with rfl | hb
      · exact h5
      · refine h5.trans ?_
        have h6 : (L[k]! :: L.drop (k + 1)).Pairwise ltK := by rw [getElem!_pos L k h2, ← List.drop_eq_getElem_cons h2]; exact hs.sublist (List.drop_sublist _ _)
        exact (List.pairwise_cons.1 h6).1 b hb
  · obtain ⟨j, hj, e⟩ := List.getElem_of_mem ha
    rw [List.length_take] at hj
    rw [List.getElem_take] at e
    have hax : ltK a x := by have := h1 j (by omega); rwa [getElem!_pos L j (by omega), e] at this
    rcases List.mem_append.1 hb with hb | hb
    · rw [List.mem_singleton.1 hb]; exact hax
    · have h6 : (L.take k ++ L.drop k).Pairwise ltK := by rw [List.take_append_drop]; exact hs
      exact (List.pairwise_append.1 h6).2.2 a ha b hb
theorem ins_perm {L : List KV} {x : KV} {k : Nat} : (L.take k ++ [x] ++ L.drop k).Perm (L ++ [x]) := by
  refine (List.perm_append_comm (l₁ := L.take k) (l₂ := [x])).append_right _ |>.trans ?_
  rw [List.append_assoc, List.take_append_drop]
  exact List.perm_append_comm
theorem Ref.put {K L : List KV} (h : Ref K L) {i s : Int} (hg : ∀ old, getK K i = some old → old < s) {k : Nat} (hk : AtK (dropK L i) (i, s) k) : Ref (putK K i s) ((dropK L i).take k ++ [(i, s)] ++ (dropK L i).drop k) := by
  have e : putK K i s = dropK K i ++ [(i, s)] := by
    unfold putK
    split
    · rename_i old ho
      rw [if_neg (by have := hg old ho; omega)]
    · rename_i ho
      congr 1
      unfold dropK
      rw [eq_comm, List.filter_eq_self]
      intro x hx
      have := (getK_none K i).1 ho x hx
      simpa using this
  rw [e]
  exact ⟨ins_perm.trans ((h.drop i).1.append_right _), ins_sorted (h.drop i).2 (fun y hy => drop_ne y hy) hk⟩
theorem put_same {K : List KV} {i s old : Int} (hg : getK K i = some old) (h : s ≤ old) : putK K i s = K := by
  unfold putK; rw [hg]; simp only; rw [if_pos h]
theorem ltI.asymm {K : List KV} (h1 : OneK K) {i j : Int} (h : ltI K i j) (h' : ltI K j i) : False := by
  obtain ⟨s, t, a, b, c⟩ := h
  obtain ⟨t', s', a', b', c'⟩ := h'
  have e1 := (getK_of K i s h1 a).symm.trans (getK_of K i s' h1 b')
  have e2 := (getK_of K j t h1 b).symm.trans (getK_of K j t' h1 a')
  injection e1 with e1; injection e2 with e2
  subst e1 e2
  unfold ltK at c c'; simp only at c c'; omega
theorem strict_ext {α : Type} {R : α → α → Prop} (hR : ∀ a b, R a b → R b a → False) : ∀ l m : List α, l.Pairwise R → m.Pairwise R → (∀ x, x ∈ l ↔ x ∈ m) → l = m
  | [], [], _, _, _ => rfl
  | [], b :: m, _, _, h => absurd ((h b).2 (List.mem_cons_self ..)) (by simp)
  | a :: l, [], _, _, h => absurd ((h a).1 (List.mem_cons_self ..)) (by simp)
  | a :: l, b :: m, hl, hm, h => by
    have hl' := hl; have hm' := hm
    rw [List.pairwise_cons] at hl hm
    have e : a = b := by
      rcases List.mem_cons.1 ((h a).1 (List.mem_cons_self ..)) with e | ha
      · exact e
      · rcases List.mem_cons.1 ((h b).2 (List.mem_cons_self ..)) with e | hb
        · exact e.symm
        · exact (hR a b (hl.1 b hb) (hm.1 a ha)).elim
    subst e
    have ht := strict_ext hR l m hl.2 hm.2 fun x => by
      constructor
      · intro hx
        rcases List.mem_cons.1 ((h x).1 (List.mem_cons_of_mem _ hx)) with e | hx2
        · subst e; exact (hR _ _ (hl.1 _ hx) (hl.1 _ hx)).elim
        · exact hx2
      · intro hx
        rcases List.mem_cons.1 ((h x).2 (List.mem_cons_of_mem _ hx)) with e | hx2
        · subst e; exact (hR _ _ (hm.1 _ hx) (hm.1 _ hx)).elim
        · exact hx2
    rw [ht]
/-- who is told, in order, is the beginning of the document's list -/
theorem Ref.told {K L : List KV} (h : Ref K L) (h1 : OneK K) {E : List Int} {now : Int} (hE : ∀ i, i ∈ E ↔ i ∈ overK K now) (hO : E.Pairwise (ltI K)) {k : Nat} (hk : k ≤ L.length) (hlow : ∀ j, j < k → L[j]!.2 ≤ now) (hend : k = L.length ∨ (k < L.length ∧ now < L[k]!.2)) :
    E = (L.take k).map (·.1) ∧ Ref (lateK K now) (L.drop k) := by
  have hhigh : ∀ y ∈ L.drop k, now < y.2 := fun y hy => by
    rcases hend with he | ⟨he1, he2⟩
    · rw [he, List.drop_length] at hy; cases hy
    · have h6 : (L[k]! :: L.drop (k + 1)).Pairwise ltK := by rw [getElem!_pos L k he1, ← List.drop_eq_getElem_cons he1]; exact h.2.sublist (List.drop_sublist _ _)
      rw [List.drop_eq_getElem_cons he1, ← getElem!_pos L k he1] at hy
      rcases List.mem_cons.1 hy with rfl | hy
      · exact he2
      · have := (List.pairwise_cons.1 h6).1 y hy
        unfold ltK at this; omega
  have hlo : ∀ y ∈ L.take k, y.2 ≤ now := fun y hy => by
    obtain ⟨j, hj, e⟩ := List.getElem_of_mem hy
    rw [List.length_take] at hj
    rw [List.getElem_take] at e
    have := hlow j (by omega)
    rwa [getElem!_pos L j (by omega), e] at this
  constructor
  · refine strict_ext (fun a b => ltI.asymm h1) _ _ hO ?_ fun i => ?_
    · rw [List.pairwise_map]
      refine (List.Pairwise.and_mem.1 (h.2.sublist (List.take_sublist k L))).imp fun {a b} hh => ?_
      obtain ⟨ha, hb, hab⟩ := hh
      exact ⟨a.2, b.2, h.1.mem_iff.1 (List.mem_of_mem_take ha), h.1.mem_iff.1 (List.mem_of_mem_take hb), hab⟩
    · rw [hE, mem_over h1, List.mem_map]
      constructor
      · rintro ⟨s, hs, hle⟩
        have hm := h.1.mem_iff.2 (getK_mem K i s hs)
        rw [← List.take_append_drop k L] at hm
        rcases List.mem_append.1 hm with hm | hm
        · exact ⟨_, hm, rfl⟩
        · have := hhigh _ hm; simp only at this; omega
      · rintro ⟨y, hy, rfl⟩
        exact ⟨y.2, getK_of K y.1 y.2 h1 (h.1.mem_iff.1 (List.mem_of_mem_take hy)), hlo y hy⟩
  · have e : L.drop k = L.filter fun x => decide (now < x.2) := by
      conv => rhs; rw [← List.take_append_drop k L]
      rw [List.filter_append]
      have a1 : (L.take k).filter (fun x => decide (now < x.2)) = [] := by
        rw [List.filter_eq_nil_iff]
        intro x hx
        have := hlo x hx
        simp; omega
      have a2 : (L.drop k).filter (fun x => decide (now < x.2)) = L.drop k := by
        rw [List.filter_eq_self]
        intro x hx
        have := hhigh x hx
        simpa using this
      rw [a1, a2, List.nil_append]
    refine ⟨?_, h.2.sublist (List.drop_sublist _ _)⟩
    rw [e]
    exact h.1.filter _
theorem Ref.next {K L : List KV} (h : Ref K L) {m : Int} (hm : ∃ x ∈ K, x.2 = m) (hall : ∀ x ∈ K, m ≤ x.2) : 0 < L.length ∧ L[0]!.2 = m := by
  obtain ⟨x, hx, e⟩ := hm
  have hxL := h.1.mem_iff.2 hx
  match L, hxL, h with
  | a :: r, hxL, h =>
    refine ⟨by simp, ?_⟩
    have e0 : (a :: r)[0]! = a := rfl
    rw [e0]
    have h1 := hall a (h.1.mem_iff.1 (List.mem_cons_self ..))
    rcases List.mem_cons.1 hxL with rfl | hr
    · exact e
    · have := (List.pairwise_cons.1 h.2).1 x hr
      unfold ltK at this; omega
theorem Ref.empty {L : List KV} (h : Ref [] L) : L = [] := List.Perm.eq_nil h.1
theorem drop_none {K : List KV} {i : Int} (h : getK K i = none) : dropK K i = K := by
  unfold dropK
  rw [List.filter_eq_self]
  intro x hx
  have := (getK_none K i).1 h x hx
  simpa using this
end Go.Proofs.YtbpmmmnphpkdjaaGreatDoor
