/- Plain laws of what is kept of a list: each once, right, not empty, and kept again as it is; who may goes on when more is said. No program in sight. -/
import Derived.Test.YtmchfdmnngngiaaDoorAclP
namespace Go.Proofs.YtmchfdmnngngiaaDoor
theorem likeP_mono {ids ids' : List IdV} (h : ∀ f : IdV → Bool, ids.any f = true → ids'.any f = true) (x : IdV) (hx : likeP x ids = true) : likeP x ids' = true := by
  unfold likeP at hx ⊢
  split
  · rfl
  · rename_i h1
    rw [if_neg h1] at hx
    split
    · rename_i h2
      rw [if_pos h2] at hx
      exact h _ hx
    · rename_i h2
      rw [if_neg h2] at hx
      exact h _ hx
theorem any_more (ids : List IdV) (x : IdV) (f : IdV → Bool) (h : ids.any f = true) : (ids ++ [x]).any f = true := by rw [List.any_append, h]; rfl
theorem mayP_more (l : List AclV) (p : Int) (ids : List IdV) (x : IdV) (h : mayP l p ids = true) : mayP l p (ids ++ [x]) = true := by
  unfold mayP at h ⊢
  rw [Bool.or_eq_true, Bool.or_eq_true] at h ⊢
  rcases h with (h | h) | h
  · exact .inl (.inl h)
  · exact .inl (.inr (any_more ids x _ h))
  · refine .inr ?_
    rw [List.any_eq_true] at h ⊢
    obtain ⟨a, ha, hl⟩ := h
    refine ⟨a, ha, ?_⟩
    unfold lets at hl ⊢
    rw [Bool.and_eq_true, Bool.and_eq_true] at hl ⊢
    exact ⟨hl.1, likeP_mono (any_more ids x) _ hl.2⟩
theorem mayP_super (l : List AclV) (p : Int) (ids : List IdV) (t : ByteArray) : mayP l p (ids ++ [(sSuper, t)]) = true := by
  unfold mayP
  rw [List.any_append]
  simp

theorem putP_mem {l : List AclV} {a b : AclV} (h : b ∈ putP l a) : b ∈ l ∨ b = a := by
  unfold putP at h
  split at h
  · exact .inl h
  · rcases List.mem_append.1 h with h | h
    · exact .inl h
    · exact .inr (List.mem_singleton.1 h)
theorem putP_nodup {l : List AclV} {a : AclV} (h : l.Nodup) : (putP l a).Nodup := by
  unfold putP
  split
  · exact h
  · rename_i hn
    rw [List.nodup_append]
    refine ⟨h, by simp, fun x hx y hy => ?_⟩
    rw [List.mem_singleton] at hy
    subst hy
    intro e
    subst e
    exact hn (List.any_eq_true.2 ⟨x, hx, by simp⟩)
theorem putP_ne (l : List AclV) (a : AclV) : putP l a ≠ [] := by
  unfold putP
  split
  · rename_i h
    intro e
    subst e
    simp at h
  · simp
theorem putP_new {l : List AclV} {a : AclV} (h : a ∉ l) : putP l a = l ++ [a] := by
  unfold putP
  rw [if_neg]
  rw [List.any_eq_true]
  rintro ⟨b, hb, e⟩
  exact h ((of_decide_eq_true e) ▸ hb)
theorem idFoldl_inv (P : AclV → Prop) (p : Int) : ∀ (ids : List IdV) (o : List AclV), (∀ x ∈ ids, x.1 = sDigest → P (p, x)) → o.Nodup → (∀ a ∈ o, P a) →
    (ids.foldl (idStep p) o).Nodup ∧ ∀ a ∈ ids.foldl (idStep p) o, P a
  | [], o, _, hn, ho => ⟨hn, ho⟩
  | x :: r, o, hx, hn, ho => by
    rw [List.foldl_cons]
    refine idFoldl_inv P p r _ (fun y hy => hx y (List.mem_cons_of_mem _ hy)) ?_ ?_
    · unfold idStep; split
      · exact putP_nodup hn
      · exact hn
    · unfold idStep; split
      · rename_i hd
        intro a ha
        rcases putP_mem ha with ha | rfl
        · exact ho a ha
        · exact hx x (List.mem_cons_self ..) hd
      · exact ho
theorem idFoldl_keep (p : Int) : ∀ (ids : List IdV) (o : List AclV), o ≠ [] → ids.foldl (idStep p) o ≠ []
  | [], o, h => h
  | x :: r, o, h => by
    rw [List.foldl_cons]
    refine idFoldl_keep p r _ ?_
    unfold idStep; split
    · exact putP_ne _ _
    · exact h
theorem idFoldl_ne (p : Int) : ∀ (ids : List IdV) (o : List AclV), ids.any (fun x => decide (x.1 = sDigest)) = true → ids.foldl (idStep p) o ≠ []
  | [], o, h => by simp at h
  | x :: r, o, h => by
    rw [List.foldl_cons]
    rw [List.any_cons, Bool.or_eq_true] at h
    by_cases hx : x.1 = sDigest
    · refine idFoldl_keep p r _ ?_
      unfold idStep; rw [if_pos hx]; exact putP_ne _ _
    · rcases h with h | h
      · exact absurd (of_decide_eq_true h) hx
      · exact idFoldl_ne p r _ h
theorem fixStep_inv (P : AclV → Prop) (ids : List IdV) (o o' : List AclV) (a : AclV) (hr : ∀ a, rightP a = true → P a) (hx : ∀ p x, 0 ≤ p → p ≤ 31 → x ∈ ids → x.1 = sDigest → P (p, x))
    (h : fixStep ids o a = some o') (hn : o.Nodup) (ho : ∀ a ∈ o, P a) : o'.Nodup ∧ (∀ a ∈ o', P a) ∧ o' ≠ [] := by
  unfold fixStep at h
  split at h
  · rename_i h1
    injection h with h
    subst h
    refine ⟨putP_nodup hn, fun b hb => ?_, putP_ne _ _⟩
    rcases putP_mem hb with hb | rfl
    · exact ho b hb
    · exact hr _ h1
  · split at h
    · rename_i h2
      injection h with h
      subst h
      rw [Bool.and_eq_true] at h2
      unfold authP at h2
      simp only [Bool.and_eq_true, decide_eq_true_eq] at h2
      have := idFoldl_inv P a.1 ids o (fun x hxm hd => hx a.1 x h2.1.1.2 h2.1.2 hxm hd) hn ho
      exact ⟨this.1, this.2, idFoldl_ne a.1 ids o h2.2⟩
    · cases h
theorem fixF_inv (P : AclV → Prop) (ids : List IdV) (hr : ∀ a, rightP a = true → P a) (hx : ∀ p x, 0 ≤ p → p ≤ 31 → x ∈ ids → x.1 = sDigest → P (p, x)) :
    ∀ (l o o' : List AclV), fixF ids o l = some o' → o.Nodup → (∀ a ∈ o, P a) → o'.Nodup ∧ (∀ a ∈ o', P a) ∧ (l ≠ [] ∨ o ≠ [] → o' ≠ [])
  | [], o, o', h, hn, ho => by
    rw [fixF] at h
    injection h with h
    subst h
    exact ⟨hn, ho, fun h => h.elim (fun h => absurd rfl h) id⟩
  | a :: r, o, o', h, hn, ho => by
    rw [fixF] at h
    cases hs : fixStep ids o a with
    | none => rw [hs] at h; cases h
    | some q =>
      rw [hs] at h
      obtain ⟨q1, q2, q3⟩ := fixStep_inv P ids o q a hr hx hs hn ho
      obtain ⟨r1, r2, r3⟩ := fixF_inv P ids hr hx r q o' h q1 q2
      exact ⟨r1, r2, fun _ => r3 (.inr q3)⟩
theorem fixP_some {l : List AclV} {ids : List IdV} {o : List AclV} (h : fixP l ids = some o) : l ≠ [] ∧ fixF ids [] l = some o ∧ o.length ≤ 16 := by
  unfold fixP at h
  split at h
  · cases h
  · rename_i h1
    have hl : l ≠ [] := fun e => h1 (.inl (by rw [e]; rfl))
    cases hf : fixF ids [] l with
    | none => rw [hf] at h; cases h
    | some q =>
      rw [hf] at h
      simp only at h
      split at h
      · cases h
      · rename_i h2
        injection h with h
        subst h
        exact ⟨hl, rfl, by omega⟩
theorem fixP_good {l : List AclV} {ids : List IdV} {o : List AclV} (h : fixP l ids = some o) : o.Nodup ∧ (∀ a ∈ o, rightP a = true ∨ a.2.1 = sDigest) ∧ o ≠ [] ∧ o.length ≤ 16 := by
  obtain ⟨h1, h2, h3⟩ := fixP_some h
  obtain ⟨r1, r2, r3⟩ := fixF_inv (fun a => rightP a = true ∨ a.2.1 = sDigest) ids (fun a ha => .inl ha) (fun p x _ _ _ hd => .inr hd) l [] o h2 (by simp) (fun a ha => by cases ha)
  exact ⟨r1, r2, r3 (.inl h1), h3⟩
theorem right_of_ident {p : Int} {x : IdV} (h0 : 0 ≤ p) (h1 : p ≤ 31) (hx : identP x = true) (hd : x.1 = sDigest) : rightP (p, x) = true := by
  unfold identP at hx
  rw [if_pos hd] at hx
  simp only [Bool.and_eq_true] at hx
  unfold rightP
  have hw : ¬ (x.1 = sWorld) := by rw [hd]; decide
  simp only [Bool.and_eq_true, decide_eq_true_eq]
  rw [if_neg hw, if_pos hd]
  exact ⟨⟨⟨⟨h0, h1⟩, hx.1.1⟩, hx.1.2⟩, hx.2⟩
theorem fixP_right {l : List AclV} {ids : List IdV} {o : List AclV} (h : fixP l ids = some o) (hi : ∀ x ∈ ids, identP x = true) : ∀ a ∈ o, rightP a = true := by
  obtain ⟨h1, h2, h3⟩ := fixP_some h
  exact (fixF_inv (fun a => rightP a = true) ids (fun a ha => ha) (fun p x h0 h1 hx hd => right_of_ident h0 h1 (hi x hx) hd) l [] o h2 (by simp) (fun a ha => by cases ha)).2.1
theorem fixF_self (ids : List IdV) : ∀ (l o : List AclV), (o ++ l).Nodup → (∀ a ∈ l, rightP a = true) → fixF ids o l = some (o ++ l)
  | [], o, _, _ => by rw [fixF, List.append_nil]
  | a :: r, o, hn, hr => by
    have ha : a ∉ o := by
      rw [List.nodup_append] at hn
      intro h
      exact hn.2.2 a h a (List.mem_cons_self ..) rfl
    rw [fixF, fixStep, if_pos (hr a (List.mem_cons_self ..))]
    simp only
    rw [putP_new ha, fixF_self ids r (o ++ [a]) (by rw [List.append_assoc]; exact hn) (fun b hb => hr b (List.mem_cons_of_mem _ hb)), List.append_assoc]
    rfl
theorem fixP_self {o : List AclV} (ids : List IdV) (hn : o.Nodup) (hr : ∀ a ∈ o, rightP a = true) (h0 : o ≠ []) (h16 : o.length ≤ 16) : fixP o ids = some o := by
  unfold fixP
  rw [if_neg (by
    rintro (h | h)
    · exact h0 (List.length_eq_zero_iff.1 h)
    · omega)]
  rw [fixF_self ids o [] hn hr]
  simp only [List.nil_append]
  rw [if_neg (by omega)]
theorem nodup_ne {o : List AclV} (h : o.Nodup) {k i : Nat} (hk : k < i) (hi : i < o.length) : decide (o[k]! = o[i]!) = false := by
  refine decide_eq_false fun e => ?_
  rw [getElem!_pos o k (by omega), getElem!_pos o i hi] at e
  exact (List.pairwise_iff_getElem.1 h) k i (by omega) hi hk e
theorem bang_mem {α : Type} [Inhabited α] {o : List α} {i : Nat} (hi : i < o.length) : o[i]! ∈ o := by
  rw [getElem!_pos o i hi]; exact List.getElem_mem _
end Go.Proofs.YtmchfdmnngngiaaDoor
