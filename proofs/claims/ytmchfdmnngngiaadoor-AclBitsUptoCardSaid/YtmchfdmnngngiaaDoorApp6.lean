/- append of two lists, for the laws of the acl chapter; what May says of a list joined. -/
import Derived.Test.YtmchfdmnngngiaaDoorLaw6
import Derived.Test.YtmchfdmnngngiaaDoorAclLive
namespace Go.Proofs.YtmchfdmnngngiaaDoor
open Go.RowKit

theorem own_belowG {w w' : World} {base n : Nat} {T : TypeId} {k : Nat} {v : Value} {r : List Value} (h : w.ownsRow base T k v n r) (hg : w.grownBy w' v.ownBlock) (hb : base ≤ w.heap.size) : Below base w w' := by
  refine (Below.refl base w).grown hg hb (fun j hj => ?_)
  rcases h with ⟨_, ⟨e, e2⟩ | ⟨g, cap, cur, e, hge, _⟩⟩
  · rw [e] at hj; cases hj
  · rw [e] at hj; injection hj with hj; simp only at hj; omega
theorem wpList_appA {ops : Array Oper} {rest : List Oper} {o : Oper} {a : Act} {Q : Exit → Act → World → Prop} {w : World} (hgd : o.guard = none) (s x : Operand)
    (ho : o.op = .call { callee := .builtin .append, args := #[s, x], argTypes := #[22, 22] }) (base : Nat) (A : Option Addr) (n c : Nat) (l : List AclV) (hs : a.eval s = .slice A n c)
    (hown : w.ownsRow base 42 3 (.slice A n c) n (l.flatMap encAcl)) (A' : Option Addr) (m c' : Nat) (l' : List AclV) (hx : a.eval x = .slice A' m c') (hsl : Sl w w.heap.size encAcl 3 A' m l')
    (hA' : A' = none → m = 0 ∧ c' = 0) (hn : n + m ≤ 16777216) (hbase : base ≤ w.heap.size)
    (h : ∀ A2 c2 w', w'.ownsRow base 42 3 (.slice A2 (n + m) c2) (n + m) ((l ++ l').flatMap encAcl) → Below base w w' → wpList Tryd.prog ops Q rest (a.put o.dst (.slice A2 (n + m) c2)) w') : wpList Tryd.prog ops Q (o :: rest) a w := by
  obtain ⟨i0, hi0, hz0, hz1, hz2⟩ := info_parts infoAcl
  cases A' with
  | none =>
    obtain ⟨rfl, rfl⟩ := hA' rfl
    have hl0 : l' = [] := List.length_eq_zero_iff.1 hsl.len
    subst hl0
    refine wpList_append_own_none hgd s x _ ho base _ i0 3 Tryd.underlying22 hi0 _ n _ hs hown hx ?_
    have := h A c w (by rw [List.append_nil]; exact hown) (Below.refl _ _)
    exact this
  | some a0 =>
    refine wpList_append_own w hgd s x _ ho base 42 i0 _ 3 40 Tryd.underlying22 hi0 hz0 hz1 hz2 rfl (by decide) _ n _ hs hown a0 m c' (l'.flatMap encAcl) hx (by rw [flat_len (k := 3) (fun _ => rfl), hsl.len]) (Sl.news (k := 3) (fun _ => rfl) (by decide) hsl) ?_ (by unfold maxLen; omega) (by omega) hbase ?_
    · intro u hu
      obtain ⟨x, _, hx⟩ := List.mem_flatMap.1 hu
      simp [encAcl] at hx
      rcases hx with rfl | rfl | rfl <;> rfl
    · intro v' w' h1 h2 _
      obtain ⟨A2, c2, rfl⟩ := own_form h1
      refine h A2 c2 w' ?_ (own_belowG hown h2 hbase)
      rw [List.flatMap_append]; exact h1
theorem wpList_appI {ops : Array Oper} {rest : List Oper} {o : Oper} {a : Act} {Q : Exit → Act → World → Prop} {w : World} (hgd : o.guard = none) (s x : Operand)
    (ho : o.op = .call { callee := .builtin .append, args := #[s, x], argTypes := #[23, 23] }) (base : Nat) (A : Option Addr) (n c : Nat) (l : List IdV) (hs : a.eval s = .slice A n c)
    (hown : w.ownsRow base 27 2 (.slice A n c) n (l.flatMap encId)) (A' : Option Addr) (m c' : Nat) (l' : List IdV) (hx : a.eval x = .slice A' m c') (hsl : Sl w w.heap.size encId 2 A' m l')
    (hA' : A' = none → m = 0 ∧ c' = 0) (hn : n + m ≤ 16777216) (hbase : base ≤ w.heap.size)
    (h : ∀ A2 c2 w', w'.ownsRow base 27 2 (.slice A2 (n + m) c2) (n + m) ((l ++ l').flatMap encId) → Below base w w' → wpList Tryd.prog ops Q rest (a.put o.dst (.slice A2 (n + m) c2)) w') : wpList Tryd.prog ops Q (o :: rest) a w := by
  obtain ⟨i0, hi0, hz0, hz1, hz2⟩ := info_parts infoId
  cases A' with
  | none =>
    obtain ⟨rfl, rfl⟩ := hA' rfl
    have hl0 : l' = [] := List.length_eq_zero_iff.1 hsl.len
    subst hl0
    refine wpList_append_own_none hgd s x _ ho base _ i0 2 Tryd.underlying23 hi0 _ n _ hs hown hx ?_
    have := h A c w (by rw [List.append_nil]; exact hown) (Below.refl _ _)
    exact this
  | some a0 =>
    refine wpList_append_own w hgd s x _ ho base 27 i0 _ 2 32 Tryd.underlying23 hi0 hz0 hz1 hz2 rfl (by decide) _ n _ hs hown a0 m c' (l'.flatMap encId) hx (by rw [flat_len (k := 2) (fun _ => rfl), hsl.len]) (Sl.news (k := 2) (fun _ => rfl) (by decide) hsl) ?_ (by unfold maxLen; omega) (by omega) hbase ?_
    · intro u hu
      obtain ⟨x, _, hx⟩ := List.mem_flatMap.1 hu
      simp [encId] at hx
      rcases hx with rfl | rfl <;> rfl
    · intro v' w' h1 h2 _
      obtain ⟨A2, c2, rfl⟩ := own_form h1
      refine h A2 c2 w' ?_ (own_belowG hown h2 hbase)
      rw [List.flatMap_append]; exact h1
theorem small_app {l l' : List AclV} {n m : Nat} (hl : l.length = n) (h : SmallA l n) (h' : SmallA l' m) : SmallA (l ++ l') (n + m) := by
  intro j hj
  by_cases hlt : j < n
  · have e : (l ++ l')[j]! = l[j]! := by simp [List.getElem!_eq_getElem?_getD, List.getElem?_append_left (show j < l.length by omega)]
    rw [e]; exact h j hlt
  · have e : (l ++ l')[j]! = l'[j - n]! := by simp [List.getElem!_eq_getElem?_getD, List.getElem?_append_right (show l.length ≤ j by omega), hl]
    rw [e]; exact h' (j - n) (by omega)
theorem small_appI {l l' : List IdV} {n m : Nat} (hl : l.length = n) (h : SmallI l n) (h' : SmallI l' m) : SmallI (l ++ l') (n + m) := by
  intro j hj
  by_cases hlt : j < n
  · have e : (l ++ l')[j]! = l[j]! := by simp [List.getElem!_eq_getElem?_getD, List.getElem?_append_left (show j < l.length by omega)]
    rw [e]; exact h j hlt
  · have e : (l ++ l')[j]! = l'[j - n]! := by simp [List.getElem!_eq_getElem?_getD, List.getElem?_append_right (show l.length ≤ j by omega), hl]
    rw [e]; exact h' (j - n) (by omega)
theorem mayP_nil (p : Int) (ids : List IdV) : mayP [] p ids = true := rfl
theorem mayP_app (l m : List AclV) (p : Int) (ids : List IdV) (hl : l ≠ []) (hm : m ≠ []) : mayP (l ++ m) p ids = (mayP l p ids || mayP m p ids) := by
  unfold mayP
  rw [List.any_append]
  cases l with
  | nil => exact absurd rfl hl
  | cons a l =>
    cases m with
    | nil => exact absurd rfl hm
    | cons b m =>
      simp only [List.cons_append, List.isEmpty_cons, Bool.false_or]
      cases ids.any (fun x => decide (x.1 = sSuper)) <;> simp
theorem hit_or (a p q r : Int) (h : BitVec.ofInt 32 r = BitVec.ofInt 32 p ||| BitVec.ofInt 32 q) : hit a r = (hit a p || hit a q) := by
  unfold hit
  rw [h]
  have e : BitVec.ofInt 32 a &&& (BitVec.ofInt 32 p ||| BitVec.ofInt 32 q) = (BitVec.ofInt 32 a &&& BitVec.ofInt 32 p) ||| (BitVec.ofInt 32 a &&& BitVec.ofInt 32 q) := by ext i; simp [Bool.and_or_distrib_left]
  rw [e]
  generalize BitVec.ofInt 32 a &&& BitVec.ofInt 32 p = x
  generalize BitVec.ofInt 32 a &&& BitVec.ofInt 32 q = y
  by_cases hx : x = 0#32 <;> by_cases hy : y = 0#32
  · subst hx hy; rfl
  · subst hx; simp [hy]
  · subst hy; simp [hx]
  · have : x ||| y ≠ 0#32 := fun h0 => hx (by
      have : ∀ i : Nat, x.getLsbD i = false := fun i => by
        have := congrArg (fun z => BitVec.getLsbD z i) h0
        simp at this; exact this.1
      exact BitVec.eq_of_getLsbD_eq (fun i _ => by rw [this i]; simp))
    simp [hx, hy, this]
theorem mayP_or (l : List AclV) (p q r : Int) (ids : List IdV) (h : BitVec.ofInt 32 r = BitVec.ofInt 32 p ||| BitVec.ofInt 32 q) : mayP l r ids = (mayP l p ids || mayP l q ids) := by
  have e : ∀ a, lets r ids a = (lets p ids a || lets q ids a) := fun a => by
    unfold lets; rw [hit_or _ _ _ _ h]
    cases rightP a <;> cases hit a.1 p <;> cases hit a.1 q <;> cases likeP a.2 ids <;> rfl
  have e2 : l.any (lets r ids) = (l.any (lets p ids) || l.any (lets q ids)) := by
    induction l with
    | nil => rfl
    | cons a l ih =>
      simp only [List.any_cons, e, ih]
      cases lets p ids a <;> cases lets q ids a <;> cases l.any (lets p ids) <;> rfl
  unfold mayP
  rw [e2]
  cases l.isEmpty <;> cases ids.any (fun x => decide (x.1 = sSuper)) <;> simp
end Go.Proofs.YtmchfdmnngngiaaDoor
