/- append of two lists at a step of a region that draws its order. -/
import Derived.Test.YtmchfdmnngngiaaDoorReg6
namespace Go.Proofs.YtmchfdmnngngiaaDoor
open Go.RowKit
theorem wp_appA {o : Oper} {a : Act} {K : Act → World → Prop} {Q : Exit → Act → World → Prop} {w : World} (s x : Operand)
    (ho : o.op = .call { callee := .builtin .append, args := #[s, x], argTypes := #[22, 22] }) (base : Nat) (A : Option Addr) (n c : Nat) (l : List AclV) (hs : a.eval s = .slice A n c)
    (hown : w.ownsRow base 42 3 (.slice A n c) n (l.flatMap encAcl)) (A' : Option Addr) (m c' : Nat) (l' : List AclV) (hx : a.eval x = .slice A' m c') (hsl : Sl w w.heap.size encAcl 3 A' m l')
    (hA' : A' = none → m = 0 ∧ c' = 0) (hn : n + m ≤ 16777216) (hbase : base ≤ w.heap.size)
    (h : ∀ A2 c2 w', w'.ownsRow base 42 3 (.slice A2 (n + m) c2) (n + m) ((l ++ l').flatMap encAcl) → Below base w w' → K (a.put o.dst (.slice A2 (n + m) c2)) w') : Oper.wp Tryd.prog o a w K Q := by
  obtain ⟨i0, hi0, hz0, hz1, hz2⟩ := info_parts infoAcl
  cases A' with
  | none =>
    obtain ⟨rfl, rfl⟩ := hA' rfl
    have hl0 : l' = [] := List.length_eq_zero_iff.1 hsl.len
    subst hl0
    have hrun := run_append_owned_none (P := Tryd.prog) (w := w) base 22 o.type 42 i0 3 Tryd.underlying22 hi0 _ n _ hown
    have h' := h A c w (by rw [List.append_nil]; exact hown) (Below.refl _ _)
    unfold Oper.wp
    simp [execOp, ho, resolve, invoke, builtin, hs, hx, hrun, Result.andThen]
    exact h'
  | some a0 =>
    refine wp_append_own w s x _ ho base 42 i0 _ 3 40 Tryd.underlying22 hi0 hz0 hz1 hz2 rfl (by decide) _ n _ hs hown a0 m c' (l'.flatMap encAcl) hx (by rw [flat_len (k := 3) (fun _ => rfl), hsl.len]) (Sl.news (k := 3) (fun _ => rfl) (by decide) hsl) ?_ (by unfold maxLen; omega) (by omega) hbase ?_
    · intro u hu
      obtain ⟨x, _, hx⟩ := List.mem_flatMap.1 hu
      simp [encAcl] at hx
      rcases hx with rfl | rfl | rfl <;> rfl
    · intro v' w' h1 h2 _
      obtain ⟨A2, c2, rfl⟩ := own_form h1
      refine h A2 c2 w' ?_ (own_belowG hown h2 hbase)
      rw [List.flatMap_append]; exact h1
theorem step_appA {ops : Array Oper} {o : Oper} {a : Act} {K : Act → World → Prop} {Q : Exit → Act → World → Prop} {E : Prop} {w : World} (hw : Region.wanted o (yielded ops a.tmps) = true) (s x : Operand)
    (ho : o.op = .call { callee := .builtin .append, args := #[s, x], argTypes := #[22, 22] }) (base : Nat) (A : Option Addr) (n c : Nat) (l : List AclV) (hs : a.eval s = .slice A n c)
    (hown : w.ownsRow base 42 3 (.slice A n c) n (l.flatMap encAcl)) (A' : Option Addr) (m c' : Nat) (l' : List AclV) (hx : a.eval x = .slice A' m c') (hsl : Sl w w.heap.size encAcl 3 A' m l')
    (hA' : A' = none → m = 0 ∧ c' = 0) (hn : n + m ≤ 16777216) (hbase : base ≤ w.heap.size)
    (h : ∀ A2 c2 w', w'.ownsRow base 42 3 (.slice A2 (n + m) c2) (n + m) ((l ++ l').flatMap encAcl) → Below base w w' → K (a.put o.dst (.slice A2 (n + m) c2)) w') : if Region.wanted o (yielded ops a.tmps) = true then Oper.wp Tryd.prog o a w K Q else E := by
  rw [if_pos hw]
  exact wp_appA s x ho base A n c l hs hown A' m c' l' hx hsl hA' hn hbase h
theorem wp_appI {o : Oper} {a : Act} {K : Act → World → Prop} {Q : Exit → Act → World → Prop} {w : World} (s x : Operand)
    (ho : o.op = .call { callee := .builtin .append, args := #[s, x], argTypes := #[23, 23] }) (base : Nat) (A : Option Addr) (n c : Nat) (l : List IdV) (hs : a.eval s = .slice A n c)
    (hown : w.ownsRow base 27 2 (.slice A n c) n (l.flatMap encId)) (A' : Option Addr) (m c' : Nat) (l' : List IdV) (hx : a.eval x = .slice A' m c') (hsl : Sl w w.heap.size encId 2 A' m l')
    (hA' : A' = none → m = 0 ∧ c' = 0) (hn : n + m ≤ 16777216) (hbase : base ≤ w.heap.size)
    (h : ∀ A2 c2 w', w'.ownsRow base 27 2 (.slice A2 (n + m) c2) (n + m) ((l ++ l').flatMap encId) → Below base w w' → K (a.put o.dst (.slice A2 (n + m) c2)) w') : Oper.wp Tryd.prog o a w K Q := by
  obtain ⟨i0, hi0, hz0, hz1, hz2⟩ := info_parts infoId
  cases A' with
  | none =>
    obtain ⟨rfl, rfl⟩ := hA' rfl
    have hl0 : l' = [] := List.length_eq_zero_iff.1 hsl.len
    subst hl0
    have hrun := run_append_owned_none (P := Tryd.prog) (w := w) base 23 o.type 27 i0 2 Tryd.underlying23 hi0 _ n _ hown
    have h' := h A c w (by rw [List.append_nil]; exact hown) (Below.refl _ _)
    unfold Oper.wp
    simp [execOp, ho, resolve, invoke, builtin, hs, hx, hrun, Result.andThen]
    exact h'
  | some a0 =>
    refine wp_append_own w s x _ ho base 27 i0 _ 2 32 Tryd.underlying23 hi0 hz0 hz1 hz2 rfl (by decide) _ n _ hs hown a0 m c' (l'.flatMap encId) hx (by rw [flat_len (k := 2) (fun _ => rfl), hsl.len]) (Sl.news (k := 2) (fun _ => rfl) (by decide) hsl) ?_ (by unfold maxLen; omega) (by omega) hbase ?_
    · intro u hu
      obtain ⟨x, _, hx⟩ := List.mem_flatMap.1 hu
      simp [encId] at hx
      rcases hx with rfl | rfl <;> rfl
    · intro v' w' h1 h2 _
      obtain ⟨A2, c2, rfl⟩ := own_form h1
      refine h A2 c2 w' ?_ (own_belowG hown h2 hbase)
      rw [List.flatMap_append]; exact h1
theorem step_appI {ops : Array Oper} {o : Oper} {a : Act} {K : Act → World → Prop} {Q : Exit → Act → World → Prop} {E : Prop} {w : World} (hw : Region.wanted o (yielded ops a.tmps) = true) (s x : Operand)
    (ho : o.op = .call { callee := .builtin .append, args := #[s, x], argTypes := #[23, 23] }) (base : Nat) (A : Option Addr) (n c : Nat) (l : List IdV) (hs : a.eval s = .slice A n c)
    (hown : w.ownsRow base 27 2 (.slice A n c) n (l.flatMap encId)) (A' : Option Addr) (m c' : Nat) (l' : List IdV) (hx : a.eval x = .slice A' m c') (hsl : Sl w w.heap.size encId 2 A' m l')
    (hA' : A' = none → m = 0 ∧ c' = 0) (hn : n + m ≤ 16777216) (hbase : base ≤ w.heap.size)
    (h : ∀ A2 c2 w', w'.ownsRow base 27 2 (.slice A2 (n + m) c2) (n + m) ((l ++ l').flatMap encId) → Below base w w' → K (a.put o.dst (.slice A2 (n + m) c2)) w') : if Region.wanted o (yielded ops a.tmps) = true then Oper.wp Tryd.prog o a w K Q else E := by
  rw [if_pos hw]
  exact wp_appI s x ho base A n c l hs hown A' m c' l' hx hsl hA' hn hbase h
theorem wpList_appAG {ops : Array Oper} {rest : List Oper} {o : Oper} {a : Act} {Q : Exit → Act → World → Prop} {w : World} (hw : Region.wanted o (yielded ops a.tmps) = true) (s x : Operand)
    (ho : o.op = .call { callee := .builtin .append, args := #[s, x], argTypes := #[22, 22] }) (base : Nat) (A : Option Addr) (n c : Nat) (l : List AclV) (hs : a.eval s = .slice A n c)
    (hown : w.ownsRow base 42 3 (.slice A n c) n (l.flatMap encAcl)) (A' : Option Addr) (m c' : Nat) (l' : List AclV) (hx : a.eval x = .slice A' m c') (hsl : Sl w w.heap.size encAcl 3 A' m l')
    (hA' : A' = none → m = 0 ∧ c' = 0) (hn : n + m ≤ 16777216) (hbase : base ≤ w.heap.size)
    (h : ∀ A2 c2 w', w'.ownsRow base 42 3 (.slice A2 (n + m) c2) (n + m) ((l ++ l').flatMap encAcl) → Below base w w' → wpList Tryd.prog ops Q rest (a.put o.dst (.slice A2 (n + m) c2)) w') : wpList Tryd.prog ops Q (o :: rest) a w :=
  wpList_step fun K hK => by
    rw [if_pos hw]
    exact wp_appA s x ho base A n c l hs hown A' m c' l' hx hsl hA' hn hbase fun A2 c2 w' h1 h2 => hK _ _ (h A2 c2 w' h1 h2)
theorem wpList_appIG {ops : Array Oper} {rest : List Oper} {o : Oper} {a : Act} {Q : Exit → Act → World → Prop} {w : World} (hw : Region.wanted o (yielded ops a.tmps) = true) (s x : Operand)
    (ho : o.op = .call { callee := .builtin .append, args := #[s, x], argTypes := #[23, 23] }) (base : Nat) (A : Option Addr) (n c : Nat) (l : List IdV) (hs : a.eval s = .slice A n c)
    (hown : w.ownsRow base 27 2 (.slice A n c) n (l.flatMap encId)) (A' : Option Addr) (m c' : Nat) (l' : List IdV) (hx : a.eval x = .slice A' m c') (hsl : Sl w w.heap.size encId 2 A' m l')
    (hA' : A' = none → m = 0 ∧ c' = 0) (hn : n + m ≤ 16777216) (hbase : base ≤ w.heap.size)
    (h : ∀ A2 c2 w', w'.ownsRow base 27 2 (.slice A2 (n + m) c2) (n + m) ((l ++ l').flatMap encId) → Below base w w' → wpList Tryd.prog ops Q rest (a.put o.dst (.slice A2 (n + m) c2)) w') : wpList Tryd.prog ops Q (o :: rest) a w :=
  wpList_step fun K hK => by
    rw [if_pos hw]
    exact wp_appI s x ho base A n c l hs hown A' m c' l' hx hsl hA' hn hbase fun A2 c2 w' h1 h2 => hK _ _ (h A2 c2 w' h1 h2)
theorem step_appAx (x y : Nat) {ops : Array Oper} {d : Option Nat} {ty : TypeId} {ps : String} {af : Array Edge} {gd : Option (Nat × Bool)} {a : Act} {K : Act → World → Prop} {Q : Exit → Act → World → Prop} {E : Prop} {w : World}
    (hw : Region.wanted { dst := d, op := .call { callee := .builtin .append, args := #[.tmp x, .tmp y], argTypes := #[22, 22] }, type := ty, pos := ps, after := af, guard := gd } (yielded ops a.tmps) = true)
    (base : Nat) (A : Option Addr) (n c : Nat) (l : List AclV) (hs : a.eval (.tmp x) = .slice A n c)
    (hown : w.ownsRow base 42 3 (.slice A n c) n (l.flatMap encAcl)) (A' : Option Addr) (m c' : Nat) (l' : List AclV) (hx : a.eval (.tmp y) = .slice A' m c') (hsl : Sl w w.heap.size encAcl 3 A' m l')
    (hA' : A' = none → m = 0 ∧ c' = 0) (hn : n + m ≤ 16777216) (hbase : base ≤ w.heap.size)
    (h : ∀ A2 c2 w', w'.ownsRow base 42 3 (.slice A2 (n + m) c2) (n + m) ((l ++ l').flatMap encAcl) → Below base w w' → K (a.put d (.slice A2 (n + m) c2)) w') :
    if Region.wanted { dst := d, op := .call { callee := .builtin .append, args := #[.tmp x, .tmp y], argTypes := #[22, 22] }, type := ty, pos := ps, after := af, guard := gd } (yielded ops a.tmps) = true then
      Oper.wp Tryd.prog { dst := d, op := .call { callee := .builtin .append, args := #[.tmp x, .tmp y], argTypes := #[22, 22] }, type := ty, pos := ps, after := af, guard := gd } a w K Q else E :=
  step_appA hw (.tmp x) (.tmp y) rfl base A n c l hs hown A' m c' l' hx hsl hA' hn hbase h
theorem step_appIx (x y : Nat) {ops : Array Oper} {d : Option Nat} {ty : TypeId} {ps : String} {af : Array Edge} {gd : Option (Nat × Bool)} {a : Act} {K : Act → World → Prop} {Q : Exit → Act → World → Prop} {E : Prop} {w : World}
    (hw : Region.wanted { dst := d, op := .call { callee := .builtin .append, args := #[.tmp x, .tmp y], argTypes := #[23, 23] }, type := ty, pos := ps, after := af, guard := gd } (yielded ops a.tmps) = true)
    (base : Nat) (A : Option Addr) (n c : Nat) (l : List IdV) (hs : a.eval (.tmp x) = .slice A n c)
    (hown : w.ownsRow base 27 2 (.slice A n c) n (l.flatMap encId)) (A' : Option Addr) (m c' : Nat) (l' : List IdV) (hx : a.eval (.tmp y) = .slice A' m c') (hsl : Sl w w.heap.size encId 2 A' m l')
    (hA' : A' = none → m = 0 ∧ c' = 0) (hn : n + m ≤ 16777216) (hbase : base ≤ w.heap.size)
    (h : ∀ A2 c2 w', w'.ownsRow base 27 2 (.slice A2 (n + m) c2) (n + m) ((l ++ l').flatMap encId) → Below base w w' → K (a.put d (.slice A2 (n + m) c2)) w') :
    if Region.wanted { dst := d, op := .call { callee := .builtin .append, args := #[.tmp x, .tmp y], argTypes := #[23, 23] }, type := ty, pos := ps, after := af, guard := gd } (yielded ops a.tmps) = true then
      Oper.wp Tryd.prog { dst := d, op := .call { callee := .builtin .append, args := #[.tmp x, .tmp y], argTypes := #[23, 23] }, type := ty, pos := ps, after := af, guard := gd } a w K Q else E :=
  step_appI hw (.tmp x) (.tmp y) rfl base A n c l hs hown A' m c' l' hx hsl hA' hn hbase h
theorem y_undef : Go.yielded.match_1 (fun _ => Option Bool) (some undef) (fun b => some b) (fun _ => none) = none := rfl
/-- a list of one, freshly laid -/
theorem Sl.one_ {α : Type} [Inhabited α] {w : World} {enc : α → List Value} {k b : Nat} {x : α} (hl : b < w.heap.size) (hc : ∀ i u, (enc x)[i]? = some u → w.cell? ⟨b, i, none⟩ = some u) : Sl w w.heap.size enc k (some ⟨b, 0, none⟩) 1 [x] :=
  ⟨rfl, fun _ => ⟨b, 0, rfl, hl, fun j hj i u hu => by
    have : j = 0 := by omega
    subst this
    have hx : ([x] : List α)[0]! = x := rfl
    rw [hx] at hu
    have := hc i u hu
    simpa using this⟩⟩
theorem sl_id {w : World} {b : Nat} {x : IdV} (h0 : w.cell? ⟨b, 0, none⟩ = some (.string x.1)) (h1 : w.cell? ⟨b, 1, none⟩ = some (.string x.2)) : Sl w w.heap.size encId 2 (some ⟨b, 0, none⟩) 1 [x] :=
  Sl.one_ (World.block_lt_of_cell? w _ h0) (fun i u hu => by
    match i with
    | 0 => simp [encId] at hu; rw [← hu]; exact h0
    | 1 => simp [encId] at hu; rw [← hu]; exact h1
    | i + 2 => simp [encId] at hu)
theorem sl_acl {w : World} {b : Nat} {x : AclV} (h0 : w.cell? ⟨b, 0, none⟩ = some (.int .i32 x.1)) (h1 : w.cell? ⟨b, 1, none⟩ = some (.string x.2.1)) (h2 : w.cell? ⟨b, 2, none⟩ = some (.string x.2.2)) : Sl w w.heap.size encAcl 3 (some ⟨b, 0, none⟩) 1 [x] :=
  Sl.one_ (World.block_lt_of_cell? w _ h0) (fun i u hu => by
    match i with
    | 0 => simp [encAcl] at hu; rw [← hu]; exact h0
    | 1 => simp [encAcl] at hu; rw [← hu]; exact h1
    | 2 => simp [encAcl] at hu; rw [← hu]; exact h2
    | i + 3 => simp [encAcl] at hu)
end Go.Proofs.YtmchfdmnngngiaaDoor
