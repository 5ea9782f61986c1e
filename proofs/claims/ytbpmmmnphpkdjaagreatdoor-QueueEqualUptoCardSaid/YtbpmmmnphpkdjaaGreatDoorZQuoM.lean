/- Quorums by definition: groups, weights; two quorums meet. No program; no condition. Maps whose keys are int, by their lists of keys and values; maps of sums; a voter's cells. No condition but that the keys are int. -/
import Derived.WalkKit
import Derived.Test.YtbpmmmnphpkdjaaGreatDoorZClkM
import Derived.Test.YtbpmmmnphpkdjaaGreatDoorZMapR
namespace Go.Proofs.YtbpmmmnphpkdjaaGreatDoor
/-- a voter: its group, its weight -/
abbrev VtV := Int × Int
def gsum : List VtV → Int → Int
  | [], _ => 0
  | v :: r, g => (if v.1 = g then v.2 else 0) + gsum r g
/-- what those who have it weigh in a group; the first voter's number is i -/
def msum (have_ : List Int) : Nat → List VtV → Int → Int
  | _, [], _ => 0
  | i, v :: r, g => (if v.1 = g ∧ (i : Int) ∈ have_ then v.2 else 0) + msum have_ (i + 1) r g
def wOk (v : VtV) : Prop := 0 ≤ v.2 ∧ v.2 ≤ 4294967296
def fitB (l : List VtV) : Bool := l.all (fun v => decide (0 ≤ v.2 ∧ v.2 ≤ 4294967296)) && l.any (fun v => decide (0 < v.2)) && decide (l.length ≤ 9)
/-- the groups, each once -/
def dk : List VtV → List Int
  | [] => []
  | v :: r => if v.1 ∈ dk r then dk r else v.1 :: dk r
def gk (l : List VtV) : List Int := (dk l).filter (fun g => decide (0 < gsum l g))
def wonB (l : List VtV) (have_ : List Int) (g : Int) : Bool := decide (gsum l g < 2 * msum have_ 0 l g)
def quorumB (l : List VtV) (have_ : List Int) : Bool := fitB l && decide ((gk l).length < 2 * (gk l).countP (wonB l have_))

theorem dk_nodup : ∀ l, (dk l).Nodup
  | [] => List.nodup_nil
  | v :: r => by
    unfold dk
    split
    · exact dk_nodup r
    · rename_i h; exact List.nodup_cons.2 ⟨h, dk_nodup r⟩
theorem dk_mem : ∀ (l : List VtV) (g : Int), g ∈ dk l ↔ ∃ v ∈ l, v.1 = g
  | [], g => by simp [dk]
  | v :: r, g => by
    have ih := dk_mem r g
    unfold dk
    split
    · rename_i h
      rw [ih]
      constructor
      · rintro ⟨x, hx, e⟩; exact ⟨x, List.mem_cons_of_mem _ hx, e⟩
      · rintro ⟨x, hx, e⟩
        rcases List.mem_cons.1 hx with rfl | hx
        · rw [← e]; exact (dk_mem r x.1).1 h
        · exact ⟨x, hx, e⟩
    · rw [List.mem_cons, ih]
      constructor
      · rintro (rfl | ⟨x, hx, e⟩)
        · exact ⟨v, List.mem_cons_self, rfl⟩
        · exact ⟨x, List.mem_cons_of_mem _ hx, e⟩
      · rintro ⟨x, hx, e⟩
        rcases List.mem_cons.1 hx with rfl | hx
        · exact .inl e.symm
        · exact .inr ⟨x, hx, e⟩
theorem gk_nodup (l : List VtV) : (gk l).Nodup := List.Nodup.sublist List.filter_sublist (dk_nodup l)
theorem gsum_none : ∀ (l : List VtV) (g : Int), (∀ v ∈ l, v.1 ≠ g) → gsum l g = 0
  | [], _, _ => rfl
  | v :: r, g, h => by
    unfold gsum
    rw [if_neg (h v List.mem_cons_self), gsum_none r g (fun x hx => h x (List.mem_cons_of_mem _ hx))]; rfl
theorem gk_mem (l : List VtV) (g : Int) : g ∈ gk l ↔ 0 < gsum l g := by
  unfold gk
  rw [List.mem_filter, dk_mem]
  simp only [decide_eq_true_eq]
  constructor
  · exact fun h => h.2
  · intro h
    refine ⟨?_, h⟩
    apply Classical.byContradiction
    intro hn
    have := gsum_none l g (fun v hv e => hn ⟨v, hv, e⟩)
    omega
theorem countP_sub {α : Type} [DecidableEq α] (p : α → Bool) : ∀ {l1 l2 : List α}, l1.Nodup → (∀ x ∈ l1, x ∈ l2) → l1.countP p ≤ l2.countP p
  | [], _, _, _ => by simp
  | x :: r, l2, h1, hs => by
    obtain ⟨hx, hr⟩ := List.nodup_cons.1 h1
    have ih := countP_sub p (l2 := l2.erase x) hr (fun y hy => (List.mem_erase_of_ne (fun e => hx (by rw [← e]; exact hy))).2 (hs y (List.mem_cons_of_mem _ hy)))
    have hp := (List.perm_cons_erase (hs x List.mem_cons_self)).countP_eq p
    rw [hp, List.countP_cons, List.countP_cons]
    omega
theorem countP_same {α : Type} [DecidableEq α] (p : α → Bool) {l1 l2 : List α} (h1 : l1.Nodup) (h2 : l2.Nodup) (h : ∀ x, x ∈ l1 ↔ x ∈ l2) : l1.countP p = l2.countP p :=
  Nat.le_antisymm (countP_sub p h1 fun x hx => (h x).1 hx) (countP_sub p h2 fun x hx => (h x).2 hx)
theorem length_same {α : Type} [DecidableEq α] {l1 l2 : List α} (h1 : l1.Nodup) (h2 : l2.Nodup) (h : ∀ x, x ∈ l1 ↔ x ∈ l2) : l1.length = l2.length := by
  have := countP_same (fun _ => true) h1 h2 h
  simpa using this
/-- any list of the groups, each once, serves -/
theorem quorum_by (l : List VtV) (have_ K : List Int) (hK : K.Nodup) (hm : ∀ g, g ∈ K ↔ 0 < gsum l g) : quorumB l have_ = (fitB l && decide (K.length < 2 * K.countP (wonB l have_))) := by
  have e : ∀ g, g ∈ K ↔ g ∈ gk l := fun g => by rw [hm, gk_mem]
  unfold quorumB
  rw [countP_same _ hK (gk_nodup l) e, length_same hK (gk_nodup l) e]
theorem msum_nil (l : List VtV) (g : Int) : ∀ i, msum [] i l g = 0 := by
  induction l with
  | nil => intro i; rfl
  | cons v r ih => intro i; unfold msum; rw [if_neg (by simp), ih]; rfl
theorem msum_mono {a b : List Int} (h : ∀ x ∈ a, x ∈ b) (g : Int) : ∀ (l : List VtV) (i : Nat), (∀ v ∈ l, 0 ≤ v.2) → msum a i l g ≤ msum b i l g
  | [], _, _ => Int.le_refl _
  | v :: r, i, hw => by
    have ih := msum_mono h g r (i + 1) (fun x hx => hw x (List.mem_cons_of_mem _ hx))
    have hv := hw v List.mem_cons_self
    unfold msum
    by_cases hc : v.1 = g ∧ (i : Int) ∈ a
    · rw [if_pos hc, if_pos ⟨hc.1, h _ hc.2⟩]; omega
    · rw [if_neg hc]
      split <;> omega
theorem fit_w {l : List VtV} (h : fitB l = true) : ∀ v ∈ l, 0 ≤ v.2 ∧ v.2 ≤ 4294967296 := by
  unfold fitB at h
  simp only [Bool.and_eq_true, List.all_eq_true, decide_eq_true_eq] at h
  exact h.1.1
theorem quorum_mono (l : List VtV) {a b : List Int} (h : ∀ x ∈ a, x ∈ b) (hq : quorumB l a = true) : quorumB l b = true := by
  unfold quorumB at hq ⊢
  rw [Bool.and_eq_true, decide_eq_true_eq] at hq ⊢
  refine ⟨hq.1, Nat.lt_of_lt_of_le hq.2 (Nat.mul_le_mul_left _ (List.countP_mono_left fun g _ hg => ?_))⟩
  unfold wonB at hg ⊢
  rw [decide_eq_true_eq] at hg ⊢
  have := msum_mono h g l 0 (fun v hv => (fit_w hq.1 v hv).1)
  omega
theorem quorum_nil (l : List VtV) : quorumB l [] = false := by
  unfold quorumB
  rw [Bool.and_eq_false_iff]
  right
  rw [decide_eq_false_iff_not]
  have : (gk l).countP (wonB l []) = 0 := by
    rw [List.countP_eq_zero]
    intro g hg
    have := (gk_mem l g).1 hg
    unfold wonB
    rw [msum_nil, decide_eq_true_eq]
    omega
  omega
theorem both_some {α : Type} (p q : α → Bool) : ∀ l : List α, l.length < l.countP p + l.countP q → ∃ x ∈ l, p x = true ∧ q x = true
  | [], h => by simp at h
  | x :: r, h => by
    by_cases hb : p x = true ∧ q x = true
    · exact ⟨x, List.mem_cons_self, hb⟩
    · have : r.length < r.countP p + r.countP q := by
        rw [List.countP_cons, List.countP_cons, List.length_cons] at h
        by_cases hp : p x = true
        · have hq : ¬ q x = true := fun hq => hb ⟨hp, hq⟩
          rw [if_pos hp, if_neg hq] at h; omega
        · rw [if_neg hp] at h
          split at h <;> omega
      obtain ⟨y, hy, h2⟩ := both_some p q r this
      exact ⟨y, List.mem_cons_of_mem _ hy, h2⟩
theorem group_meets (a b : List Int) (g : Int) : ∀ (l : List VtV) (i : Nat), (∀ v ∈ l, 0 ≤ v.2) → gsum l g < msum a i l g + msum b i l g → ∃ k, ∃ v, l[k]? = some v ∧ 0 < v.2 ∧ ((i + k : Nat) : Int) ∈ a ∧ ((i + k : Nat) : Int) ∈ b
  | [], _, _, h => by simp [gsum, msum] at h
  | v :: r, i, hw, h => by
    have hv := hw v List.mem_cons_self
    by_cases hc : 0 < v.2 ∧ (i : Int) ∈ a ∧ (i : Int) ∈ b
    · exact ⟨0, v, rfl, hc.1, hc.2.1, hc.2.2⟩
    · have : gsum r g < msum a (i + 1) r g + msum b (i + 1) r g := by
        unfold gsum msum at h
        by_cases hg : v.1 = g
        · by_cases ha : (i : Int) ∈ a
          · by_cases hb : (i : Int) ∈ b
            · have : v.2 = 0 := by
                have : ¬ 0 < v.2 := fun h0 => hc ⟨h0, ha, hb⟩
                omega
              rw [if_pos hg, if_pos ⟨hg, ha⟩, if_pos ⟨hg, hb⟩] at h; omega
            · rw [if_pos hg, if_pos ⟨hg, ha⟩, if_neg (fun q => hb q.2)] at h; omega
          · rw [if_pos hg, if_neg (fun q => ha q.2)] at h
            split at h <;> omega
        · rw [if_neg hg, if_neg (fun q => hg q.1), if_neg (fun q => hg q.1)] at h; omega
      obtain ⟨k, x, h1, h2, h3, h4⟩ := group_meets a b g r (i + 1) (fun x hx => hw x (List.mem_cons_of_mem _ hx)) this
      exact ⟨k + 1, x, by simpa using h1, h2, by rw [show i + (k + 1) = i + 1 + k by omega]; exact h3, by rw [show i + (k + 1) = i + 1 + k by omega]; exact h4⟩
/-- two quorums have a voter in common -/
theorem quorum_meets (l : List VtV) (a b : List Int) (ha : quorumB l a = true) (hb : quorumB l b = true) : ∃ k, ∃ v, l[k]? = some v ∧ 0 < v.2 ∧ ((k : Nat) : Int) ∈ a ∧ ((k : Nat) : Int) ∈ b := by
  unfold quorumB at ha hb
  rw [Bool.and_eq_true, decide_eq_true_eq] at ha hb
  obtain ⟨g, _, h1, h2⟩ := both_some (wonB l a) (wonB l b) (gk l) (by omega)
  unfold wonB at h1 h2
  rw [decide_eq_true_eq] at h1 h2
  obtain ⟨k, v, h3, h4, h5, h6⟩ := group_meets a b g l 0 (fun v hv => (fit_w ha.1 v hv).1) (by omega)
  rw [Nat.zero_add] at h5 h6
  exact ⟨k, v, h3, h4, h5, h6⟩
end Go.Proofs.YtbpmmmnphpkdjaaGreatDoor
namespace Go.Proofs.YtbpmmmnphpkdjaaGreatDoor
open Go.RowKit Go.MapKept Go.Maps
def encVt (v : VtV) : List Value := [.int .i64 v.1, .int .i64 v.2]
theorem lawN : Keyed Tryz.prog 3 := int_keyed Tryz.underlying3
theorem keyN {i : Int} (h : wfI i) : keyOf Tryz.prog 3 (.int .i64 i) = some (.int .i64 i) := keyOf_int_mk Tryz.underlying3 (wfI_lit h)
/-- block b of w is a map from int64 of these keys and values -/
def MapN (w : World) (b : Nat) (l : List (Int × Value)) : Prop := MapV w Tryz.prog 3 b (l.map fun x => (.int .i64 x.1, x.2))
section
variable {w w' : World} {t e : TypeId} {b : Nat} {l : List (Int × Value)}
theorem MapN.made (w : World) : MapN (w.alloc (.map #[] 0)) w.heap.size [] := MapV.made _ _ _
theorem MapN.lt (h : MapN w b l) : b < w.heap.size := MapV.lt h
theorem MapN.of_heap (h : MapN w b l) (hh : w'.heap[b]? = w.heap[b]?) : MapN w' b l := MapV.of_heap h hh
theorem MapN.apart (h : MapN w b l) : (l.map (·.1)).Nodup := by
  have := MapV.apart h
  rw [List.pairwise_map] at this
  show (l.map (·.1)).Pairwise (· ≠ ·)
  rw [List.pairwise_map]
  exact this.imp fun {a b} hne e => hne (by rw [e])
theorem MapN.lookup (h : MapN w b l) (ht : Tryz.prog.underlying t = some (.map 3 e)) (c : Bool) {z : Value} (hz : ∀ w : World, (zeroValue e).run Tryz.prog w = .ok z w) {i : Int} (hi : wfI i) :
    (∃ v, (i, v) ∈ l ∧ ∀ w' : World, w'.heap[b]? = w.heap[b]? → (Instr.lookup t (.map (some b)) (.int .i64 i) c).run Tryz.prog w' = .ok (if c then .tuple #[v, .bool true] else v) w') ∨
    ((∀ p ∈ l, p.1 ≠ i) ∧ ∀ w' : World, w'.heap[b]? = w.heap[b]? → (Instr.lookup t (.map (some b)) (.int .i64 i) c).run Tryz.prog w' = .ok (if c then .tuple #[z, .bool false] else z) w') := by
  rcases MapV.lookup h lawN ht c hz (keyN hi) with ⟨v, hm, hr⟩ | ⟨hn, hr⟩
  · obtain ⟨x, hx, ex⟩ := List.mem_map.1 hm
    have e1 : x.1 = i := by have := congrArg Prod.fst ex; simpa using this
    have e2 : x.2 = v := congrArg Prod.snd ex
    exact .inl ⟨v, by rw [← e1, ← e2]; exact hx, hr⟩
  · exact .inr ⟨fun p hp e => hn _ (List.mem_map.2 ⟨p, hp, rfl⟩) (by rw [e]), hr⟩
theorem MapN.update (h : MapN w b l) (ht : Tryz.prog.underlying t = some (.map 3 e)) {i : Int} (hi : wfI i) (val : Value) :
    ∃ w' l', (Instr.mapUpdate t (.map (some b)) (.int .i64 i) val).run Tryz.prog w = .ok () w' ∧ MapN w' b l' ∧ w.grownBy w' (some b) ∧ w'.heap.size = w.heap.size ∧
      (((∀ p ∈ l, p.1 ≠ i) ∧ l' = l ++ [(i, val)]) ∨ ∃ j old, l[j]? = some (i, old) ∧ l' = l.set j (i, val)) := by
  obtain ⟨w', l', h1, h2, h3, h4, h5⟩ := MapV.update (val := val) h lawN ht (keyN hi)
  rcases h5 with ⟨hn, rfl⟩ | ⟨j, old, hj, rfl⟩
  · exact ⟨w', l ++ [(i, val)], h1, by show MapV _ _ _ _ _; rw [List.map_append]; exact h2, h3, h4, .inl ⟨fun p hp e => hn _ (List.mem_map.2 ⟨p, hp, rfl⟩) (by rw [e]), rfl⟩⟩
  · rw [List.getElem?_map] at hj
    cases hl : l[j]? with
    | none => rw [hl] at hj; cases hj
    | some x =>
      rw [hl] at hj
      have hj : ((.int .i64 x.1, x.2) : Value × Value) = (.int .i64 i, old) := by simpa using hj
      have e1 : x.1 = i := by have := congrArg Prod.fst hj; simpa using this
      have e2 : x.2 = old := congrArg Prod.snd hj
      refine ⟨w', l.set j (i, val), h1, by show MapV _ _ _ _ _; rw [List.map_set]; exact h2, h3, h4, .inr ⟨j, old, by rw [hl, ← e1, ← e2], rfl⟩⟩
end
theorem MapN.fr {own : List Nat} {w w' : World} {b : Nat} {l : List (Int × Value)} (h : MapN w b l) (hf : Fr own w w') (hn : b ∉ own) : MapN w' b l := h.of_heap (hf.block b h.lt hn)
theorem MapN.range {w : World} {b : Nat} {l : List (Int × Value)} (h : MapN w b l) {t e : TypeId} (ht : Tryz.prog.underlying t = some (.map 3 e)) :
    ∃ w', (Instr.range t (.map (some b))).run Tryz.prog w = .ok (.pointer (some ⟨w.heap.size, 0, none⟩)) w' ∧ RgI w' b w.heap.size l (fun _ => true) ∧ Below w.heap.size w w' ∧ w'.heap.size = w.heap.size + 1 := by
  obtain ⟨es, clock, hb, hs, hl, _⟩ := h
  have hlt := (Array.getElem?_eq_some_iff.1 hb).1
  refine ⟨_, run_range_map w t 3 e b es clock ht hb, ⟨by omega, es, clock, clock, #[], clock, (Below.heap_alloc _ _ b hlt).trans hb, hs, hl, heap_alloc_new _ _, ((stamped_iff es clock).1 hs).1, Nat.le_refl _, Nat.le_refl _, fun x _ i _ => by simp⟩, (Below.refl _ w).alloc (Nat.le_refl _) _, by simp⟩
theorem MapN.len {w : World} {t e : TypeId} {b : Nat} {l : List (Int × Value)} (h : MapN w b l) (ht : Tryz.prog.underlying t = some (.map 3 e)) (ty : TypeId) : (Builtin.len_ #[t] ty #[.map (some b)]).run Tryz.prog w = .ok (.int .i64 l.length) w := by
  obtain ⟨es, clock, hb, _, hl, _⟩ := h
  have e1 : es.size = l.length := by
    have := congrArg List.length hl
    simpa using this
  simp [Builtin.len_, run_underlying ht, MapKept.run_getObj_map hb, Result.andThen, goInt, e1]
/-- a map from groups to sums: K are its keys, f its values (0 elsewhere) -/
def SumM (w : World) (b : Nat) (K : List Int) (f : Int → Int) : Prop := MapN w b (K.map fun g => (g, .int .i64 (f g))) ∧ ∀ g, g ∉ K → f g = 0
theorem SumM.lt {w : World} {b : Nat} {K : List Int} {f : Int → Int} (h : SumM w b K f) : b < w.heap.size := h.1.lt
theorem SumM.nodup {w : World} {b : Nat} {K : List Int} {f : Int → Int} (h : SumM w b K f) : K.Nodup := by
  have := h.1.apart
  rwa [List.map_map, show ((fun x : Int × Value => x.1) ∘ fun g => (g, Value.int .i64 (f g))) = id from rfl, List.map_id] at this
theorem SumM.fr {own : List Nat} {w w' : World} {b : Nat} {K : List Int} {f : Int → Int} (h : SumM w b K f) (hf : Fr own w w') (hn : b ∉ own) : SumM w' b K f := ⟨h.1.fr hf hn, h.2⟩
theorem SumM.made (w : World) : SumM (w.alloc (.map #[] 0)) w.heap.size [] (fun _ => 0) := ⟨MapN.made w, fun _ _ => rfl⟩
theorem zeroI64 (w : World) : (zeroValue 2).run Tryz.prog w = .ok (.int .i64 0) w := by kernel_rfl
theorem SumM.look {w : World} {b : Nat} {K : List Int} {f : Int → Int} (h : SumM w b K f) {g : Int} (hg : wfI g) : ∀ w' : World, w'.heap[b]? = w.heap[b]? → (Instr.lookup 125 (.map (some b)) (.int .i64 g) false).run Tryz.prog w' = .ok (.int .i64 (f g)) w' := by
  rcases h.1.lookup Tryz.underlying125 false zeroI64 hg with ⟨v, hm, hr⟩ | ⟨hn, hr⟩
  · obtain ⟨x, _, e⟩ := List.mem_map.1 hm
    injection e with e1 e2
    subst e1 e2
    exact hr
  · have : f g = 0 := h.2 g fun hk => hn (g, .int .i64 (f g)) (List.mem_map.2 ⟨g, hk, rfl⟩) rfl
    intro w' hw'
    rw [this]
    simpa using hr w' hw'
theorem SumM.put {w : World} {b : Nat} {K : List Int} {f : Int → Int} (h : SumM w b K f) {g : Int} (hg : wfI g) (v : Int) :
    ∃ w' K', (Instr.mapUpdate 125 (.map (some b)) (.int .i64 g) (.int .i64 v)).run Tryz.prog w = .ok () w' ∧ SumM w' b K' (fun x => if x = g then v else f x) ∧ (∀ x, x ∈ K' ↔ x ∈ K ∨ x = g) ∧ w.grownBy w' (some b) ∧ w'.heap.size = w.heap.size := by
  obtain ⟨w', l', h1, h2, h3, h4, h5⟩ := h.1.update Tryz.underlying125 hg (.int .i64 v)
  rcases h5 with ⟨hn, rfl⟩ | ⟨j, old, hj, rfl⟩
  · have hgk : g ∉ K := fun hk => hn (g, .int .i64 (f g)) (List.mem_map.2 ⟨g, hk, rfl⟩) rfl
    refine ⟨w', K ++ [g], h1, ⟨?_, fun x hx => ?_⟩, fun x => by simp, h3, h4⟩
    · have e : (K.map fun x => (x, Value.int .i64 (f x))) ++ [(g, .int .i64 v)] = (K ++ [g]).map fun x => (x, Value.int .i64 (if x = g then v else f x)) := by
        have e1 : (K.map fun x => (x, Value.int .i64 (f x))) = K.map fun x => (x, Value.int .i64 (if x = g then v else f x)) := List.map_congr_left fun x hx => by rw [if_neg (show ¬ x = g from fun e => hgk (e ▸ hx))]
        rw [List.map_append, ← e1, List.map_cons, List.map_nil, if_pos rfl]
      rw [← e]; exact h2
    · rw [List.mem_append, List.mem_singleton] at hx
      show (if x = g then v else f x) = 0
      rw [if_neg (fun e => hx (.inr e))]
      exact h.2 x fun hk => hx (.inl hk)
  · have hnd := h.nodup
    rw [List.getElem?_map] at hj
    cases hk : K[j]? with
    | none => rw [hk] at hj; cases hj
    | some x =>
      rw [hk] at hj
      have hj : (x, Value.int .i64 (f x)) = (g, old) := by simpa using hj
      have ex : x = g := congrArg Prod.fst hj
      subst ex
      have hjl := (List.getElem?_eq_some_iff.1 hk).1
      have hjx : K[j] = x := (List.getElem?_eq_some_iff.1 hk).2
      have hxm : x ∈ K := List.mem_of_getElem? hk
      refine ⟨w', K, h1, ⟨?_, fun y hy => ?_⟩, fun y => ⟨fun h => .inl h, fun h => h.elim id (fun e => e ▸ hxm)⟩, h3, h4⟩
      · have e : (K.map fun y => (y, Value.int .i64 (f y))).set j (x, .int .i64 v) = K.map fun y => (y, Value.int .i64 (if y = x then v else f y)) := by
          apply List.ext_getElem (by simp)
          intro i h1 h2
          have hi : i < K.length := by simpa using h1
          rw [List.getElem_set]
          by_cases hij : j = i
          · subst hij; simp [hjx]
          · rw [if_neg hij, List.getElem_map, List.getElem_map]
            rw [if_neg]
            intro e
            exact hij ((List.getElem_inj hnd).1 (hjx.trans e.symm))
        rw [← e]; exact h2
      · show (if y = x then v else f y) = 0
        rw [if_neg (fun e => hy (by rw [e]; exact hxm))]
        exact h.2 y hy
theorem SumM.len {w : World} {b : Nat} {K : List Int} {f : Int → Int} (h : SumM w b K f) : (Builtin.len_ #[125] 3 #[.map (some b)]).run Tryz.prog w = .ok (.int .i64 K.length) w := by
  have := h.1.len Tryz.underlying125 3
  rwa [List.length_map] at this
end Go.Proofs.YtbpmmmnphpkdjaaGreatDoor
