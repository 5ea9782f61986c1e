/- The document's clock on paper: a list that rises by deadline, then by id; what it has of a clock's list. -/
import Derived.Test.YthpjneobmmpbnaaGreatDoorDClkP
import Derived.OrdersHeld
import Derived.StillTail
import Derived.Deep.RegionHeld
namespace Go.Proofs.YthpjneobmmpbnaaGreatDoor
section
variable {P : Program} {ops : Array Oper} {Q : Exit → Act → World → Prop} {md : Region.Mode} {S : World → Prop} {m : Nat}
/-- whatever order is picked; S holds behind each of the first m operations -/
def wpAnyM (P : Program) (md : Region.Mode) (ops : Array Oper) (Q : Exit → Act → World → Prop) (S : World → Prop) (m : Nat) : Nat → Array Bool → Act → World → Prop
  | 0, listed, a, w => Region.ready md ops listed = [] ∧ Q .normal a w
  | f + 1, listed, a, w => (Region.ready md ops listed = [] → Q .normal a w) ∧ ∀ i ∈ Region.ready md ops listed, wpOp P ops Q i (fun a' w' => (i < m → S w') ∧ wpAnyM P md ops Q S m f (listed.setIfInBounds i true) a' w') a w
theorem wpAny_of_M : ∀ (f : Nat) (listed : Array Bool) (a : Act) (w : World), wpAnyM P md ops Q S m f listed a w → wpAny P md ops Q f listed a w
  | 0, _, _, _, h => h
  | f + 1, _, _, _, h => ⟨h.1, fun i hi => wpOp_mono (fun a' w' h' => wpAny_of_M f _ a' w' h'.2) (h.2 i hi)⟩
/-- every other operation from number m on waits for number i -/
def tailWaits (md : Region.Mode) (ops : Array Oper) (m i : Nat) : Bool := (List.range ops.size).all fun j => decide (j < m) || (j == i || Region.waitsFor md ops j i)
theorem tailWaits_spec {i j : Nat} {oj : Oper} (h : tailWaits md ops m i = true) (hj : ops[j]? = some oj) (hm : m ≤ j) (hne : j ≠ i) : ∃ e ∈ oj.after, Region.binds md e = true ∧ e.on = i := by
  have h1 := List.all_eq_true.1 h j (List.mem_range.2 (Array.getElem?_eq_some_iff.1 hj).1)
  simp only [Bool.or_eq_true, decide_eq_true_eq, beq_iff_eq] at h1
  rcases h1 with h1 | h1 | h1
  · omega
  · exact absurd h1 hne
  · obtain ⟨o, ho, e, he, hb, hon⟩ := Region.waitsFor_spec h1
    have : o = oj := Option.some.inj (ho.symm.trans hj)
    subst this
    exact ⟨e, he, hb, hon⟩
theorem wpAnyM_first {i : Nat} {oi : Oper} {v : Value} (hi : ops[i]? = some oi) (hsel : ∀ (j : Nat) (o : Oper) cs b, ops[j]? = some o → o.op ≠ .select cs b) (hQ : ∀ c a w, Q (.panic c) (a.put oi.dst v) w → Q (.panic c) a w) (htw : tailWaits md ops m i = true) :
    ∀ (f : Nat) (listed : Array Bool) (a : Act) (w : World), (∀ j oj, ops[j]? = some oj → j ≠ i → listed.getD j true = false → (∀ e ∈ oj.after, Region.binds md e = true → e.on ≠ i) → oi.apart ops oj = true) →
      i ∈ Region.ready md ops listed → YieldsIf P ops S oi v a → S w → wpAnyM P md ops Q S m f (listed.setIfInBounds i true) (a.put oi.dst v) w → wpAnyM P md ops Q S m (f + 1) listed a w := by
  intro f
  induction f with
  | zero =>
    intro listed a w _ hr hy hS H
    refine ⟨fun h => absurd (h ▸ hr) (by simp), fun j hj => ?_⟩
    by_cases hji : j = i
    · subst hji; exact hy.wpOp hi hS ⟨fun _ => hS, H⟩
    · exact absurd (ready_mono hj hji) (by rw [H.1]; simp)
  | succ f ih =>
    intro listed a w hfree hr hy hS H
    refine ⟨fun h => absurd (h ▸ hr) (by simp), fun j hj => ?_⟩
    by_cases hji : j = i
    · subst hji; exact hy.wpOp hi hS ⟨fun _ => hS, H⟩
    obtain ⟨hun, oj, hoj, hall⟩ := mem_ready.1 hj
    -- number i has not come up, so nothing that is ready waits for it
    have hno : ∀ e ∈ oj.after, Region.binds md e = true → e.on ≠ i := by
      intro e he hb hon
      have h1 := hall e he hb
      rw [hon, getD_both (mem_ready.1 hr).1] at h1
      cases h1
    have hjm : j < m := by
      rcases Nat.lt_or_ge j m with h | h
      · exact h
      · obtain ⟨e, he, hb, hon⟩ := tailWaits_spec htw hoj h hji
        exact absurd hon (hno e he hb)
    have h2 := wpOp_putIf hoj (hfree j oj hoj hji hun hno) (fun cs b => hsel i oi cs b hi) (fun cs b => hsel j oj cs b hoj) hQ hy (H.2 j (ready_mono hj hji))
    refine wpOp_mono (fun a' w' h3 => ⟨fun _ => h3.2.1 hjm, ih _ a' w' ?_ (ready_mono hr (Ne.symm hji)) h3.1 (h3.2.1 hjm) ?_⟩) h2
    · intro k ok hk hki hunk hnok
      refine hfree k ok hk hki ?_ hnok
      by_cases hjk : j = k
      · subst hjk; exact hun
      · rwa [getD_set_ne true hjk] at hunk
    · rw [Array.setIfInBounds_comm _ _ hji]; exact h3.2.2
theorem wpAnyM_take {i : Nat} {oi : Oper} {v : Value} {f : Nat} {listed : Array Bool} {a : Act} {w : World} (hi : ops[i]? = some oi) (hB : (Region.noSelect ops && Region.free md ops listed i && (Region.ready md ops listed).contains i && tailWaits md ops m i) = true)
    (hQ : ∀ c a w, Q (.panic c) (a.put oi.dst v) w → Q (.panic c) a w) (hy : YieldsIf P ops S oi v a) (hS : S w) (h : wpAnyM P md ops Q S m f (listed.setIfInBounds i true) (a.put oi.dst v) w) : wpAnyM P md ops Q S m (f + 1) listed a w := by
  simp only [Bool.and_eq_true] at hB
  exact wpAnyM_first hi (Region.noSelect_spec hB.1.1.1) hQ hB.2 f listed a w (Region.free_spec hi hB.1.1.2) (by simpa using hB.1.2) hy hS h
/-- number i alone may come up -/
theorem wpAnyM_one {i : Nat} {o : Oper} {f : Nat} {listed : Array Bool} {a : Act} {w : World} (hi : ops[i]? = some o) (hr : Region.ready md ops listed = [i])
    (h : ∀ K' : Act → World → Prop, Shut (∀ a w, S w → wpAnyM P md ops Q S m f (listed.setIfInBounds i true) a w → K' a w) → if Region.wanted o (yielded ops a.tmps) = true then Oper.wp P o a w K' Q else K' (a.put o.dst undef) w) : wpAnyM P md ops Q S m (f + 1) listed a w := by
  refine ⟨fun h0 => absurd (hr ▸ h0) (by simp), fun j hj => ?_⟩
  rw [hr] at hj
  have hji : j = i := by simpa using hj
  subst hji
  exact wpOp_step hi (fun K' hK => h K' (fun a w hS hW => hK a w ⟨fun _ => hS, hW⟩))
/-- the head is through: the tail, in its one order -/
theorem wpAnyM_tail {l : List Oper} {n : Nat} {listed : Array Bool} {a : Act} {w : World} (hB : ((List.range m).all (fun i => listed.getD i true) && Region.seqB md l.toArray (l.drop n).length n listed) = true) (h : wpList P l.toArray Q (l.drop n) a w) : wpAnyM P md l.toArray Q S m (l.drop n).length listed a w := by
  simp only [Bool.and_eq_true] at hB
  have H := wpAny_of_seq (P := P) (md := md) (Q' := Q) (l.drop n) n listed a w (fun j => by simp [List.getElem?_drop]) hB.2 h
  have hall : ∀ i, i < m → listed.getD i true = true := fun i hi => List.all_eq_true.1 hB.1 i (List.mem_range.2 hi)
  clear hB h
  generalize (l.drop n).length = f at H
  induction f generalizing listed a w with
  | zero => exact H
  | succ f ih =>
    refine ⟨H.1, fun i hi => wpOp_mono (fun a' w' h' => ⟨fun him => ?_, ih (fun k hk => ?_) h'⟩) (H.2 i hi)⟩
    · have := (mem_ready.1 hi).1
      rw [hall i him] at this; cases this
    · by_cases hik : i = k
      · subst hik
        have := (mem_ready.1 hi).1
        rw [hall i hk] at this; cases this
      · rw [getD_set_ne true hik]; exact hall k hk
theorem wp_region_M {id : Nat} {a : Act} {w : World} (m : Nat) (hm : P.follows .mixedOrders = true) (hS : S w.drew) (h : S w.drew → wpAnyM P .any ops Q S m ops.size (Array.replicate ops.size false) a w.drew) : (Code.region id ops true).wp P Q a w :=
  wp_region_any hm (wpAny_of_M _ _ _ _ (h hS))
end
end Go.Proofs.YthpjneobmmpbnaaGreatDoor
