/- The queue's calls in a well kept queue, each with what it leaves; what is so of every queue. Condition: proposals whose lists have at most 2^20. The walks of the law's fault, no. Condition: none. A queue of the law's own: its calls, and the chapter's example. Condition: the library's tables. -/
import Derived.Test.YtbpmmmnphpkdjaaGreatDoorZQueK
namespace Go.Proofs.YtbpmmmnphpkdjaaGreatDoor
open Go.RowKit Go.MapKept Go.Maps
/-- what is so of every queue -/
structure QuInv (st : QuT) : Prop where
  bd : 0 ≤ st.bound ∧ st.bound ≤ 4096
  len : (st.L.length : Int) ≤ st.bound
  a9 : st.acked.length ≤ 9
  rise : RiseZ (zxs st.L)
  z1 : ∀ z ∈ zxs st.L, 1 ≤ z ∧ st.committed < z ∧ z ≤ st.last
  cl : 0 ≤ st.committed ∧ st.committed ≤ st.last
  ak : ∀ i, i < st.acked.length → 0 ≤ st.acked[i]! ∧ st.acked[i]! ≤ st.last
  sm : ∀ i, i < st.L.length → PrSm 1048576 st.L[i]!
  vw : ∀ v ∈ st.vs, wfI v.1
theorem QuInv.l4 {st : QuT} (I : QuInv st) : st.L.length ≤ 4096 := by have := I.bd; have := I.len; omega
theorem QuInv.a4 {st : QuT} (I : QuInv st) : st.acked.length ≤ 1024 := by have := I.a9; omega
theorem newS_inv (bound : Int) (v : Nat) (h1 : 0 ≤ bound) (h2 : bound ≤ 4096) (h3 : v ≤ 9) : QuInv (newS bound v) :=
  ⟨⟨h1, h2⟩, h1, by simpa [newS] using h3, List.Pairwise.nil, fun z hz => by simp [newS, zxs] at hz, ⟨Int.le_refl _, Int.le_refl _⟩, fun i hi => by
    have hi' : i < v := by simpa [newS] using hi
    rw [show (newS bound v).acked = List.replicate v 0 from rfl, getElem!_pos _ i (by simpa using hi')]; simp [newS], fun i hi => by simp [newS] at hi, fun x hx => by
    have hx' : x ∈ List.replicate v ((0, 1) : VtV) := hx
    rw [(List.mem_replicate.1 hx').2]; unfold wfI; omega⟩
theorem right_zx {d : DlT} (h : rightE d = 0) : 1 ≤ d.zx := by
  unfold rightE at h
  by_cases h1 : (!knownB d.t.v.n.ty) = true
  · rw [if_pos h1] at h; cases h
  · rw [if_neg h1] at h
    by_cases h2 : d.zx < 1
    · rw [if_pos h2] at h; cases h
    · omega
theorem zxs_snoc (L : List PrT) (p : PrT) : zxs (L ++ [p]) = zxs L ++ [p.d.zx] := by simp [zxs]
/-- what it takes to be pushed -/
theorem push_ok {st : QuT} {p : PrT} (h : pushE st p = 0) : rightE p.d = 0 ∧ p.r.xi = p.d.xi ∧ p.r.zx = p.d.zx ∧ st.last < p.d.zx ∧ (st.L.length : Int) < st.bound := by
  unfold pushE at h
  by_cases h1 : rightE p.d ≠ 0
  · rw [if_pos h1] at h; exact absurd h h1
  · rw [if_neg h1] at h
    by_cases h2 : p.r.xi ≠ p.d.xi ∨ p.r.zx ≠ p.d.zx
    · rw [if_pos h2] at h; cases h
    · rw [if_neg h2] at h
      by_cases h3 : p.d.zx ≤ st.last
      · rw [if_pos h3] at h; cases h
      · rw [if_neg h3] at h
        by_cases h4 : st.bound ≤ st.L.length
        · rw [if_pos h4] at h; cases h
        · have h1' : rightE p.d = 0 := Classical.byContradiction h1
          have h2a : p.r.xi = p.d.xi := Classical.byContradiction fun h => h2 (.inl h)
          have h2b : p.r.zx = p.d.zx := Classical.byContradiction fun h => h2 (.inr h)
          exact ⟨h1', h2a, h2b, by omega, by omega⟩
theorem pushS_inv {st : QuT} (I : QuInv st) (p : PrT) (hp : PrSm 1048576 p) : QuInv (pushS st p) := by
  unfold pushS
  by_cases h : pushE st p = 0
  · rw [if_pos h]
    obtain ⟨h1, _, _, h4, h5⟩ := push_ok h
    have hz := right_zx h1
    refine ⟨I.bd, by simp; omega, I.a9, ?_, ?_, ⟨I.cl.1, by have := I.cl.2; show st.committed ≤ p.d.zx; omega⟩, fun i hi => ⟨(I.ak i hi).1, by have := (I.ak i hi).2; show st.acked[i]! ≤ p.d.zx; omega⟩, fun i hi => ?_, I.vw⟩
    · show RiseZ (zxs (st.L ++ [p]))
      rw [zxs_snoc]
      exact List.pairwise_append.2 ⟨I.rise, List.pairwise_singleton _ _, fun a ha b hb => by
        rw [List.mem_singleton.1 hb]; have := (I.z1 a ha).2.2; omega⟩
    · intro z hz2
      rw [zxs_snoc, List.mem_append] at hz2
      rcases hz2 with hz2 | hz2
      · have := I.z1 z hz2; exact ⟨this.1, this.2.1, by show z ≤ p.d.zx; omega⟩
      · rw [List.mem_singleton.1 hz2]; exact ⟨hz, by have := I.cl.2; show st.committed < p.d.zx; omega, Int.le_refl _⟩
    · show PrSm 1048576 (st.L ++ [p])[i]!
      by_cases hi2 : i < st.L.length
      · rw [getBang_snoc _ _ _ hi2]; exact I.sm i hi2
      · have : i = st.L.length := by have : i < st.L.length + 1 := by simpa using hi
                                     omega
        subst this
        rw [getBang_last]; exact hp
  · rw [if_neg h]; exact I
def ackT (st : QuT) (v z : Int) : QuT := if 0 ≤ v ∧ v < st.acked.length ∧ 0 ≤ z ∧ z ≤ st.last then ackS st v.toNat z else st
def ackC (st : QuT) (v z : Int) : Int := if 0 ≤ v ∧ v < st.acked.length ∧ 0 ≤ z ∧ z ≤ st.last then 0 else 1
theorem ackS_inv {st : QuT} (I : QuInv st) (v : Nat) (z : Int) (h1 : z ≤ st.last) : QuInv (ackS st v z) := by
  refine ⟨I.bd, I.len, by show (ackL st.acked v z).length ≤ 9; rw [ackL_len]; exact I.a9, I.rise, I.z1, I.cl, fun i hi => ?_, I.sm, I.vw⟩
  have hi' : i < st.acked.length := by have h : i < (ackL st.acked v z).length := hi
                                       rwa [ackL_len] at h
  show 0 ≤ (ackL st.acked v z)[i]! ∧ (ackL st.acked v z)[i]! ≤ st.last
  have := I.ak i hi'
  rw [ackL_at _ _ _ _ hi']
  split <;> omega
theorem ackT_inv {st : QuT} (I : QuInv st) (v z : Int) : QuInv (ackT st v z) := by
  unfold ackT
  split
  · rename_i h; exact ackS_inv I _ _ h.2.2.2
  · exact I
theorem zxs_tail (L : List PrT) : zxs L.tail = (zxs L).tail := by simp [zxs]
noncomputable def commT (st : QuT) : QuT := if 0 < rdN st then commS st else st
theorem commS_inv {st : QuT} (I : QuInv st) (h : 0 < st.L.length) : QuInv (commS st) := by
  obtain ⟨L, bd, vs, ak, la, co⟩ := st
  cases L with
  | nil => simp at h
  | cons p r =>
    have hr := I.rise
    have hz : zxs (p :: r) = p.d.zx :: zxs r := rfl
    have hp := List.pairwise_cons.1 (show (p.d.zx :: zxs r).Pairwise (· < ·) from hr)
    have h0 := I.z1 p.d.zx (by rw [hz]; exact List.mem_cons_self)
    refine ⟨I.bd, by have := I.len; simp [commS] at this ⊢; omega, I.a9, hp.2, fun z hz2 => ?_, ⟨?_, ?_⟩, I.ak, fun i hi => ?_, I.vw⟩
    · have h1 := I.z1 z (by rw [hz]; exact List.mem_cons_of_mem _ hz2)
      exact ⟨h1.1, hp.1 z hz2, h1.2.2⟩
    · show 0 ≤ p.d.zx; omega
    · exact h0.2.2
    · have := I.sm (i + 1) (by have h : i < r.length := hi
                               simp; omega)
      simpa [commS] using this
theorem commT_inv {st : QuT} (I : QuInv st) : QuInv (commT st) := by
  unfold commT
  by_cases h : 0 < rdN st
  · rw [if_pos h]; exact commS_inv I (Nat.lt_of_lt_of_le h (rdN_le st))
  · rw [if_neg h]; exact I
theorem clearS_inv {st : QuT} (I : QuInv st) : QuInv (clearS st) :=
  ⟨I.bd, by simpa [clearS] using I.bd.1, by simpa [clearS] using I.a9, List.Pairwise.nil, fun z hz => by simp [clearS, zxs] at hz, ⟨I.cl.1, Int.le_refl _⟩, fun i hi => by
    have hi' : i < st.acked.length := by simpa [clearS] using hi
    have h1 := I.ak i hi'; have h2 := I.cl
    rw [getElem!_pos _ i hi'] at h1
    show 0 ≤ (st.acked.map _)[i]! ∧ (st.acked.map _)[i]! ≤ st.committed
    rw [getElem!_pos _ i (by simpa using hi'), List.getElem_map]
    omega, fun i hi => by simp [clearS] at hi, I.vw⟩
/-- what a call leaves: the queue's own three blocks alone are written; what it holds besides is new -/
def QuStep (bq : Nat) (x : QuX) (R : Nat → Prop) (st' : QuT) (w w' : World) : Prop :=
  (∃ x' R', QuW w' bq x' R' st' ∧ x'.ga = x.ga ∧ (x'.gr = x.gr ∨ w.heap.size ≤ x'.gr) ∧ ∀ b, R' b → R b ∨ w.heap.size ≤ b) ∧ Fr [bq, x.gr, x.ga] w w'
section
variable {w w' : World} {bq : Nat} {x : QuX} {R : Nat → Prop} {st : QuT}
theorem QuW.lt (H : QuW w bq x R st) : bq < w.heap.size := (Array.getElem?_eq_some_iff.1 H.q.box).1
theorem QuW.below (H : QuW w bq x R st) (hb : Below w.heap.size w w') : QuW w' bq x R st := ⟨H.q.below hb, Nat.lt_of_lt_of_le H.gr hb.size, Nat.lt_of_lt_of_le H.ga hb.size, H.rga, H.cap⟩
theorem QuW.fr {own : List Nat} (H : QuW w bq x R st) (hf : Fr own w w') (hn : ∀ g ∈ own, g ≠ bq ∧ g ≠ x.gr ∧ g ≠ x.ga ∧ ¬ R g) : QuW w' bq x R st :=
  ⟨H.q.fr hf (fun h => (hn _ h).1 rfl) (fun _ h => (hn _ h).2.1 rfl) (fun _ h => (hn _ h).2.2.1 rfl) (fun b hb h => (hn b h).2.2.2 hb), Nat.lt_of_lt_of_le H.gr hf.size, Nat.lt_of_lt_of_le H.ga hf.size, H.rga, H.cap⟩
theorem QuAt.norm (H : QuAt w bq x R st) (h0 : x.cap = 0) (g : Nat) : QuAt w bq { x with gr := g } R st := by
  have h1 := H.ring.le
  refine ⟨H.box, ⟨H.ring.le, H.ring.fst, ?_, .inr h0, fun j hj => absurd hj (by omega)⟩, H.vs, H.ack, H.acl, H.lt, H.nq, fun h => absurd h (by show ¬ 0 < x.cap; omega), fun h => ⟨(H.nga h).1, (H.nga h).2.1, (H.nga h).2.2.1, fun h => absurd h (by show ¬ 0 < x.cap; omega)⟩⟩
  rcases H.ring.at_ with h | h
  · exact .inl h
  · omega
theorem QuStep.same (H : QuW w bq x R st) (hb : Below w.heap.size w w') : QuStep bq x R st w w' := ⟨⟨x, R, H.below hb, rfl, .inl rfl, fun _ h => .inl h⟩, Fr.of_below hb⟩
def PushW (bq : Nat) (x : QuX) (R : Nat → Prop) (st : QuT) (p : PrT) (w : World) (e : Ending) (w' : World) : Prop := e = .returned (.int .i64 (pushE st p)) ∧ QuStep bq x R (pushS st p) w w'
theorem pushW {Rp : Nat → Prop} {h : PrH} {p : PrT} (H : QuW w bq x R st) (I : QuInv st) (hp : PrAt w Rp h p) (hE : Env w) (hsm : PrSm 1048576 p) :
    Calls Tryz.prog 19 #[.pointer (some ⟨bq, 0, none⟩), prV h] w (PushW bq x R st p w) := by
  refine (push_any bq x R Rp st h p w H.q hp hE hsm I.l4 H.cap H.gr).mono ?_
  rintro e w' ⟨he, ⟨x', R', hN, hc⟩, hf⟩
  have hga' : x'.ga < w'.heap.size := by rw [hN.ga.1]; exact Nat.lt_of_lt_of_le H.ga hf.size
  have hrga : ¬ R' x'.ga := by
    rw [hN.ga.1]; intro h
    rcases hN.new _ h with h | h
    · exact H.rga h
    · have := H.ga; omega
  by_cases h0 : 0 < x'.cap
  · exact ⟨he, ⟨x', R', ⟨hN.at_, (hN.at_.ngr h0).2.2, hga', hrga, hc⟩, hN.ga.1, hN.gr, hN.new⟩, hf⟩
  · exact ⟨he, ⟨{ x' with gr := x.gr }, R', ⟨hN.at_.norm (by omega) x.gr, Nat.lt_of_lt_of_le H.gr hf.size, hga', hrga, hc⟩, hN.ga.1, .inl rfl, hN.new⟩, hf⟩
def AckW (bq : Nat) (x : QuX) (R : Nat → Prop) (st : QuT) (v z : Int) (w : World) (e : Ending) (w' : World) : Prop :=
  e = .returned (.tuple #[.int .i64 ((rdN (ackT st v z) : Int) - rdN st), .int .i64 (ackC st v z)]) ∧ QuStep bq x R (ackT st v z) w w'
theorem ackW (v z : Int) (H : QuW w bq x R st) (I : QuInv st) : Calls Tryz.prog 20 #[.pointer (some ⟨bq, 0, none⟩), .int .i64 v, .int .i64 z] w (AckW bq x R st v z w) := by
  by_cases h : 0 ≤ v ∧ v < st.acked.length ∧ 0 ≤ z ∧ z ≤ st.last
  · obtain ⟨k, rfl⟩ : ∃ k : Nat, v = (k : Int) := ⟨v.toNat, by omega⟩
    have e1 : ackT st k z = ackS st k z := by unfold ackT; rw [if_pos h, Int.toNat_natCast]
    have e2 : ackC st k z = 0 := if_pos h
    refine (ack_any bq x R st k z w H.q (by omega) h.2.2.1 h.2.2.2 I.vw I.a4 I.rise I.l4 H.cap).mono ?_
    rintro e w' ⟨he, hq, hf⟩
    refine ⟨by rw [he, e1, e2], ⟨x, R, ⟨by rw [e1]; exact hq, Nat.lt_of_lt_of_le H.gr hf.size, Nat.lt_of_lt_of_le H.ga hf.size, H.rga, H.cap⟩, rfl, .inl rfl, fun _ h => .inl h⟩, ?_⟩
    exact ⟨hf.os, hf.tape, hf.output, hf.size, fun g hg hn => hf.block g hg (by simp at hn ⊢; exact hn.2.2)⟩
  · have e1 : ackT st v z = st := if_neg h
    have e2 : ackC st v z = 1 := if_neg h
    refine (ack_bad bq x R st v z w H.q (by unfold ackBad; omega)).mono ?_
    rintro e w' ⟨he, hb⟩
    refine ⟨by rw [he, e1, e2, Int.sub_self], ?_⟩
    rw [e1]; exact QuStep.same H hb
def CommW (bq : Nat) (x : QuX) (R : Nat → Prop) (st : QuT) (w : World) (e : Ending) (w' : World) : Prop :=
  (∃ h, e = .returned (.tuple #[prV h, .bool (decide (0 < rdN st))]) ∧ (0 < rdN st → PrAt w' R h st.L[0]!) ∧ (¬ 0 < rdN st → h = default)) ∧ QuStep bq x R (commT st) w w'
theorem commW (H : QuW w bq x R st) (I : QuInv st) : Calls Tryz.prog 22 #[.pointer (some ⟨bq, 0, none⟩)] w (CommW bq x R st w) := by
  by_cases h : 0 < rdN st
  · have e1 : commT st = commS st := if_pos h
    refine (commit_ok bq x R st w H.q I.vw I.a4 I.rise I.l4 H.cap h).mono ?_
    rintro e w' ⟨⟨hh, he, hp, hq⟩, hf⟩
    refine ⟨⟨hh, by rw [he, decide_eq_true h], fun _ => hp, fun h' => absurd h h'⟩, ⟨x.next, R, ⟨by rw [e1]; exact hq, Nat.lt_of_lt_of_le H.gr hf.size, Nat.lt_of_lt_of_le H.ga hf.size, H.rga, H.cap⟩, rfl, .inl rfl, fun _ h => .inl h⟩, ?_⟩
    exact ⟨hf.os, hf.tape, hf.output, hf.size, fun g hg hn => hf.block g hg (by simp at hn ⊢; exact ⟨hn.1, hn.2.1⟩)⟩
  · have e1 : commT st = st := if_neg h
    refine (commit_no bq x R st w H.q I.vw I.a4 I.rise I.l4 H.cap (by omega)).mono ?_
    rintro e w' ⟨he, hb⟩
    refine ⟨⟨default, by rw [he, decide_eq_false h], fun h' => absurd h' h, fun _ => rfl⟩, ?_⟩
    rw [e1]; exact QuStep.same H hb
def ClearW (bq : Nat) (x : QuX) (R : Nat → Prop) (st : QuT) (w : World) (e : Ending) (w' : World) : Prop :=
  (∃ (A : Option Addr) (c : Nat) (Hs : List PrH), e = .returned (.slice A st.L.length c) ∧ w'.ownsRow w.heap.size 63 45 (.slice A st.L.length c) st.L.length (Hs.flatMap encPr) ∧ Hs.length = st.L.length ∧ (∀ j, j < st.L.length → PrAt w' R Hs[j]! st.L[j]!)) ∧ QuStep bq x R (clearS st) w w'
theorem clearW (H : QuW w bq x R st) (I : QuInv st) : Calls Tryz.prog 25 #[.pointer (some ⟨bq, 0, none⟩)] w (ClearW bq x R st w) := by
  refine (clear_any bq x R st w H.q I.l4 H.cap H.gr H.ga I.a4 H.rga).mono ?_
  rintro e w' ⟨⟨A, c, Hs, x', he, hr, hl, hp, hx, hq⟩, hf⟩
  refine ⟨⟨A, c, Hs, he, hr, hl, hp⟩, ⟨x', R, ⟨hq, ?_, ?_, ?_, ?_⟩, hx.2.1, .inl hx.1, fun _ h => .inl h⟩, hf⟩
  · rw [hx.1]; exact Nat.lt_of_lt_of_le H.gr hf.size
  · rw [hx.2.1]; exact Nat.lt_of_lt_of_le H.ga hf.size
  · rw [hx.2.1]; exact H.rga
  · rw [hx.2.2.2]; exact H.cap
theorem readyW (H : QuW w bq x R st) (I : QuInv st) : Calls Tryz.prog 21 #[.pointer (some ⟨bq, 0, none⟩)] w (ChsP (rdN st) w) := ready_any bq x R st w H.q I.vw I.a4 I.rise I.l4 H.cap
/-- another queue is as it was -/
theorem QuW.other {bq2 : Nat} {x2 : QuX} {R2 : Nat → Prop} {st2 st' : QuT} (H2 : QuW w bq2 x2 R2 st2) (hs : QuStep bq x R st' w w') (hn : ∀ g ∈ [bq, x.gr, x.ga], g ≠ bq2 ∧ g ≠ x2.gr ∧ g ≠ x2.ga ∧ ¬ R2 g) : QuW w' bq2 x2 R2 st2 := H2.fr hs.2 hn
end
end Go.Proofs.YtbpmmmnphpkdjaaGreatDoor
namespace Go.Proofs.YtbpmmmnphpkdjaaGreatDoor
open Go.RowKit Go.MapKept Go.Maps
set_option maxRecDepth 100000 in
theorem no26_any (k : Int) (w : World) : Calls Tryz.prog 23 #[.int .i64 k] w fun e w' => e = .returned (.int .i64 k) ∧ w = w' := by
  go_enter Tryz.func23, Tryz.ntmps23
  go_wp2_with fail
  go_ret
  exact ⟨rfl, rfl⟩
def faultH (z : Int) : PrH := ⟨⟨0, 0, z, 0, ⟨⟨-1, ByteArray.empty, 0, 0, 0, false, 0, 0, 0, 0, -1⟩, (none, 0, 0), (none, 0, 0), (none, 0, 0), (none, 0, 0), (none, 0, 0)⟩⟩, ⟨0, z, -1, default⟩⟩
def faultT (z : Int) : PrT := ⟨⟨0, 0, z, 0, .mk ⟨⟨-1, ByteArray.empty, 0, 0, 0, false, 0, 0, 0, 0, -1⟩, [], [], [], []⟩ []⟩, ⟨0, z, -1, .mk ⟨default, [], [], [], []⟩ []⟩⟩
theorem fault_at (z : Int) (w : World) (R : Nat → Prop) : PrAt w R (faultH z) (faultT z) := by
  refine ⟨⟨⟨rfl, rfl, rfl, rfl⟩, ?_⟩, ⟨⟨rfl, rfl, rfl⟩, ?_⟩⟩
  · exact .mk _ _ [] (fun _ => default) 0 0 ⟨rfl, SlR.nil_, SlR.nil_, SlR.nil_, SlR.nil_⟩ rfl ⟨fun _ => ⟨rfl, rfl⟩, Nat.le_refl _⟩ (fun h => absurd h (by show ¬ 0 < 0; omega)) (fun j hj => absurd hj (by show ¬ j < 0; omega)) (fun j hj => absurd hj (by show ¬ j < 0; omega))
  · exact .mk _ _ [] (fun _ => default) 0 0 ⟨rfl, SlR.nil_, SlR.nil_, SlR.nil_, SlR.nil_⟩ rfl ⟨fun _ => ⟨rfl, rfl⟩, Nat.le_refl _⟩ (fun h => absurd h (by show ¬ 0 < 0; omega)) (fun j hj => absurd hj (by show ¬ j < 0; omega)) (fun j hj => absurd hj (by show ¬ j < 0; omega))
theorem z32 : in32 0 := by unfold in32; omega
theorem m32 : in32 (-1) := by unfold in32; omega
theorem z64 : in64 0 := by unfold in64; omega
theorem fault_sm (z : Int) (h1 : -9223372036854775808 ≤ z) (h2 : z ≤ 9223372036854775807) : PrSm 1048576 (faultT z) := by
  refine ⟨⟨⟨z64, z32, ⟨h1, h2⟩, z64⟩, .mk _ _ ?_ (fun j hj => absurd hj (by simp))⟩, ⟨⟨z32, ⟨h1, h2⟩, m32⟩, .mk _ _ ?_ (fun j hj => absurd hj (by simp))⟩⟩
  · refine ⟨⟨m32, z64, z32, z32, z64, z64, z64, z32, m32⟩, by decide, by decide, by decide, by decide, by decide, by decide, ?_, ?_, ?_⟩ <;> exact fun j hj => absurd hj (by simp)
  · refine ⟨⟨z32, z32, z32, z64, z32⟩, by decide, by decide, by decide, by decide, by decide, by decide, ?_, ?_, ?_⟩ <;> exact fun j hj => absurd hj (by simp)
theorem fault_right (z : Int) (h : 1 ≤ z) : rightE (faultT z).d = 0 := by
  have e1 : knownB (-1) = true := by decide
  have e2 : ownE z (faultT z).d.t.v 0 = 0 := by
    have g1 : namedB (faultT z).d.t.v = false := by rfl
    have g2 : greatB (faultT z).d.t.v 0 = false := by rfl
    have g3 : oddB z (faultT z).d.t.v 0 = false := by
      unfold oddB
      have s1 : spareB (faultT z).d.t.v 0 = false := by rfl
      rw [s1]
      simp [faultT, Tr.v]
    unfold ownE
    rw [g1, g2, g3]; rfl
  unfold rightE
  rw [show (faultT z).d.t.v.n.ty = -1 from rfl, e1, show (faultT z).d.zx = z from rfl, show (faultT z).d.t.subs = [] from rfl, if_neg (by simp), if_neg (by omega)]
  rw [show ([] : List TxT).length = 0 from rfl, e2]; rfl
def FaultP (z : Int) (w : World) (e : Ending) (w' : World) : Prop := e = .returned (prV (faultH z)) ∧ Below w.heap.size w w'
set_option linter.unusedSimpArgs false in
set_option maxRecDepth 100000 in
set_option maxHeartbeats 20000000 in
theorem fault_any (z : Int) (w : World) : Calls Tryz.prog 62 #[.int .i64 z] w (FaultP z w) := by
  go_enter Tryz.func62, Tryz.ntmps62
  go_wp2_with (first
    | (apply wpList_storeTop 63 63; exact rfl; exact rfl; exact rfl; (first | (with_reducible rfl) | (exact sz1 _ _) | (exact sz2 _ _ _) | (exact sz3 _ _ _ _)); exact rfl; exact infPr; exact rfl; (first | exact onePr _ | simp [Value.oneCell']))
    | fail)
  exact bodyPost_cell rfl rfl (heap_s0 w _) undPr rfl infPr rfl ⟨rfl, (Below.refl _ w).alloc (Nat.le_refl _) _⟩
end Go.Proofs.YtbpmmmnphpkdjaaGreatDoor
namespace Go.Proofs.YtbpmmmnphpkdjaaGreatDoor
open Go.RowKit Go.MapKept Go.Maps
/-- a queue that was made behind w0 -/
structure QuI (w0 w : World) (bq : Nat) (st : QuT) : Prop where
  i : ∃ x R, QuW w bq x R st ∧ w0.heap.size ≤ bq ∧ w0.heap.size ≤ x.gr ∧ w0.heap.size ≤ x.ga ∧ ∀ b, R b → w0.heap.size ≤ b
  b : Below w0.heap.size w0 w
  inv : QuInv st
section
variable {w0 w w' : World} {bq : Nat} {st : QuT}
theorem QuI.later (H : QuI w0 w bq st) (hb : Below w.heap.size w w') : QuI w0 w' bq st := by
  obtain ⟨x, R, hw, h⟩ := H.i
  exact ⟨⟨x, R, hw.below hb, h⟩, H.b.trans (hb.mono H.b.size), H.inv⟩
theorem QuI.env (H : QuI w0 w bq st) (hE : Env w0) : Env w := hE.below (Nat.le_refl _) H.b
theorem QuI.step {x : QuX} {R : Nat → Prop} {st' : QuT} (hx : w0.heap.size ≤ bq ∧ w0.heap.size ≤ x.gr ∧ w0.heap.size ≤ x.ga ∧ ∀ b, R b → w0.heap.size ≤ b) (hb : Below w0.heap.size w0 w) (I : QuInv st') (hs : QuStep bq x R st' w w') : QuI w0 w' bq st' := by
  obtain ⟨⟨x', R', h1, h2, h3, h4⟩, h5⟩ := hs
  refine ⟨⟨x', R', h1, hx.1, ?_, by rw [h2]; exact hx.2.2.1, fun b hb' => ?_⟩, hb.trans (h5.below hb.size (fun g hg => ?_)), I⟩
  · rcases h3 with h | h
    · rw [h]; exact hx.2.1
    · exact Nat.le_trans hb.size h
  · rcases h4 b hb' with h | h
    · exact hx.2.2.2 b h
    · exact Nat.le_trans hb.size h
  · simp at hg
    rcases hg with rfl | rfl | rfl
    · exact hx.1
    · exact hx.2.1
    · exact hx.2.2.1
def PushI (w0 : World) (bq : Nat) (st : QuT) (p : PrT) (e : Ending) (w' : World) : Prop := e = .returned (.int .i64 (pushE st p)) ∧ QuI w0 w' bq (pushS st p)
theorem pushI {Rp : Nat → Prop} {h : PrH} {p : PrT} (H : QuI w0 w bq st) (hE : Env w0) (hp : PrAt w Rp h p) (hsm : PrSm 1048576 p) : Calls Tryz.prog 19 #[.pointer (some ⟨bq, 0, none⟩), prV h] w (PushI w0 bq st p) := by
  obtain ⟨x, R, hw, hx⟩ := H.i
  refine (pushW hw H.inv hp (H.env hE) hsm).mono ?_
  rintro e w' ⟨he, hs⟩
  exact ⟨he, QuI.step hx H.b (pushS_inv H.inv p hsm) hs⟩
def AckI (w0 : World) (bq : Nat) (st : QuT) (v z : Int) (e : Ending) (w' : World) : Prop := e = .returned (.tuple #[.int .i64 ((rdN (ackT st v z) : Int) - rdN st), .int .i64 (ackC st v z)]) ∧ QuI w0 w' bq (ackT st v z)
theorem ackI (v z : Int) (H : QuI w0 w bq st) : Calls Tryz.prog 20 #[.pointer (some ⟨bq, 0, none⟩), .int .i64 v, .int .i64 z] w (AckI w0 bq st v z) := by
  obtain ⟨x, R, hw, hx⟩ := H.i
  refine (ackW v z hw H.inv).mono ?_
  rintro e w' ⟨he, hs⟩
  exact ⟨he, QuI.step hx H.b (ackT_inv H.inv v z) hs⟩
noncomputable def comZ (st : QuT) : Int := if 0 < rdN st then st.L[0]!.d.zx else 0
def CommI (w0 : World) (bq : Nat) (st : QuT) (e : Ending) (w' : World) : Prop := (∃ h, e = .returned (.tuple #[prV h, .bool (decide (0 < rdN st))]) ∧ h.d.zx = comZ st) ∧ QuI w0 w' bq (commT st)
theorem commI (H : QuI w0 w bq st) : Calls Tryz.prog 22 #[.pointer (some ⟨bq, 0, none⟩)] w (CommI w0 bq st) := by
  obtain ⟨x, R, hw, hx⟩ := H.i
  refine (commW hw H.inv).mono ?_
  rintro e w' ⟨⟨h, he, h1, h2⟩, hs⟩
  refine ⟨⟨h, he, ?_⟩, QuI.step hx H.b (commT_inv H.inv) hs⟩
  unfold comZ
  by_cases h0 : 0 < rdN st
  · rw [if_pos h0]; exact (h1 h0).1.1.2.2.1.symm
  · rw [if_neg h0, h2 h0]; rfl
def ClearI (w0 : World) (bq : Nat) (st : QuT) (e : Ending) (w' : World) : Prop := (∃ A c, e = .returned (.slice A st.L.length c)) ∧ QuI w0 w' bq (clearS st)
theorem clearI (H : QuI w0 w bq st) : Calls Tryz.prog 25 #[.pointer (some ⟨bq, 0, none⟩)] w (ClearI w0 bq st) := by
  obtain ⟨x, R, hw, hx⟩ := H.i
  refine (clearW hw H.inv).mono ?_
  rintro e w' ⟨⟨A, c, _, he, _⟩, hs⟩
  exact ⟨⟨A, c, he⟩, QuI.step hx H.b (clearS_inv H.inv) hs⟩
def ValI (w0 : World) (bq : Nat) (st : QuT) (v : Value) (e : Ending) (w' : World) : Prop := e = .returned v ∧ QuI w0 w' bq st
theorem readyI (H : QuI w0 w bq st) : Calls Tryz.prog 21 #[.pointer (some ⟨bq, 0, none⟩)] w (ValI w0 bq st (.int .i64 (rdN st))) := by
  obtain ⟨x, R, hw, hx⟩ := H.i
  refine (readyW hw H.inv).mono ?_
  rintro e w' ⟨he, hb⟩
  exact ⟨he, H.later hb⟩
theorem lenI (H : QuI w0 w bq st) : Calls Tryz.prog 26 #[.pointer (some ⟨bq, 0, none⟩)] w (ValI w0 bq st (.int .i64 st.L.length)) := by
  obtain ⟨x, R, hw, hx⟩ := H.i
  refine (queLen_any bq x R st w hw.q).mono ?_
  rintro e w' ⟨he, q, rfl⟩
  exact ⟨he, H.later (drewN_self w q)⟩
theorem lastI (H : QuI w0 w bq st) : Calls Tryz.prog 28 #[.pointer (some ⟨bq, 0, none⟩)] w (ValI w0 bq st (.int .i64 st.last)) := by
  obtain ⟨x, R, hw, hx⟩ := H.i
  refine (queLast_any bq x R st w hw.q).mono ?_
  rintro e w' ⟨he, q, rfl⟩
  exact ⟨he, H.later (drewN_self w q)⟩
def NewI (w0 : World) (st : QuT) (e : Ending) (w' : World) : Prop := ∃ bq, e = .returned (.tuple #[.pointer (some ⟨bq, 0, none⟩), .int .i64 0]) ∧ QuI w0 w' bq st
theorem newI (bound : Int) (v : Nat) (w : World) (h1 : 0 ≤ bound) (h2 : bound ≤ 4096) (h3 : v ≤ 9) (hb : Below w0.heap.size w0 w) : Calls Tryz.prog 18 #[.int .i64 bound, .int .i64 v] w (NewI w0 (newS bound v)) := by
  refine (new_ok bound v w h1 h2 h3).mono ?_
  rintro e w' ⟨⟨bq, x, R, he, hw, h4, h5, h6, h7⟩, hb'⟩
  have hs := hb.size
  exact ⟨bq, he, ⟨⟨x, R, hw, by omega, by omega, by omega, fun b h => Nat.le_trans hs (h7 b h)⟩, hb.trans (hb'.mono hs), newS_inv bound v h1 h2 h3⟩⟩
end
theorem push_fault (st : QuT) (z : Int) (h : 1 ≤ z) : pushE st (faultT z) = if z ≤ st.last then 150 else if st.bound ≤ st.L.length then 3 else 0 := by
  unfold pushE
  rw [fault_right z h, if_neg (by simp), if_neg (by simp [faultT])]
  rfl
def lv1 : QuT := ⟨[faultT 5], 2, List.replicate 3 (0, 1), List.replicate 3 0, 5, 0⟩
def lv3 : QuT := ⟨[faultT 5, faultT 7], 2, List.replicate 3 (0, 1), List.replicate 3 0, 7, 0⟩
def lva : QuT := ⟨[faultT 5, faultT 7], 2, List.replicate 3 (0, 1), [7, 0, 0], 7, 0⟩
def lvb : QuT := ⟨[faultT 5, faultT 7], 2, List.replicate 3 (0, 1), [7, 5, 0], 7, 0⟩
def lvc : QuT := ⟨[faultT 7], 2, List.replicate 3 (0, 1), [7, 5, 0], 7, 5⟩
theorem lv_e1 : pushE (newS 2 3) (faultT 5) = 0 := by rw [push_fault _ _ (by decide)]; decide
theorem lv_s1 : pushS (newS 2 3) (faultT 5) = lv1 := by unfold pushS; rw [if_pos lv_e1]; rfl
theorem lv_e2 : pushE lv1 (faultT 5) = 150 := by rw [push_fault _ _ (by decide)]; decide
theorem lv_s2 : pushS lv1 (faultT 5) = lv1 := by unfold pushS; rw [if_neg (by rw [lv_e2]; decide)]
theorem lv_e3 : pushE lv1 (faultT 7) = 0 := by rw [push_fault _ _ (by decide)]; decide
theorem lv_s3 : pushS lv1 (faultT 7) = lv3 := by unfold pushS; rw [if_pos lv_e3]; rfl
theorem lv_e4 : pushE lv3 (faultT 8) = 3 := by rw [push_fault _ _ (by decide)]; decide
theorem lv_s4 : pushS lv3 (faultT 8) = lv3 := by unfold pushS; rw [if_neg (by rw [lv_e4]; decide)]
theorem lv_a : ackT lv3 0 7 = lva := by rfl
theorem lv_ac : ackC lv3 0 7 = 0 := by rfl
theorem lv_b : ackT lva 1 5 = lvb := by rfl
theorem lv_bc : ackC lva 1 5 = 0 := by rfl
theorem lv_r3 : rdN lv3 = 0 := by
  show readyN [5, 7] (chosenZ (List.replicate 3 (0, 1)) (List.replicate 3 0) 7) = 0
  decide
theorem lv_ra : rdN lva = 0 := by
  show readyN [5, 7] (chosenZ (List.replicate 3 (0, 1)) [7, 0, 0] 7) = 0
  decide
theorem lv_rb : rdN lvb = 1 := by
  show readyN [5, 7] (chosenZ (List.replicate 3 (0, 1)) [7, 5, 0] 7) = 1
  decide
theorem lv_rc : rdN lvc = 0 := by
  show readyN [7] (chosenZ (List.replicate 3 (0, 1)) [7, 5, 0] 7) = 0
  decide
theorem lv_c : commT lvb = lvc := by unfold commT; rw [lv_rb]; rfl
theorem lv_d : commT lvc = lvc := by unfold commT; rw [lv_rc]; rfl
theorem lv_zc : comZ lvb = 5 := by unfold comZ; rw [lv_rb]; rfl
set_option linter.unusedSimpArgs false in
set_option maxRecDepth 100000 in
set_option maxHeartbeats 20000000 in
theorem live26_any (w : World) (hE : Env w) : Calls Tryz.prog 17 #[] w (RetB w true) := by
  have HE := Lib.hid hE; clear hE
  have HNW := Lib.hid (show Calls Tryz.prog 18 #[.int .i64 2, .int .i64 3] w (NewI w (newS 2 3)) from newI 2 3 w (by decide) (by decide) (by decide) (Below.refl _ w))
  go_enter Tryz.func17, Tryz.ntmps17
  go_wp2_with fail
  refine HNW.out.mono ?_
  rintro e w1 ⟨bq, rfl, h1⟩
  have H1 := Lib.hid h1; clear h1 HNW
  go_wp2_with fail
  refine (no26_any _ _).mono ?_
  rintro e w' ⟨rfl, rfl⟩
  go_wp2_with fail
  refine (fault_any 5 _).mono ?_
  rintro e w2 ⟨rfl, hb⟩
  have H2 := Lib.hid (H1.out.later hb); clear hb H1
  have HP := Lib.hid (pushI H2.out HE.out (fault_at 5 w2 (fun _ => False)) (fault_sm 5 (by decide) (by decide)))
  unfold PushI at HP
  rw [lv_e1, lv_s1] at HP
  go_wp2_with fail
  refine HP.out.mono ?_
  rintro e w3 ⟨rfl, h3⟩
  have H3 := Lib.hid h3; clear h3 HP H2
  go_wp2_with fail
  refine (fault_any 5 _).mono ?_
  rintro e w4 ⟨rfl, hb⟩
  have H4 := Lib.hid (H3.out.later hb); clear hb H3
  have HP := Lib.hid (pushI H4.out HE.out (fault_at 5 w4 (fun _ => False)) (fault_sm 5 (by decide) (by decide)))
  unfold PushI at HP
  rw [lv_e2, lv_s2] at HP
  go_wp2_with fail
  refine HP.out.mono ?_
  rintro e w5 ⟨rfl, h5⟩
  have H5 := Lib.hid h5; clear h5 HP H4
  go_wp2_with fail
  refine (fault_any 7 _).mono ?_
  rintro e w6 ⟨rfl, hb⟩
  have H6 := Lib.hid (H5.out.later hb); clear hb H5
  have HP := Lib.hid (pushI H6.out HE.out (fault_at 7 w6 (fun _ => False)) (fault_sm 7 (by decide) (by decide)))
  unfold PushI at HP
  rw [lv_e3, lv_s3] at HP
  go_wp2_with fail
  refine HP.out.mono ?_
  rintro e w7 ⟨rfl, h7⟩
  have H7 := Lib.hid h7; clear h7 HP H6
  go_wp2_with fail
  refine (fault_any 8 _).mono ?_
  rintro e w8 ⟨rfl, hb⟩
  have H8 := Lib.hid (H7.out.later hb); clear hb H7
  have HP := Lib.hid (pushI H8.out HE.out (fault_at 8 w8 (fun _ => False)) (fault_sm 8 (by decide) (by decide)))
  unfold PushI at HP
  rw [lv_e4, lv_s4] at HP
  go_wp2_with fail
  refine HP.out.mono ?_
  rintro e w9 ⟨rfl, h9⟩
  have H9 := Lib.hid h9; clear h9 HP H8
  have HA := Lib.hid (ackI 0 7 H9.out)
  unfold AckI at HA
  rw [lv_a, lv_ac, lv_r3, lv_ra] at HA
  go_wp2_with fail
  refine HA.out.mono ?_
  rintro e w10 ⟨rfl, h10⟩
  have H10 := Lib.hid h10; clear h10 HA H9
  have HA := Lib.hid (ackI 1 5 H10.out)
  unfold AckI at HA
  rw [lv_b, lv_bc, lv_rb, lv_ra] at HA
  go_wp2_with fail
  refine HA.out.mono ?_
  rintro e w11 ⟨rfl, h11⟩
  have H11 := Lib.hid h11; clear h11 HA H10
  have HC := Lib.hid (commI H11.out)
  unfold CommI at HC
  rw [lv_rb, lv_c, lv_zc] at HC
  go_wp2_with fail
  refine HC.out.mono ?_
  rintro e w12 ⟨⟨hh, rfl, hz⟩, h12⟩
  have H12 := Lib.hid h12; have HZ := Lib.hid hz; clear h12 HC H11 hz
  have hb1 : Below w12.heap.size w12 (w12.alloc (.cells #[.int .i64 hh.d.se, .int .i32 hh.d.xi, .int .i64 hh.d.zx, .int .i64 hh.d.ti, .int .i32 hh.d.t.n.ty, .string hh.d.t.n.path, slV hh.d.t.d, slV hh.d.t.a, .int .i64 hh.d.t.n.ow, .int .i32 hh.d.t.n.ve, .int .i32 hh.d.t.n.cr, .bool hh.d.t.n.qh, .int .i64 hh.d.t.n.qc, .int .i64 hh.d.t.n.qb, .int .i64 hh.d.t.n.si, .int .i32 hh.d.t.n.st, slV hh.d.t.i, slV hh.d.t.p, .int .i32 hh.d.t.n.co, slV hh.d.t.s, .int .i32 hh.r.xi, .int .i64 hh.r.zx, .int .i32 hh.r.co, .int .i32 hh.r.r.n.ty, .int .i32 hh.r.r.n.co, .string hh.r.r.n.path, .int .i64 hh.r.r.n.q.a, .int .i64 hh.r.r.n.q.b, .int .i64 hh.r.r.n.q.c, .int .i64 hh.r.r.n.q.d, .int .i32 hh.r.r.n.q.e, .int .i32 hh.r.r.n.q.f, .int .i32 hh.r.r.n.q.g, .int .i64 hh.r.r.n.q.h, .int .i32 hh.r.r.n.q.i, .int .i32 hh.r.r.n.q.j, .int .i64 hh.r.r.n.q.k, slV hh.r.r.d, slV hh.r.r.a, slV hh.r.r.m, .int .i32 hh.r.r.n.ct, .int .i64 hh.r.r.n.si, .int .i32 hh.r.r.n.st, slV hh.r.r.i, slV hh.r.r.s] 63)) := (Below.refl _ w12).alloc (Nat.le_refl _) _
  have HG := Lib.hid (heap_s0 w12 (.cells #[.int .i64 hh.d.se, .int .i32 hh.d.xi, .int .i64 hh.d.zx, .int .i64 hh.d.ti, .int .i32 hh.d.t.n.ty, .string hh.d.t.n.path, slV hh.d.t.d, slV hh.d.t.a, .int .i64 hh.d.t.n.ow, .int .i32 hh.d.t.n.ve, .int .i32 hh.d.t.n.cr, .bool hh.d.t.n.qh, .int .i64 hh.d.t.n.qc, .int .i64 hh.d.t.n.qb, .int .i64 hh.d.t.n.si, .int .i32 hh.d.t.n.st, slV hh.d.t.i, slV hh.d.t.p, .int .i32 hh.d.t.n.co, slV hh.d.t.s, .int .i32 hh.r.xi, .int .i64 hh.r.zx, .int .i32 hh.r.co, .int .i32 hh.r.r.n.ty, .int .i32 hh.r.r.n.co, .string hh.r.r.n.path, .int .i64 hh.r.r.n.q.a, .int .i64 hh.r.r.n.q.b, .int .i64 hh.r.r.n.q.c, .int .i64 hh.r.r.n.q.d, .int .i32 hh.r.r.n.q.e, .int .i32 hh.r.r.n.q.f, .int .i32 hh.r.r.n.q.g, .int .i64 hh.r.r.n.q.h, .int .i32 hh.r.r.n.q.i, .int .i32 hh.r.r.n.q.j, .int .i64 hh.r.r.n.q.k, slV hh.r.r.d, slV hh.r.r.a, slV hh.r.r.m, .int .i32 hh.r.r.n.ct, .int .i64 hh.r.r.n.si, .int .i32 hh.r.r.n.st, slV hh.r.r.i, slV hh.r.r.s] 63))
  have HS := Lib.hid (sz1 w12 (.cells #[.int .i64 hh.d.se, .int .i32 hh.d.xi, .int .i64 hh.d.zx, .int .i64 hh.d.ti, .int .i32 hh.d.t.n.ty, .string hh.d.t.n.path, slV hh.d.t.d, slV hh.d.t.a, .int .i64 hh.d.t.n.ow, .int .i32 hh.d.t.n.ve, .int .i32 hh.d.t.n.cr, .bool hh.d.t.n.qh, .int .i64 hh.d.t.n.qc, .int .i64 hh.d.t.n.qb, .int .i64 hh.d.t.n.si, .int .i32 hh.d.t.n.st, slV hh.d.t.i, slV hh.d.t.p, .int .i32 hh.d.t.n.co, slV hh.d.t.s, .int .i32 hh.r.xi, .int .i64 hh.r.zx, .int .i32 hh.r.co, .int .i32 hh.r.r.n.ty, .int .i32 hh.r.r.n.co, .string hh.r.r.n.path, .int .i64 hh.r.r.n.q.a, .int .i64 hh.r.r.n.q.b, .int .i64 hh.r.r.n.q.c, .int .i64 hh.r.r.n.q.d, .int .i32 hh.r.r.n.q.e, .int .i32 hh.r.r.n.q.f, .int .i32 hh.r.r.n.q.g, .int .i64 hh.r.r.n.q.h, .int .i32 hh.r.r.n.q.i, .int .i32 hh.r.r.n.q.j, .int .i64 hh.r.r.n.q.k, slV hh.r.r.d, slV hh.r.r.a, slV hh.r.r.m, .int .i32 hh.r.r.n.ct, .int .i64 hh.r.r.n.si, .int .i32 hh.r.r.n.st, slV hh.r.r.i, slV hh.r.r.s] 63))
  obtain ⟨x, R, hw12, hx⟩ := H12.out.i
  have HN12 := Lib.hid (show w12.heap.size ∉ [bq, x.gr, x.ga] by have h1 := hw12.lt; have h2 := hw12.gr; have h3 := hw12.ga; simp; omega)
  have HW := Lib.hid (hw12.below hb1)
  have HB := Lib.hid (H12.out.b.trans (hb1.mono H12.out.b.size))
  have HX := Lib.hid hx; have HI := Lib.hid H12.out.inv
  clear hb1 H12 hw12 hx
  go_upto_region 8 with (first
    | (apply wpList_storeTop 63 63; exact rfl; exact rfl; exact rfl; (first | (with_reducible rfl) | (exact sz1 _ _) | (exact sz2 _ _ _) | (exact sz3 _ _ _ _)); exact rfl; exact infPr; exact rfl; (first | exact onePr _ | simp [Value.oneCell']))
    | fail)
  generalize w12.alloc (.cells #[.int .i64 hh.d.se, .int .i32 hh.d.xi, .int .i64 hh.d.zx, .int .i64 hh.d.ti, .int .i32 hh.d.t.n.ty, .string hh.d.t.n.path, slV hh.d.t.d, slV hh.d.t.a, .int .i64 hh.d.t.n.ow, .int .i32 hh.d.t.n.ve, .int .i32 hh.d.t.n.cr, .bool hh.d.t.n.qh, .int .i64 hh.d.t.n.qc, .int .i64 hh.d.t.n.qb, .int .i64 hh.d.t.n.si, .int .i32 hh.d.t.n.st, slV hh.d.t.i, slV hh.d.t.p, .int .i32 hh.d.t.n.co, slV hh.d.t.s, .int .i32 hh.r.xi, .int .i64 hh.r.zx, .int .i32 hh.r.co, .int .i32 hh.r.r.n.ty, .int .i32 hh.r.r.n.co, .string hh.r.r.n.path, .int .i64 hh.r.r.n.q.a, .int .i64 hh.r.r.n.q.b, .int .i64 hh.r.r.n.q.c, .int .i64 hh.r.r.n.q.d, .int .i32 hh.r.r.n.q.e, .int .i32 hh.r.r.n.q.f, .int .i32 hh.r.r.n.q.g, .int .i64 hh.r.r.n.q.h, .int .i32 hh.r.r.n.q.i, .int .i32 hh.r.r.n.q.j, .int .i64 hh.r.r.n.q.k, slV hh.r.r.d, slV hh.r.r.a, slV hh.r.r.m, .int .i32 hh.r.r.n.ct, .int .i64 hh.r.r.n.si, .int .i32 hh.r.r.n.st, slV hh.r.r.i, slV hh.r.r.s] 63) = W at *
  have HC := Lib.hid (commW HW.out HI.out)
  unfold CommW at HC
  rw [lv_rc, lv_d] at HC
  go_wp2_with fail
  refine HC.out.mono ?_
  rintro e w13 ⟨⟨h2, rfl, -, -⟩, hs13⟩
  have hlt : w12.heap.size < W.heap.size := by have := HS.out; omega
  have hc13 : w13.cell? ⟨w12.heap.size, 2, none⟩ = some (.int .i64 5) := by
    rw [hs13.2.cell (p := ⟨w12.heap.size, 2, none⟩) hlt HN12.out, cellH HG.out, ← HZ.out]; rfl
  have H13 := Lib.hid (QuI.step HX.out HB.out HI.out hs13)
  have hb2 : Below w13.heap.size w13 (w13.alloc (.cells #[.int .i64 h2.d.se, .int .i32 h2.d.xi, .int .i64 h2.d.zx, .int .i64 h2.d.ti, .int .i32 h2.d.t.n.ty, .string h2.d.t.n.path, slV h2.d.t.d, slV h2.d.t.a, .int .i64 h2.d.t.n.ow, .int .i32 h2.d.t.n.ve, .int .i32 h2.d.t.n.cr, .bool h2.d.t.n.qh, .int .i64 h2.d.t.n.qc, .int .i64 h2.d.t.n.qb, .int .i64 h2.d.t.n.si, .int .i32 h2.d.t.n.st, slV h2.d.t.i, slV h2.d.t.p, .int .i32 h2.d.t.n.co, slV h2.d.t.s, .int .i32 h2.r.xi, .int .i64 h2.r.zx, .int .i32 h2.r.co, .int .i32 h2.r.r.n.ty, .int .i32 h2.r.r.n.co, .string h2.r.r.n.path, .int .i64 h2.r.r.n.q.a, .int .i64 h2.r.r.n.q.b, .int .i64 h2.r.r.n.q.c, .int .i64 h2.r.r.n.q.d, .int .i32 h2.r.r.n.q.e, .int .i32 h2.r.r.n.q.f, .int .i32 h2.r.r.n.q.g, .int .i64 h2.r.r.n.q.h, .int .i32 h2.r.r.n.q.i, .int .i32 h2.r.r.n.q.j, .int .i64 h2.r.r.n.q.k, slV h2.r.r.d, slV h2.r.r.a, slV h2.r.r.m, .int .i32 h2.r.r.n.ct, .int .i64 h2.r.r.n.si, .int .i32 h2.r.r.n.st, slV h2.r.r.i, slV h2.r.r.s] 63)) := (Below.refl _ w13).alloc (Nat.le_refl _) _
  have hc14 := keep1 hc13 hb2
  have H14 := Lib.hid (H13.out.later hb2)
  clear hs13 hlt hc13 hb2 H13 HC HW HB HX HI HN12 HG HS
  go_upto_region 9 with (first
    | (apply wpList_storeTop 63 63; exact rfl; exact rfl; exact rfl; (first | (with_reducible rfl) | (exact sz1 _ _) | (exact sz2 _ _ _) | (exact sz3 _ _ _ _)); exact rfl; exact infPr; exact rfl; (first | exact onePr _ | simp [Value.oneCell']))
    | fail)
  generalize w13.alloc (.cells #[.int .i64 h2.d.se, .int .i32 h2.d.xi, .int .i64 h2.d.zx, .int .i64 h2.d.ti, .int .i32 h2.d.t.n.ty, .string h2.d.t.n.path, slV h2.d.t.d, slV h2.d.t.a, .int .i64 h2.d.t.n.ow, .int .i32 h2.d.t.n.ve, .int .i32 h2.d.t.n.cr, .bool h2.d.t.n.qh, .int .i64 h2.d.t.n.qc, .int .i64 h2.d.t.n.qb, .int .i64 h2.d.t.n.si, .int .i32 h2.d.t.n.st, slV h2.d.t.i, slV h2.d.t.p, .int .i32 h2.d.t.n.co, slV h2.d.t.s, .int .i32 h2.r.xi, .int .i64 h2.r.zx, .int .i32 h2.r.co, .int .i32 h2.r.r.n.ty, .int .i32 h2.r.r.n.co, .string h2.r.r.n.path, .int .i64 h2.r.r.n.q.a, .int .i64 h2.r.r.n.q.b, .int .i64 h2.r.r.n.q.c, .int .i64 h2.r.r.n.q.d, .int .i32 h2.r.r.n.q.e, .int .i32 h2.r.r.n.q.f, .int .i32 h2.r.r.n.q.g, .int .i64 h2.r.r.n.q.h, .int .i32 h2.r.r.n.q.i, .int .i32 h2.r.r.n.q.j, .int .i64 h2.r.r.n.q.k, slV h2.r.r.d, slV h2.r.r.a, slV h2.r.r.m, .int .i32 h2.r.r.n.ct, .int .i64 h2.r.r.n.si, .int .i32 h2.r.r.n.st, slV h2.r.r.i, slV h2.r.r.s] 63) = W2 at *
  have HL := Lib.hid (lenI H14.out)
  go_wp2_with ((with_reducible refine (no26_any _ _).mono ?_); rintro e w' ⟨rfl, rfl⟩)
  refine HL.out.mono ?_
  rintro e w15 ⟨rfl, h15⟩
  have H15 := Lib.hid h15; clear h15 HL
  go_wp2_with fail
  go_ret
  exact RetB.mk H15.out.b rfl
end Go.Proofs.YtbpmmmnphpkdjaaGreatDoor
