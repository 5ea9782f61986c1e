/- What a queue answers after voices, forth and back, and after commits. No program; no condition. -/
import Derived.Test.YtbpmmmnphpkdjaaGreatDoorZTwo
import Derived.Test.YtbpmmmnphpkdjaaGreatDoorZVoiP
namespace Go.Proofs.YtbpmmmnphpkdjaaGreatDoor
open Go.RowKit Go.MapKept Go.Maps
def withAk (st : QuT) (ak : List Int) : QuT := { st with acked := ak }
theorem ackT_voice (st : QuT) (v z : Int) : ackT st v z = withAk st (voiceL st.last st.acked (v, z)) := by
  unfold ackT voiceL withAk
  by_cases h : 0 ≤ v ∧ v < st.acked.length ∧ 0 ≤ z ∧ z ≤ st.last
  · rw [if_pos h, if_pos h]; rfl
  · rw [if_neg h, if_neg h]
/-- after the first k voices -/
def vcF (st : QuT) (l : List (Int × Int)) (k : Nat) : QuT := withAk st (voicesL st.last st.acked (l.take k))
/-- after those from the k-th on, the last first -/
def vcB (st : QuT) (l : List (Int × Int)) (k : Nat) : QuT := withAk st (voicesL st.last st.acked (l.drop k).reverse)
theorem vcF_zero (st : QuT) (l : List (Int × Int)) : vcF st l 0 = st := rfl
theorem vcF_succ (st : QuT) (l : List (Int × Int)) (k : Nat) (hk : k < l.length) : ackT (vcF st l k) l[k]!.1 l[k]!.2 = vcF st l (k + 1) := by
  rw [ackT_voice]
  unfold vcF
  rw [voices_take _ _ _ _ hk]; rfl
theorem vcB_end (st : QuT) (l : List (Int × Int)) : vcB st l l.length = st := by
  unfold vcB; rw [List.drop_length]; rfl
theorem vcB_succ (st : QuT) (l : List (Int × Int)) (k : Nat) (hk : k < l.length) : ackT (vcB st l (k + 1)) l[k]!.1 l[k]!.2 = vcB st l k := by
  rw [ackT_voice]
  unfold vcB
  rw [voices_drop _ _ _ _ hk]; rfl
theorem vcF_vcB (st : QuT) (l : List (Int × Int)) : vcB st l 0 = vcF st l l.length := by
  unfold vcB vcF
  rw [List.drop_zero, voices_reverse, List.take_length]
theorem rdN_ack {st : QuT} (I : QuInv st) (v z : Int) : rdN st ≤ rdN (ackT st v z) := by
  unfold ackT
  by_cases h : 0 ≤ v ∧ v < st.acked.length ∧ 0 ≤ z ∧ z ≤ st.last
  · rw [if_pos h]
    have e1 : rdN st = refReady st.vs st.acked (zxs st.L) := ready_ref (fun z hz => ⟨(I.z1 z hz).1, (I.z1 z hz).2.2⟩)
    have e2 : rdN (ackS st v.toNat z) = refReady st.vs (ackL st.acked v.toNat z) (zxs st.L) := ready_ref (fun z hz => ⟨(I.z1 z hz).1, (I.z1 z hz).2.2⟩)
    rw [e1, e2]; exact refReady_ack
  · rw [if_neg h]; exact Nat.le_refl _
theorem rdN_zero {st : QuT} (I : QuInv st) (h0 : 0 < st.acked.length) (ha : ∀ i, i < st.acked.length → st.acked[i]! ≤ 0) : rdN st = 0 := by
  have e1 : rdN st = refReady st.vs st.acked (zxs st.L) := ready_ref (fun z hz => ⟨(I.z1 z hz).1, (I.z1 z hz).2.2⟩)
  rw [e1]; exact refReady_zero h0 ha (fun z hz => (I.z1 z hz).1)
theorem rdN_comm {st : QuT} (h : 0 < rdN st) : rdN (commT st) + 1 = rdN st := by
  rw [show commT st = commS st from if_pos h]
  obtain ⟨L, bd, vs, ak, la, co⟩ := st
  cases L with
  | nil => exact absurd h (by simp [rdN, zxs, readyN])
  | cons p r =>
    have h' : 0 < readyN (p.d.zx :: zxs r) (chosenZ vs ak la) := h
    show readyN (zxs r) (chosenZ vs ak la) + 1 = readyN (p.d.zx :: zxs r) (chosenZ vs ak la)
    rw [readyN_cons] at h' ⊢
    by_cases hx : p.d.zx ≤ chosenZ vs ak la
    · rw [if_pos hx]
    · rw [if_neg hx] at h'; omega
theorem rdN_max {st : QuT} (I : QuInv st) : rdN st ≤ 4096 := Nat.le_trans (rdN_le st) I.l4
theorem pushS_acked (st : QuT) (p : PrT) : (pushS st p).acked = st.acked := by
  unfold pushS; split <;> rfl
/-- nothing is acknowledged, and nothing is ready where there are voters -/
def Fresh (v : Nat) (st : QuT) : Prop := st.acked = List.replicate v 0 ∧ QuInv st
theorem Fresh.made (bound : Int) (v : Nat) (h1 : 0 ≤ bound) (h2 : bound ≤ 4096) (h3 : v ≤ 9) : Fresh v (newS bound v) := ⟨rfl, newS_inv bound v h1 h2 h3⟩
theorem Fresh.push {v : Nat} {st : QuT} (H : Fresh v st) (p : PrT) (hp : PrSm 1048576 p) : Fresh v (pushS st p) := ⟨(pushS_acked st p).trans H.1, pushS_inv H.2 p hp⟩
theorem Fresh.zero {v : Nat} {st : QuT} (H : Fresh v st) (hv : 0 < v) : rdN st = 0 :=
  rdN_zero H.2 (by rw [H.1]; simpa using hv) (fun i hi => by
    rw [H.1] at hi ⊢
    rw [getElem!_pos _ i hi]; simp)
theorem vcF_inv {st : QuT} (I : QuInv st) (l : List (Int × Int)) : ∀ k, k ≤ l.length → QuInv (vcF st l k)
  | 0, _ => I
  | k + 1, hk => by rw [← vcF_succ st l k hk]; exact ackT_inv (vcF_inv I l k (by omega)) _ _
theorem vcF_rise {st : QuT} (I : QuInv st) (l : List (Int × Int)) : ∀ k, k ≤ l.length → rdN st ≤ rdN (vcF st l k)
  | 0, _ => Nat.le_refl _
  | k + 1, hk => by
    rw [← vcF_succ st l k hk]
    exact Nat.le_trans (vcF_rise I l k (by omega)) (rdN_ack (vcF_inv I l k (by omega)) _ _)
/-- a delta with the reply that the law gives it -/
def dlH (h : DlH) : PrH := ⟨h, ⟨h.xi, h.zx, -1, default⟩⟩
def dlT (d : DlT) : PrT := ⟨d, ⟨d.xi, d.zx, -1, .mk ⟨default, [], [], [], []⟩ []⟩⟩
theorem dl_at {h : DlH} {d : DlT} {w : World} {R : Nat → Prop} (H : DlAt w R h d) : PrAt w R (dlH h) (dlT d) := by
  refine ⟨H, ⟨⟨H.1.2.1, H.1.2.2.1, rfl⟩, ?_⟩⟩
  exact .mk _ _ [] (fun _ => default) 0 0 ⟨rfl, SlR.nil_, SlR.nil_, SlR.nil_, SlR.nil_⟩ rfl ⟨fun _ => ⟨rfl, rfl⟩, Nat.le_refl _⟩ (fun h => absurd h (by show ¬ 0 < 0; omega)) (fun j hj => absurd hj (by show ¬ j < 0; omega)) (fun j hj => absurd hj (by show ¬ j < 0; omega))
theorem dl_sm {d : DlT} (h : DlSm 1048576 d) : PrSm 1048576 (dlT d) := by
  refine ⟨h, ⟨⟨h.1.2.1, h.1.2.2.1, m32⟩, .mk _ _ ?_ (fun j hj => absurd hj (by simp))⟩⟩
  refine ⟨⟨z32, z32, z32, z64, z32⟩, by decide, by decide, by decide, by decide, by decide, by decide, ?_, ?_, ?_⟩ <;> exact fun j hj => absurd hj (by simp)
end Go.Proofs.YtbpmmmnphpkdjaaGreatDoor
