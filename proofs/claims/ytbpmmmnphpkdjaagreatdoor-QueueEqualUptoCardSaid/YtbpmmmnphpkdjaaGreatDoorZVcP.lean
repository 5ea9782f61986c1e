/- Two queues of a law's own, apart in memory: each call on one keeps the other. Condition: as at the calls. Voices in whatever order: the greatest of each voter alone counts. No program; no condition. What a queue answers after voices, forth and back, and after commits. No program; no condition. -/
import Derived.Test.YtbpmmmnphpkdjaaGreatDoorZQueN
import Derived.Test.YtbpmmmnphpkdjaaGreatDoorZQueH
namespace Go.Proofs.YtbpmmmnphpkdjaaGreatDoor
open Go.RowKit Go.MapKept Go.Maps
structure TwoE (w0 w : World) (ba bb : Nat) (sa sb : QuT) (xa : QuX) (Ra : Nat → Prop) (xb : QuX) (Rb : Nat → Prop) : Prop where
  ha : QuW w ba xa Ra sa
  hb : QuW w bb xb Rb sb
  s1 : ∀ g ∈ [ba, xa.gr, xa.ga], g ≠ bb ∧ g ≠ xb.gr ∧ g ≠ xb.ga ∧ ¬ Rb g
  s2 : ∀ g ∈ [bb, xb.gr, xb.ga], ¬ Ra g
  la : w0.heap.size ≤ ba ∧ w0.heap.size ≤ xa.gr ∧ w0.heap.size ≤ xa.ga
  lb : w0.heap.size ≤ bb ∧ w0.heap.size ≤ xb.gr ∧ w0.heap.size ≤ xb.ga
  b : Below w0.heap.size w0 w
  ia : QuInv sa
  ib : QuInv sb
def TwoQ (w0 w : World) (ba bb : Nat) (sa sb : QuT) : Prop := ∃ xa Ra xb Rb, TwoE w0 w ba bb sa sb xa Ra xb Rb
section
variable {w0 w w' : World} {ba bb : Nat} {sa sb sa' : QuT} {xa xb : QuX} {Ra Rb : Nat → Prop}
theorem TwoE.symm (H : TwoE w0 w ba bb sa sb xa Ra xb Rb) : TwoE w0 w bb ba sb sa xb Rb xa Ra := by
  have e1 := H.s1 ba (by simp); have e2 := H.s1 xa.gr (by simp); have e3 := H.s1 xa.ga (by simp)
  refine ⟨H.hb, H.ha, fun g hg => ⟨?_, ?_, ?_, H.s2 g hg⟩, fun g hg => (H.s1 g hg).2.2.2, H.lb, H.la, H.b, H.ib, H.ia⟩
  · rintro rfl; simp at hg; rcases hg with h | h | h <;> simp_all
  · rintro rfl; simp at hg; rcases hg with h | h | h <;> simp_all
  · rintro rfl; simp at hg; rcases hg with h | h | h <;> simp_all
theorem TwoE.later (H : TwoE w0 w ba bb sa sb xa Ra xb Rb) (h : Below w.heap.size w w') : TwoE w0 w' ba bb sa sb xa Ra xb Rb :=
  ⟨H.ha.below h, H.hb.below h, H.s1, H.s2, H.la, H.lb, H.b.trans (h.mono H.b.size), H.ia, H.ib⟩
theorem TwoE.env (H : TwoE w0 w ba bb sa sb xa Ra xb Rb) (hE : Env w0) : Env w := hE.below (Nat.le_refl _) H.b
/-- a block that is there behind both queues' -/
theorem TwoE.beyond (H : TwoE w0 w ba bb sa sb xa Ra xb Rb) {g : Nat} (hg : w.heap.size ≤ g) : g ∉ [ba, xa.gr, xa.ga] ∧ g ∉ [bb, xb.gr, xb.ga] := by
  have h1 := H.ha.lt; have h2 := H.ha.gr; have h3 := H.ha.ga; have h4 := H.hb.lt; have h5 := H.hb.gr; have h6 := H.hb.ga
  simp; omega
theorem TwoE.step (H : TwoE w0 w ba bb sa sb xa Ra xb Rb) (hs : QuStep ba xa Ra sa' w w') (ia : QuInv sa') : ∃ xa' Ra', TwoE w0 w' ba bb sa' sb xa' Ra' xb Rb := by
  have hs0 := hs
  obtain ⟨⟨xa', Ra', k1, k2, k3, k4⟩, k5⟩ := hs
  have hlb := H.hb.lt; have hgb := H.hb.gr; have hab := H.hb.ga
  have e1 := H.s1 ba (by simp); have e2 := H.s1 xa.gr (by simp); have e3 := H.s1 xa.ga (by simp)
  refine ⟨xa', Ra', k1, H.hb.other hs0 H.s1, fun g hg => ?_, fun g hg hr => ?_, ⟨H.la.1, ?_, by rw [k2]; exact H.la.2.2⟩, H.lb, H.b.trans (k5.below H.b.size (fun g hg => ?_)), ia, H.ib⟩
  · simp only [List.mem_cons, List.not_mem_nil, or_false] at hg
    rcases hg with rfl | rfl | rfl
    · exact e1
    · rcases k3 with h | h
      · rw [h]; exact e2
      · exact ⟨by omega, by omega, by omega, fun hr => by have := H.hb.q.lt _ hr; omega⟩
    · rw [k2]; exact e3
  · rcases k4 g hr with h | h
    · exact H.s2 g hg h
    · simp only [List.mem_cons, List.not_mem_nil, or_false] at hg
      rcases hg with rfl | rfl | rfl <;> omega
  · rcases k3 with h | h
    · rw [h]; exact H.la.2.1
    · exact Nat.le_trans H.b.size h
  · simp only [List.mem_cons, List.not_mem_nil, or_false] at hg
    rcases hg with rfl | rfl | rfl
    · exact H.la.1
    · exact H.la.2.1
    · exact H.la.2.2
theorem TwoE.stepB {sb' : QuT} (H : TwoE w0 w ba bb sa sb xa Ra xb Rb) (hs : QuStep bb xb Rb sb' w w') (ib : QuInv sb') : ∃ xb' Rb', TwoE w0 w' ba bb sa sb' xa Ra xb' Rb' := by
  obtain ⟨x, R, h⟩ := H.symm.step hs ib
  exact ⟨x, R, h.symm⟩
theorem commZ {h : PrH} (h1 : 0 < rdN sa → ∃ R, PrAt w R h sa.L[0]!) (h2 : ¬ 0 < rdN sa → h = default) : h.d.zx = comZ sa := by
  unfold comZ
  by_cases h0 : 0 < rdN sa
  · rw [if_pos h0]; obtain ⟨R, k⟩ := h1 h0; exact k.1.1.2.2.1.symm
  · rw [if_neg h0, h2 h0]; rfl
/-- two new queues -/
theorem TwoE.made {w1 w2 : World} {st st2 : QuT} (h0 : Below w0.heap.size w0 w) (h1 : QuW w1 ba xa Ra st) (g1 : w.heap.size ≤ ba ∧ w.heap.size ≤ xa.gr ∧ w.heap.size ≤ xa.ga ∧ ∀ b, Ra b → w.heap.size ≤ b) (hb1 : Below w.heap.size w w1)
    (h2 : QuW w2 bb xb Rb st2) (g2 : w1.heap.size ≤ bb ∧ w1.heap.size ≤ xb.gr ∧ w1.heap.size ≤ xb.ga ∧ ∀ b, Rb b → w1.heap.size ≤ b) (hb2 : Below w1.heap.size w1 w2) (i1 : QuInv st) (i2 : QuInv st2) : TwoE w0 w2 ba bb st st2 xa Ra xb Rb := by
  have a1 := h1.lt; have a2 := h1.gr; have a3 := h1.ga; have a4 := h1.q.lt
  have s1 := hb1.size; have s0 := h0.size
  refine ⟨h1.below hb2, h2, fun g hg => ?_, fun g hg hr => ?_, ⟨by omega, by omega, by omega⟩, ⟨by omega, by omega, by omega⟩, h0.trans ((hb1.trans (hb2.mono s1)).mono s0), i1, i2⟩
  · have hl : g < w1.heap.size := by
      simp only [List.mem_cons, List.not_mem_nil, or_false] at hg
      rcases hg with rfl | rfl | rfl <;> omega
    exact ⟨by omega, by omega, by omega, fun hr => by have := g2.2.2.2 g hr; omega⟩
  · have hl := a4 g hr
    simp only [List.mem_cons, List.not_mem_nil, or_false] at hg
    rcases hg with rfl | rfl | rfl <;> omega
end
end Go.Proofs.YtbpmmmnphpkdjaaGreatDoor
namespace Go.Proofs.YtbpmmmnphpkdjaaGreatDoor
/-- one voice: a voter and a zxid -/
def voiceL (last : Int) (ak : List Int) (v : Int × Int) : List Int := if 0 ≤ v.1 ∧ v.1 < ak.length ∧ 0 ≤ v.2 ∧ v.2 ≤ last then ackL ak v.1.toNat v.2 else ak
theorem voiceL_len (last : Int) (ak : List Int) (v : Int × Int) : (voiceL last ak v).length = ak.length := by
  unfold voiceL; split
  · exact ackL_len ..
  · rfl
def gainI (last : Int) (n : Nat) (v : Int × Int) (i : Nat) (x : Int) : Int := if (0 ≤ v.1 ∧ v.1 < n ∧ 0 ≤ v.2 ∧ v.2 ≤ last) ∧ v.1.toNat = i then max x v.2 else x
theorem voiceL_at (last : Int) (ak : List Int) (v : Int × Int) (i : Nat) (hi : i < ak.length) : (voiceL last ak v)[i]! = gainI last ak.length v i ak[i]! := by
  unfold voiceL gainI
  by_cases h : 0 ≤ v.1 ∧ v.1 < ak.length ∧ 0 ≤ v.2 ∧ v.2 ≤ last
  · rw [if_pos h, ackL_at _ _ _ _ hi]
    by_cases h2 : v.1.toNat = i
    · rw [if_pos h2, if_pos ⟨h, h2⟩]
    · rw [if_neg h2, if_neg (fun q => h2 q.2)]
  · rw [if_neg h, if_neg (fun q => h q.1)]
theorem gain_comm (last : Int) (n : Nat) (u v : Int × Int) (i : Nat) (x : Int) : gainI last n u i (gainI last n v i x) = gainI last n v i (gainI last n u i x) := by
  unfold gainI
  by_cases h : (0 ≤ u.1 ∧ u.1 < n ∧ 0 ≤ u.2 ∧ u.2 ≤ last) ∧ u.1.toNat = i
  · by_cases h' : (0 ≤ v.1 ∧ v.1 < n ∧ 0 ≤ v.2 ∧ v.2 ≤ last) ∧ v.1.toNat = i
    · rw [if_pos h, if_pos h', if_pos h', if_pos h]; omega
    · rw [if_pos h, if_neg h', if_neg h', if_pos h]
  · rw [if_neg h, if_neg h]
theorem ext_at {a b : List Int} (hl : a.length = b.length) (h : ∀ i, i < a.length → a[i]! = b[i]!) : a = b := by
  refine List.ext_getElem hl fun i h1 h2 => ?_
  have := h i h1
  rwa [getElem!_pos a i h1, getElem!_pos b i h2] at this
theorem voice_comm (last : Int) (ak : List Int) (u v : Int × Int) : voiceL last (voiceL last ak u) v = voiceL last (voiceL last ak v) u := by
  refine ext_at (by simp only [voiceL_len]) fun i hi => ?_
  simp only [voiceL_len] at hi
  rw [voiceL_at _ _ _ _ (by rw [voiceL_len]; exact hi), voiceL_at _ _ _ _ hi, voiceL_at _ _ _ _ (by rw [voiceL_len]; exact hi), voiceL_at _ _ _ _ hi, voiceL_len, voiceL_len, gain_comm]
def voicesL (last : Int) (ak : List Int) (l : List (Int × Int)) : List Int := l.foldl (voiceL last) ak
theorem voices_push (last : Int) (v : Int × Int) : ∀ (l : List (Int × Int)) (ak : List Int), voicesL last (voiceL last ak v) l = voiceL last (voicesL last ak l) v
  | [], _ => rfl
  | u :: l, ak => by
    show voicesL last (voiceL last (voiceL last ak v) u) l = _
    rw [voice_comm, voices_push last v l (voiceL last ak u)]; rfl
theorem voices_snoc (last : Int) (ak : List Int) (l : List (Int × Int)) (v : Int × Int) : voicesL last ak (l ++ [v]) = voiceL last (voicesL last ak l) v := by simp [voicesL]
theorem voices_reverse (last : Int) (ak : List Int) : ∀ l : List (Int × Int), voicesL last ak l.reverse = voicesL last ak l
  | [] => rfl
  | v :: l => by
    rw [List.reverse_cons, voices_snoc, voices_reverse last ak l]
    exact (voices_push last v l ak).symm
theorem voices_len (last : Int) : ∀ (l : List (Int × Int)) (ak : List Int), (voicesL last ak l).length = ak.length
  | [], _ => rfl
  | v :: l, ak => (voices_len last l (voiceL last ak v)).trans (voiceL_len ..)
/-- what a round of a loop does, forth and back -/
theorem voices_take (last : Int) (ak : List Int) (l : List (Int × Int)) (k : Nat) (hk : k < l.length) : voicesL last ak (l.take (k + 1)) = voiceL last (voicesL last ak (l.take k)) l[k]! := by
  rw [List.take_succ_eq_append_getElem hk, voices_snoc, getElem!_pos l k hk]
theorem voices_drop (last : Int) (ak : List Int) (l : List (Int × Int)) (k : Nat) (hk : k < l.length) : voicesL last ak (l.drop k).reverse = voiceL last (voicesL last ak (l.drop (k + 1)).reverse) l[k]! := by
  rw [List.drop_eq_getElem_cons hk, List.reverse_cons, voices_snoc, getElem!_pos l k hk]
end Go.Proofs.YtbpmmmnphpkdjaaGreatDoor
namespace Go.Proofs.YtbpmmmnphpkdjaaGreatDoor
open Go.RowKit Go.MapKept Go.Maps
def withAk (st : QuT) (ak : List Int) : QuT := { st with acked := ak }
theorem ackT_voice (st : QuT) (v z : Int) : ackT st v z = withAk st (voiceL st.last st.acked (v, z)) := by
  unfold ackT voiceL withAk
  by_cases h : 0 ≤ v ∧ v < st.acked.length ∧ 0 ≤ z ∧ z ≤ st.last
  · rw [if_pos h, if_pos h]; rfl
  · rw [if_neg h, if_neg h]
/-- after the first k voices -/
def vcF (st : QuT) (l : List (Int × Int)) (k : Nat) : QuT := withAk st (voicesL st.last st.acked (l.take k))
/-- after those from the k-th on, the last first -/
def vcB (st : QuT) (l : List (Int × Int)) (k : Nat) : QuT := withAk st (voicesL st.last st.acked (l.drop k).reverse)
theorem vcF_zero (st : QuT) (l : List (Int × Int)) : vcF st l 0 = st := rfl
theorem vcF_succ (st : QuT) (l : List (Int × Int)) (k : Nat) (hk : k < l.length) : ackT (vcF st l k) l[k]!.1 l[k]!.2 = vcF st l (k + 1) := by
  rw [ackT_voice]
  unfold vcF
  rw [voices_take _ _ _ _ hk]; rfl
theorem vcB_end (st : QuT) (l : List (Int × Int)) : vcB st l l.length = st := by
  unfold vcB; rw [List.drop_length]; rfl
theorem vcB_succ (st : QuT) (l : List (Int × Int)) (k : Nat) (hk : k < l.length) : ackT (vcB st l (k + 1)) l[k]!.1 l[k]!.2 = vcB st l k := by
  rw [ackT_voice]
  unfold vcB
  rw [voices_drop _ _ _ _ hk]; rfl
theorem vcF_vcB (st : QuT) (l : List (Int × Int)) : vcB st l 0 = vcF st l l.length := by
  unfold vcB vcF
  rw [List.drop_zero, voices_reverse, List.take_length]
theorem rdN_ack {st : QuT} (I : QuInv st) (v z : Int) : rdN st ≤ rdN (ackT st v z) := by
  unfold ackT
  by_cases h : 0 ≤ v ∧ v < st.acked.length ∧ 0 ≤ z ∧ z ≤ st.last
  · rw [if_pos h]
    have e1 : rdN st = refReady st.vs st.acked (zxs st.L) := ready_ref (fun z hz => ⟨(I.z1 z hz).1, (I.z1 z hz).2.2⟩)
    have e2 : rdN (ackS st v.toNat z) = refReady st.vs (ackL st.acked v.toNat z) (zxs st.L) := ready_ref (fun z hz => ⟨(I.z1 z hz).1, (I.z1 z hz).2.2⟩)
    rw [e1, e2]; exact refReady_ack
  · rw [if_neg h]; exact Nat.le_refl _
theorem rdN_zero {st : QuT} (I : QuInv st) (h0 : 0 < st.acked.length) (ha : ∀ i, i < st.acked.length → st.acked[i]! ≤ 0) : rdN st = 0 := by
  have e1 : rdN st = refReady st.vs st.acked (zxs st.L) := ready_ref (fun z hz => ⟨(I.z1 z hz).1, (I.z1 z hz).2.2⟩)
  rw [e1]; exact refReady_zero h0 ha (fun z hz => (I.z1 z hz).1)
theorem rdN_comm {st : QuT} (h : 0 < rdN st) : rdN (commT st) + 1 = rdN st := by
  rw [show commT st = commS st from if_pos h]
  obtain ⟨L, bd, vs, ak, la, co⟩ := st
  cases L with
  | nil => exact absurd h (by simp [rdN, zxs, readyN])
  | cons p r =>
    have h' : 0 < readyN (p.d.zx :: zxs r) (chosenZ vs ak la) := h
    show readyN (zxs r) (chosenZ vs ak la) + 1 = readyN (p.d.zx :: zxs r) (chosenZ vs ak la)
    rw [readyN_cons] at h' ⊢
    by_cases hx : p.d.zx ≤ chosenZ vs ak la
    · rw [if_pos hx]
    · rw [if_neg hx] at h'; omega
theorem rdN_max {st : QuT} (I : QuInv st) : rdN st ≤ 4096 := Nat.le_trans (rdN_le st) I.l4
theorem pushS_acked (st : QuT) (p : PrT) : (pushS st p).acked = st.acked := by
  unfold pushS; split <;> rfl
/-- nothing is acknowledged, and nothing is ready where there are voters -/
def Fresh (v : Nat) (st : QuT) : Prop := st.acked = List.replicate v 0 ∧ QuInv st
theorem Fresh.made (bound : Int) (v : Nat) (h1 : 0 ≤ bound) (h2 : bound ≤ 4096) (h3 : v ≤ 9) : Fresh v (newS bound v) := ⟨rfl, newS_inv bound v h1 h2 h3⟩
theorem Fresh.push {v : Nat} {st : QuT} (H : Fresh v st) (p : PrT) (hp : PrSm 1048576 p) : Fresh v (pushS st p) := ⟨(pushS_acked st p).trans H.1, pushS_inv H.2 p hp⟩
theorem Fresh.zero {v : Nat} {st : QuT} (H : Fresh v st) (hv : 0 < v) : rdN st = 0 :=
  rdN_zero H.2 (by rw [H.1]; simpa using hv) (fun i hi => by
    rw [H.1] at hi ⊢
    rw [getElem!_pos _ i hi]; simp)
theorem vcF_inv {st : QuT} (I : QuInv st) (l : List (Int × Int)) : ∀ k, k ≤ l.length → QuInv (vcF st l k)
  | 0, _ => I
  | k + 1, hk => by rw [← vcF_succ st l k hk]; exact ackT_inv (vcF_inv I l k (by omega)) _ _
theorem vcF_rise {st : QuT} (I : QuInv st) (l : List (Int × Int)) : ∀ k, k ≤ l.length → rdN st ≤ rdN (vcF st l k)
  | 0, _ => Nat.le_refl _
  | k + 1, hk => by
    rw [← vcF_succ st l k hk]
    exact Nat.le_trans (vcF_rise I l k (by omega)) (rdN_ack (vcF_inv I l k (by omega)) _ _)
/-- a delta with the reply that the law gives it -/
def dlH (h : DlH) : PrH := ⟨h, ⟨h.xi, h.zx, -1, default⟩⟩
def dlT (d : DlT) : PrT := ⟨d, ⟨d.xi, d.zx, -1, .mk ⟨default, [], [], [], []⟩ []⟩⟩
theorem dl_at {h : DlH} {d : DlT} {w : World} {R : Nat → Prop} (H : DlAt w R h d) : PrAt w R (dlH h) (dlT d) := by
  refine ⟨H, ⟨⟨H.1.2.1, H.1.2.2.1, rfl⟩, ?_⟩⟩
  exact .mk _ _ [] (fun _ => default) 0 0 ⟨rfl, SlR.nil_, SlR.nil_, SlR.nil_, SlR.nil_⟩ rfl ⟨fun _ => ⟨rfl, rfl⟩, Nat.le_refl _⟩ (fun h => absurd h (by show ¬ 0 < 0; omega)) (fun j hj => absurd hj (by show ¬ j < 0; omega)) (fun j hj => absurd hj (by show ¬ j < 0; omega))
theorem dl_sm {d : DlT} (h : DlSm 1048576 d) : PrSm 1048576 (dlT d) := by
  refine ⟨h, ⟨⟨h.1.2.1, h.1.2.2.1, m32⟩, .mk _ _ ?_ (fun j hj => absurd hj (by simp))⟩⟩
  refine ⟨⟨z32, z32, z32, z64, z32⟩, by decide, by decide, by decide, by decide, by decide, by decide, ?_, ?_, ?_⟩ <;> exact fun j hj => absurd hj (by simp)
end Go.Proofs.YtbpmmmnphpkdjaaGreatDoor
