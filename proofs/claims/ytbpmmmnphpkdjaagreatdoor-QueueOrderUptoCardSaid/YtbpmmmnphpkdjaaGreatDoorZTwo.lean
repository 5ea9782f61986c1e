/- Two queues of a law's own, apart in memory: each call on one keeps the other. Condition: as at the calls. -/
import Derived.Test.YtbpmmmnphpkdjaaGreatDoorZQueN
namespace Go.Proofs.YtbpmmmnphpkdjaaGreatDoor
open Go.RowKit Go.MapKept Go.Maps
structure TwoE (w0 w : World) (ba bb : Nat) (sa sb : QuT) (xa : QuX) (Ra : Nat → Prop) (xb : QuX) (Rb : Nat → Prop) : Prop where
  ha : QuW w ba xa Ra sa
  hb : QuW w bb xb Rb sb
  s1 : ∀ g ∈ [ba, xa.gr, xa.ga], g ≠ bb ∧ g ≠ xb.gr ∧ g ≠ xb.ga ∧ ¬ Rb g
  s2 : ∀ g ∈ [bb, xb.gr, xb.ga], ¬ Ra g
  la : w0.heap.size ≤ ba ∧ w0.heap.size ≤ xa.gr ∧ w0.heap.size ≤ xa.ga
  lb : w0.heap.size ≤ bb ∧ w0.heap.size ≤ xb.gr ∧ w0.heap.size ≤ xb.ga
  b : Below w0.heap.size w0 w
  ia : QuInv sa
  ib : QuInv sb
def TwoQ (w0 w : World) (ba bb : Nat) (sa sb : QuT) : Prop := ∃ xa Ra xb Rb, TwoE w0 w ba bb sa sb xa Ra xb Rb
section
variable {w0 w w' : World} {ba bb : Nat} {sa sb sa' : QuT} {xa xb : QuX} {Ra Rb : Nat → Prop}
theorem TwoE.symm (H : TwoE w0 w ba bb sa sb xa Ra xb Rb) : TwoE w0 w bb ba sb sa xb Rb xa Ra := by
  have e1 := H.s1 ba (by simp); have e2 := H.s1 xa.gr (by simp); have e3 := H.s1 xa.ga (by simp)
  refine ⟨H.hb, H.ha, fun g hg => ⟨?_, ?_, ?_, H.s2 g hg⟩, fun g hg => (H.s1 g hg).2.2.2, H.lb, H.la, H.b, H.ib, H.ia⟩
  · rintro rfl; simp at hg; rcases hg with h | h | h <;> simp_all
  · rintro rfl; simp at hg; rcases hg with h | h | h <;> simp_all
  · rintro rfl; simp at hg; rcases hg with h | h | h <;> simp_all
theorem TwoE.later (H : TwoE w0 w ba bb sa sb xa Ra xb Rb) (h : Below w.heap.size w w') : TwoE w0 w' ba bb sa sb xa Ra xb Rb :=
  ⟨H.ha.below h, H.hb.below h, H.s1, H.s2, H.la, H.lb, H.b.trans (h.mono H.b.size), H.ia, H.ib⟩
theorem TwoE.env (H : TwoE w0 w ba bb sa sb xa Ra xb Rb) (hE : Env w0) : Env w := hE.below (Nat.le_refl _) H.b
/-- a block that is there behind both queues' -/
theorem TwoE.beyond (H : TwoE w0 w ba bb sa sb xa Ra xb Rb) {g : Nat} (hg : w.heap.size ≤ g) : g ∉ [ba, xa.gr, xa.ga] ∧ g ∉ [bb, xb.gr, xb.ga] := by
  have h1 := H.ha.lt; have h2 := H.ha.gr; have h3 := H.ha.ga; have h4 := H.hb.lt; have h5 := H.hb.gr; have h6 := H.hb.ga
  simp; omega
theorem TwoE.step (H : TwoE w0 w ba bb sa sb xa Ra xb Rb) (hs : QuStep ba xa Ra sa' w w') (ia : QuInv sa') : ∃ xa' Ra', TwoE w0 w' ba bb sa' sb xa' Ra' xb Rb := by
  have hs0 := hs
  obtain ⟨⟨xa', Ra', k1, k2, k3, k4⟩, k5⟩ := hs
  have hlb := H.hb.lt; have hgb := H.hb.gr; have hab := H.hb.ga
  have e1 := H.s1 ba (by simp); have e2 := H.s1 xa.gr (by simp); have e3 := H.s1 xa.ga (by simp)
  refine ⟨xa', Ra', k1, H.hb.other hs0 H.s1, fun g hg => ?_, fun g hg hr => ?_, ⟨H.la.1, ?_, by rw [k2]; exact H.la.2.2⟩, H.lb, H.b.trans (k5.below H.b.size (fun g hg => ?_)), ia, H.ib⟩
  · simp only [List.mem_cons, List.not_mem_nil, or_false] at hg
    rcases hg with rfl | rfl | rfl
    · exact e1
    · rcases k3 with h | h
      · rw [h]; exact e2
      · exact ⟨by omega, by omega, by omega, fun hr => by have := H.hb.q.lt _ hr; omega⟩
    · rw [k2]; exact e3
  · rcases k4 g hr with h | h
    · exact H.s2 g hg h
    · simp only [List.mem_cons, List.not_mem_nil, or_false] at hg
      rcases hg with rfl | rfl | rfl <;> omega
  · rcases k3 with h | h
    · rw [h]; exact H.la.2.1
    · exact Nat.le_trans H.b.size h
  · simp only [List.mem_cons, List.not_mem_nil, or_false] at hg
    rcases hg with rfl | rfl | rfl
    · exact H.la.1
    · exact H.la.2.1
    · exact H.la.2.2
theorem TwoE.stepB {sb' : QuT} (H : TwoE w0 w ba bb sa sb xa Ra xb Rb) (hs : QuStep bb xb Rb sb' w w') (ib : QuInv sb') : ∃ xb' Rb', TwoE w0 w' ba bb sa sb' xa Ra xb' Rb' := by
  obtain ⟨x, R, h⟩ := H.symm.step hs ib
  exact ⟨x, R, h.symm⟩
theorem commZ {h : PrH} (h1 : 0 < rdN sa → ∃ R, PrAt w R h sa.L[0]!) (h2 : ¬ 0 < rdN sa → h = default) : h.d.zx = comZ sa := by
  unfold comZ
  by_cases h0 : 0 < rdN sa
  · rw [if_pos h0]; obtain ⟨R, k⟩ := h1 h0; exact k.1.1.2.2.1.symm
  · rw [if_neg h0, h2 h0]; rfl
/-- two new queues -/
theorem TwoE.made {w1 w2 : World} {st st2 : QuT} (h0 : Below w0.heap.size w0 w) (h1 : QuW w1 ba xa Ra st) (g1 : w.heap.size ≤ ba ∧ w.heap.size ≤ xa.gr ∧ w.heap.size ≤ xa.ga ∧ ∀ b, Ra b → w.heap.size ≤ b) (hb1 : Below w.heap.size w w1)
    (h2 : QuW w2 bb xb Rb st2) (g2 : w1.heap.size ≤ bb ∧ w1.heap.size ≤ xb.gr ∧ w1.heap.size ≤ xb.ga ∧ ∀ b, Rb b → w1.heap.size ≤ b) (hb2 : Below w1.heap.size w1 w2) (i1 : QuInv st) (i2 : QuInv st2) : TwoE w0 w2 ba bb st st2 xa Ra xb Rb := by
  have a1 := h1.lt; have a2 := h1.gr; have a3 := h1.ga; have a4 := h1.q.lt
  have s1 := hb1.size; have s0 := h0.size
  refine ⟨h1.below hb2, h2, fun g hg => ?_, fun g hg hr => ?_, ⟨by omega, by omega, by omega⟩, ⟨by omega, by omega, by omega⟩, h0.trans ((hb1.trans (hb2.mono s1)).mono s0), i1, i2⟩
  · have hl : g < w1.heap.size := by
      simp only [List.mem_cons, List.not_mem_nil, or_false] at hg
      rcases hg with rfl | rfl | rfl <;> omega
    exact ⟨by omega, by omega, by omega, fun hr => by have := g2.2.2.2 g hr; omega⟩
  · have hl := a4 g hr
    simp only [List.mem_cons, List.not_mem_nil, or_false] at hg
    rcases hg with rfl | rfl | rfl <;> omega
end
end Go.Proofs.YtbpmmmnphpkdjaaGreatDoor
