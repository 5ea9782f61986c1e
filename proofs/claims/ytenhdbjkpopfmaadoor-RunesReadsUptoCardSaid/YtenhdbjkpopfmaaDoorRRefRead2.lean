/- The walk of arborref01.Read. Condition: the text has at most 2^20 bytes. -/
import Derived.Test.YtenhdbjkpopfmaaDoorRRefRead
namespace Go.Proofs.YtenhdbjkpopfmaaDoor
open Go.RowKit

theorem diffF_comm (a b : ByteArray) : ∀ f i, diffF a b f i = diffF b a f i
  | 0, _ => rfl
  | f + 1, i => by
    by_cases h : i < a.size ∨ i < b.size
    · by_cases e : i < a.size ∧ i < b.size ∧ a.get! i = b.get! i
      · rw [diffF_go a b f i e.1 e.2.1 e.2.2, diffF_go b a f i e.2.1 e.1 e.2.2.symm, diffF_comm a b f]
      · rw [diffF_stop a b f i h e, diffF_stop b a f i h.symm (fun hh => e ⟨hh.2.1, hh.1, hh.2.2.symm⟩)]
    · rw [diffF_end a b _ i h, diffF_end b a _ i (fun hh => h hh.symm)]
theorem diffI_comm (a b : ByteArray) : diffI a b = diffI b a := by unfold diffI; rw [diffF_comm, Nat.add_comm]
/-- the first loop's state -/
def RRel (s : ByteArray) (w : World) (o i : Value) (wx : World) : Prop := ∃ (k f : Nat) (acc : List UInt8), o = .string ⟨acc.toArray⟩ ∧ i = .int .i64 ↑k ∧ k ≤ s.size ∧ itF s f k acc = itemsI s ∧ s.size ≤ k + f ∧ acc.length ≤ k ∧ Below w.heap.size w wx
def DRel (a b : ByteArray) (w : World) (i : Value) (wx : World) : Prop := ∃ (k f : Nat), i = .int .i64 ↑k ∧ k ≤ a.size ∧ k ≤ b.size ∧ diffF a b f k = diffI a b ∧ a.size + b.size ≤ k + f ∧ Below w.heap.size w wx
theorem readI_bad {s : ByteArray} {n : Int} (h : itemsI s = ([], n)) (hn : 0 ≤ n) : readI s = (⟨#[]⟩, n, 1) := by unfold readI; rw [h, if_pos hn]

set_option maxRecDepth 100000 in
set_option maxHeartbeats 4000000 in
theorem refRead_any (s : ByteArray) (hs : s.size ≤ 1048576) (w : World) :
    Calls Tryd.prog 12 #[.string s] w (ReadPost s w) := by
  by_cases h0 : s.size = 0
  · have HQ : Hid (readI s = (⟨#[]⟩, 0, 1)) := Lib.hid (readI_bad (by unfold itemsI; rw [if_pos (.inl h0)]) (Int.le_refl 0))
    have hE : ((s.size : Int) == 0) = true := by rw [beq_iff_eq]; omega
    clear h0
    go_enter Tryd.func12, Tryd.ntmps12
    go_wp2
    go_ret3
    exact ReadPost.mk HQ.out (Below.refl _ _)
  · have hp0 : 0 < s.size := by omega
    have hE : ((s.size : Int) == 0) = false := by rw [beq_eq_false_iff_ne]; omega
    by_cases h1 : s.get! 0 = 34
    · have HR : Hid (itemsI s = itF s s.size 1 []) := Lib.hid (by unfold itemsI; rw [if_neg (by rintro (h | h); exact h0 h; exact h h1)])
      have hc0 : ((s[0].toNat : Int) == 34) = true := byte_eq _ 34 (by rw [← get_eq s 0 hp0, h1]; rfl)
      have hc1 : ((s[0].toNat : Int) != 34) = false := by simp only [bne, hc0]; rfl
      clear h1
      go_enter Tryd.func12, Tryd.ntmps12
      go_wp2
      go_loopw [5, 6] (RRel s w) (fun _ i _ => s.size - (intOf i).toNat)
      case atStart => exact ⟨1, s.size, [], rfl, rfl, by omega, HR.out.symm, by omega, by simp, Below.refl _ _⟩
      case round =>
        obtain ⟨k, f, acc, rfl, rfl, hk, hF, hfu, hal, hbw⟩ := hrel
        have HF := Lib.hid hF; have HB := Lib.hid hbw; clear hF hbw
        by_cases hlt : k < s.size
        · obtain ⟨g, rfl⟩ : ∃ g, f = g + 1 := ⟨f - 1, by omega⟩
          have hne : ((k : Int) == (s.size : Int)) = false := by simp; omega
          have hg := get_eq s k hlt
          by_cases c34 : s.get! k = 34
          · have hq1 : ((s[k].toNat : Int) == 34) = true := byte_eq _ 34 (by rw [← hg, c34]; rfl)
            have HIQ := Lib.hid (itF_quote s g k acc hlt c34)
            clear c34 hg
            by_cases hk1 : k + 1 < s.size
            · have HQ : Hid (readI s = (⟨#[]⟩, (k : Int) + 1, 1)) := Lib.hid (readI_bad (by rw [← HF.out, HIQ.out, if_pos hk1]) (by omega))
              go_wp2
              go_ret3
              exact ReadPost.mk HQ.out HB.out
            · have hI : itemsI s = (acc, -1) := by rw [← HF.out, HIQ.out, if_neg hk1]
              have HRa : Hid (readI s = if 0 ≤ diffI s ⟨(showL ⟨acc.toArray⟩).toArray⟩ then (⟨#[]⟩, diffI s ⟨(showL ⟨acc.toArray⟩).toArray⟩, 1) else (⟨acc.toArray⟩, 0, 0)) := Lib.hid (by unfold readI; rw [hI]; simp only []; rw [if_neg (by omega), diffI_comm])
              have hlz : (⟨acc.toArray⟩ : ByteArray).size ≤ 67108864 := by show acc.toArray.size ≤ _; rw [List.size_toArray]; omega
              have hsl := showL_size ⟨acc.toArray⟩
              clear hI
              go_wp2_with fail
              refine (refShow_any _ hlz _).mono ?_
              rintro e w2 ⟨rfl, hb2⟩
              have HB2 : Hid (Below w.heap.size w w2) := Lib.hid (HB.out.trans (hb2.mono HB.out.size)); clear hb2
              generalize hwant : (⟨(showL ⟨acc.toArray⟩).toArray⟩ : ByteArray) = want at *
              have HW := Lib.hid hwant; clear hwant
              go_wp2_with fail
              go_loopw [11] (DRel s want w) (fun i _ => s.size + want.size - (intOf i).toNat)
              case atStart => exact ⟨0, s.size + want.size, rfl, by omega, by omega, rfl, by omega, HB2.out⟩
              case round =>
                obtain ⟨j, f2, rfl, hj, hj2, hF2, hfu2, hbx⟩ := hrel
                have HF2 := Lib.hid hF2; have HBX := Lib.hid hbx; clear hF2 hbx
                have HX := Lib.hid (show 0 ≤ diffI s want → readI s = (⟨#[]⟩, diffI s want, 1) from fun hh => by rw [HRa.out, if_pos hh])
                by_cases h1 : j < s.size
                · have d1 : ((j : Int) == (s.size : Int)) = false := by simp; omega
                  by_cases h2 : j < want.size
                  · obtain ⟨g2, rfl⟩ : ∃ g, f2 = g + 1 := ⟨f2 - 1, by omega⟩
                    have d2 : ((j : Int) == (want.size : Int)) = false := by simp; omega
                    have i1 : (0 : Int) ≤ (j : Int) ∧ (j : Int) < (want.size : Int) := by omega
                    have i2 : (0 : Int) ≤ (j : Int) ∧ (j : Int) < (s.size : Int) := by omega
                    by_cases e : s.get! j = want.get! j
                    · have HE := Lib.hid (diffF_go s want g2 j h1 h2 e)
                      have he : ((s[j].toNat : Int) != (want[j].toNat : Int)) = false := by rw [← get_eq want j h2, ← get_eq s j h1, e]; simp
                      clear e
                      go_wp2
                      go_quiet (fail)
                      go_wp2
                      go_roundw
                      case rel =>
                        have hfin : DRel s want w (.int .i64 ((j : Int) + 1)) (wr.drewN nq) := ⟨j + 1, g2, by go_num, by omega, by omega, by rw [← HE.out]; exact HF2.out, by omega, bdN HBX.out _⟩
                        first
                          | exact hfin
                          | ((repeat apply Exists.intro); exact ⟨hfin, rfl⟩)
                      case measure => simp [intOf]; omega
                    · have HE := Lib.hid (diffF_stop s want g2 j (.inl h1) (fun hh => e hh.2.2))
                      have he : ((s[j].toNat : Int) != (want[j].toNat : Int)) = true := by
                        rw [← get_eq want j h2, ← get_eq s j h1]; simp
                        intro hh; exact e (UInt8.toNat_inj.1 (by omega))
                      clear e
                      go_wp2
                      go_quiet (fail)
                      go_wp2
                      go_ret3
                      exact ReadPost.mk (by rw [HX.out (by rw [← HF2.out, HE.out]; omega), ← HF2.out, HE.out]) (bdN HBX.out _)
                  · obtain ⟨g2, rfl⟩ : ∃ g, f2 = g + 1 := ⟨f2 - 1, by omega⟩
                    have HE := Lib.hid (diffF_stop s want g2 j (.inl h1) (fun hh => h2 hh.2.1))
                    have HJ : Hid (j = want.size) := Lib.hid (by omega)
                    have d2 : ((j : Int) == (want.size : Int)) = true := by rw [beq_iff_eq]; omega
                    go_wp2
                    go_quiet (fail)
                    go_wp2
                    go_ret3
                    exact ReadPost.mk (by rw [HX.out (by rw [← HF2.out, HE.out]; omega), ← HF2.out, HE.out]) (bdN HBX.out _)
                · by_cases h2 : j < want.size
                  · obtain ⟨g2, rfl⟩ : ∃ g, f2 = g + 1 := ⟨f2 - 1, by omega⟩
                    have HE := Lib.hid (diffF_stop s want g2 j (.inr h2) (fun hh => h1 hh.1))
                    have d1 : ((j : Int) == (s.size : Int)) = true := by rw [beq_iff_eq]; omega
                    go_wp2
                    go_quiet (fail)
                    go_wp2
                    go_ret3
                    exact ReadPost.mk (by rw [HX.out (by rw [← HF2.out, HE.out]; omega), ← HF2.out, HE.out]) (bdN HBX.out _)
                  · have HE := Lib.hid (diffF_end s want f2 j (by omega))
                    have HQ : Hid (readI s = (⟨acc.toArray⟩, 0, 0)) := Lib.hid (by rw [HRa.out, if_neg (by rw [← HF2.out, HE.out]; omega)])
                    go_wp2
                    go_ret3
                    exact ReadPost.mk HQ.out HBX.out
          · have hq1 : ((s[k].toNat : Int) == 34) = false := byte_ne _ 34 (by rw [← hg]; exact ne_nat c34 (by decide))
            have HI34 := Lib.hid c34
            clear c34 hg
            go_wp2_with fail
            refine (item_any s hs k hlt HI34.out _).mono ?_
            rintro e w2 ⟨l, n, b, rfl, hb2, hst⟩
            have HB2 : Hid (Below w.heap.size w w2) := Lib.hid (HB.out.trans (hb2.mono HB.out.size)); clear hb2
            cases b with
            | false =>
              have hz : itemsI s = ([], n) := by rw [← HF.out]; exact hst.2 g acc
              have HQ : Hid (readI s = (⟨#[]⟩, n, 1)) := Lib.hid (readI_bad hz hst.1)
              clear hst hz
              go_wp2
              go_ret3
              exact ReadPost.mk HQ.out HB2.out
            | true =>
              obtain ⟨k2, rfl, hk2, hk3, hk4, hst⟩ := hst
              have HST := Lib.hid (hst g acc); clear hst
              go_wp2
              go_roundw
              case rel =>
                have hfin : RRel s w (.string ((⟨acc.toArray⟩ : ByteArray) ++ (⟨l.toArray⟩ : ByteArray))) (.int .i64 (k2 : Int)) w2 := ⟨k2, g, acc ++ l, congrArg Value.string (str_app _ _), rfl, hk3, by rw [← HST.out]; exact HF.out, by omega, by rw [List.length_append]; omega, HB2.out⟩
                first
                  | exact hfin
                  | ((repeat apply Exists.intro); exact ⟨hfin, rfl⟩)
              case measure => simp [intOf]; omega
        · have hne : ((k : Int) == (s.size : Int)) = true := by simp; omega
          have HE := Lib.hid (itF_end s f k acc hlt)
          have HQ : Hid (readI s = (⟨#[]⟩, (s.size : Int), 1)) := Lib.hid (readI_bad (by rw [← HF.out, HE.out]) (by omega))
          have HKS : Hid (k = s.size) := Lib.hid (by omega)
          go_wp2
          go_ret3
          exact ReadPost.mk (by rw [HQ.out, HKS.out]) HB.out
    · have HQ : Hid (readI s = (⟨#[]⟩, 0, 1)) := Lib.hid (readI_bad (by unfold itemsI; rw [if_pos (.inr h1)]) (Int.le_refl 0))
      have hc0 : ((s[0].toNat : Int) == 34) = false := byte_ne _ 34 (by rw [← get_eq s 0 hp0]; exact ne_nat h1 (by decide))
      have hc1 : ((s[0].toNat : Int) != 34) = true := by simp only [bne, hc0]; rfl
      clear h1
      go_enter Tryd.func12, Tryd.ntmps12
      go_wp2
      go_ret3
      exact ReadPost.mk HQ.out (Below.refl _ _)
end Go.Proofs.YtenhdbjkpopfmaaDoor
