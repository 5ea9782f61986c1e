/- The walks of acl.Identity and acl.Right. Condition: the texts have fewer than 2^48 bytes. -/
import Derived.Test.YtbpmmmnphpkdjaaGreatDoorAclDec
namespace Go.Proofs.YtbpmmmnphpkdjaaGreatDoor
open Go.RowKit

theorem str_is (s : ByteArray) (l : List UInt8) : (s.toList == l) = decide (s = ⟨l.toArray⟩) := by
  rw [← beq_dec]; congr 1; rw [ByteArray.toList_eq]
theorem str_world (s : ByteArray) : (s.toList == [119, 111, 114, 108, 100]) = decide (s = sWorld) := str_is s _
theorem str_anyone (s : ByteArray) : (s.toList == [97, 110, 121, 111, 110, 101]) = decide (s = sAnyone) := str_is s _
theorem str_digest (s : ByteArray) : (s.toList == [100, 105, 103, 101, 115, 116]) = decide (s = sDigest) := str_is s _
theorem str_ip (s : ByteArray) : (s.toList == [105, 112]) = decide (s = sIp) := str_is s _
theorem str_super (s : ByteArray) : (s.toList == [115, 117, 112, 101, 114]) = decide (s = sSuper) := str_is s _
theorem str_auth (s : ByteArray) : (s.toList == [97, 117, 116, 104]) = decide (s = sAuth) := str_is s _
theorem bcell {W w1 : World} (hb : Below W.heap.size W w1) : (∀ b o, b < W.heap.size → w1.cell? ⟨b, o, none⟩ = W.cell? ⟨b, o, none⟩) ∧ (∀ b o, b < W.heap.size → w1.frozen? ⟨b, o, none⟩ = W.frozen? ⟨b, o, none⟩) :=
  ⟨fun b o h => hb.cell (p := ⟨b, o, none⟩) h, fun b o h => hb.frozen (p := ⟨b, o, none⟩) h⟩
theorem textOk_size {s : ByteArray} (h : textOk s = true) : s.size ≤ 256 := by
  unfold textOk at h
  simp only [Bool.and_eq_true, decide_eq_true_eq] at h
  exact h.1.1.2

set_option maxHeartbeats 1000000 in
theorem identity_any (s t : ByteArray) (hs : s.size ≤ 140737488355328) (ht : t.size ≤ 140737488355328) (w : World) (hE : Env w) :
    Calls Tryz.prog 83 #[.agg #[.string s, .string t]] w (RetB w (identP (s, t))) := by
  have cS := fun W (hW : Env W) => text_any s hs W hW.tabs
  have cT := fun W (hW : Env W) => text_any t ht W hW.tabs
  have HR := Lib.hid (show identP (s, t) = (textOk s && textOk t && (if s = sDigest then digestP t else if s = sIp then (adr t).isSome else decide (s = sSuper))) from rfl)
  have hb0 : Below w.heap.size w (w.alloc (.cells #[.string s, .string t] 155)) := (Below.refl _ w).alloc (Nat.le_refl _) _
  cases hts : textOk s with
  | false =>
    rw [hts] at cS
    have HB := Lib.hid (show identP (s, t) = false by rw [HR.out, hts]; simp)
    clear hts
    go_enter Tryz.func83, Tryz.ntmps83
    go_wp2_with fail
    refine (cS _ (hE.later hb0)).mono ?_
    rintro e w1 ⟨rfl, hb1⟩
    go_wp2
    go_ret
    exact RetB.mk (hb0.trans (hb1.mono hb0.size)) HB.out.symm
  | true =>
    rw [hts] at cS
    cases htt : textOk t with
    | false =>
      rw [htt] at cT
      have HB := Lib.hid (show identP (s, t) = false by rw [HR.out, htt]; simp)
      clear hts htt
      go_enter Tryz.func83, Tryz.ntmps83
      go_wp2_with fail
      refine (cS _ (hE.later hb0)).mono ?_
      rintro e w1 ⟨rfl, hb1⟩
      obtain ⟨hc1, hf1⟩ := bcell hb1
      go_wp2_with fail
      refine (cT _ ((hE.later hb0).later hb1)).mono ?_
      rintro e w2 ⟨rfl, hb2⟩
      go_wp2
      go_ret
      exact RetB.mk ((hb0.trans (hb1.mono hb0.size)).trans (hb2.mono (by have := hb1.size; simp at this; omega))) HB.out.symm
    | true =>
      rw [htt] at cT
      have hz := textOk_size htt
      have HR2 := Lib.hid (show identP (s, t) = (if s = sDigest then digestP t else if s = sIp then (adr t).isSome else decide (s = sSuper)) by rw [HR.out, hts, htt]; simp)
      clear hts htt HR
      have f1 := str_digest s; have f2 := str_ip s; have f3 := str_super s
      have cD := fun W => digest_any t W
      have cN := fun W (hW : Env W) => address_any t (by omega) W hW
      have hcase : (s = sDigest ∧ identP (s, t) = digestP t) ∨ (s ≠ sDigest ∧ s = sIp ∧ identP (s, t) = (adr t).isSome) ∨ (s ≠ sDigest ∧ s ≠ sIp ∧ identP (s, t) = decide (s = sSuper)) := by
        rw [HR2.out]
        by_cases e2 : s = sDigest
        · rw [if_pos e2]; exact (.inl ⟨e2, rfl⟩)
        · rw [if_neg e2]
          by_cases e3 : s = sIp
          · rw [if_pos e3]; exact (.inr (.inl ⟨e2, e3, rfl⟩))
          · rw [if_neg e3]; exact .inr (.inr ⟨e2, e3, rfl⟩)
      clear HR2
      rcases hcase with ⟨e1, hv⟩ | ⟨e1, e2, hv⟩ | ⟨e1, e2, hv⟩
      · rw [decide_eq_true e1] at f1
        have HV := Lib.hid hv
        clear e1 hv f2 f3 cN
        generalize digestP t = b at *
        go_enter Tryz.func83, Tryz.ntmps83
        go_wp2_with fail
        refine (cS _ (hE.later hb0)).mono ?_
        rintro e w1 ⟨rfl, hb1⟩
        obtain ⟨hc1, hf1⟩ := bcell hb1
        have hz1 : w.heap.size < w1.heap.size := by have := hb1.size; simp at this; omega
        go_wp2_with fail
        refine (cT _ ((hE.later hb0).later hb1)).mono ?_
        rintro e w2 ⟨rfl, hb2⟩
        obtain ⟨hc2, hf2⟩ := bcell hb2
        go_wp2_with fail
        refine (cD _).mono ?_
        rintro e w3 ⟨rfl, hb3⟩
        go_wp2
        go_ret
        exact RetB.mk (((hb0.trans (hb1.mono hb0.size)).trans (hb2.mono (by omega))).trans (hb3.mono (by have := hb2.size; omega))) HV.out.symm
      · rw [decide_eq_false e1] at f1
        rw [decide_eq_true e2] at f2
        have HV := Lib.hid hv
        clear e1 e2 hv f3 cD
        unfold RetA at cN
        generalize (adr t).isSome = b at *
        generalize (adr t).getD 0 = na at *
        go_enter Tryz.func83, Tryz.ntmps83
        go_wp2_with fail
        refine (cS _ (hE.later hb0)).mono ?_
        rintro e w1 ⟨rfl, hb1⟩
        obtain ⟨hc1, hf1⟩ := bcell hb1
        have hz1 : w.heap.size < w1.heap.size := by have := hb1.size; simp at this; omega
        go_wp2_with fail
        refine (cT _ ((hE.later hb0).later hb1)).mono ?_
        rintro e w2 ⟨rfl, hb2⟩
        obtain ⟨hc2, hf2⟩ := bcell hb2
        go_wp2_with fail
        refine (cN _ (((hE.later hb0).later hb1).later hb2)).mono ?_
        rintro e w3 ⟨rfl, hb3⟩
        go_wp2
        go_ret
        exact RetB.mk (((hb0.trans (hb1.mono hb0.size)).trans (hb2.mono (by omega))).trans (hb3.mono (by have := hb2.size; omega))) HV.out.symm
      · rw [decide_eq_false e1] at f1
        rw [decide_eq_false e2] at f2
        have HV := Lib.hid hv
        clear e1 e2 hv cD cN
        cases hb : decide (s = sSuper)
        all_goals
          rw [hb] at f3 HV
          clear hb
          go_enter Tryz.func83, Tryz.ntmps83
          go_wp2_with fail
          refine (cS _ (hE.later hb0)).mono ?_
          rintro e w1 ⟨rfl, hb1⟩
          obtain ⟨hc1, hf1⟩ := bcell hb1
          have hz1 : w.heap.size < w1.heap.size := by have := hb1.size; simp at this; omega
          go_wp2_with fail
          refine (cT _ ((hE.later hb0).later hb1)).mono ?_
          rintro e w2 ⟨rfl, hb2⟩
          obtain ⟨hc2, hf2⟩ := bcell hb2
          go_wp2
          go_ret
          exact RetB.mk ((hb0.trans (hb1.mono hb0.size)).trans (hb2.mono (by omega))) HV.out.symm
end Go.Proofs.YtbpmmmnphpkdjaaGreatDoor
