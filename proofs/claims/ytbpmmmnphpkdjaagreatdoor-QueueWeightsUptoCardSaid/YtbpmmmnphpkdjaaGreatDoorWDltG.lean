/- The walks of paths.Check, paths.Valid, paths.Order. Condition: the text has fewer than 2^31 bytes. -/
import Derived.Test.YtbpmmmnphpkdjaaGreatDoorWRgtP
import Derived.Test.YtbpmmmnphpkdjaaGreatDoorWQuoG
import Derived.WalkMore
import Derived.Test.YtbpmmmnphpkdjaaGreatDoorWPlnD
import Derived.Test.YtbpmmmnphpkdjaaGreatDoorWRChar
namespace Go.Proofs.YtbpmmmnphpkdjaaGreatDoor
set_option linter.unusedSimpArgs false
set_option maxRecDepth 100000
set_option maxHeartbeats 20000000
open Go.RowKit
open Go.Lib hiding intOf
/-- what Check answers: whether there is no fault -/
def ChkPost (s : ByteArray) (w : World) (e : Ending) (w' : World) : Prop := (∃ f a : Int, e = .returned (.tuple #[.int .i64 f, .int .i64 a]) ∧ (f == 0) = qaH s) ∧ Below w.heap.size w w'
theorem ChkPost.mk {s : ByteArray} {w w' : World} {f a : Int} (hb : Below w.heap.size w w') (h : (f == 0) = qaH s) : ChkPost s w (.returned (.tuple #[.int .i64 f, .int .i64 a])) w' := ⟨⟨f, a, rfl, h⟩, hb⟩
theorem qlF (s : ByteArray) (q : Nat) (m : Int) (W : World) (hs : s.size < 2147483648) (hm : W.cell? ⟨2, 0, none⟩ = some (.int .i64 m)) :
  Calls Tryz.prog 243 #[.string (s.extract q s.size), .string ⟨#[47]⟩] W fun e w' => (∃ b c, e = .returned (.tuple #[.string ⟨(qbZ s q).toArray⟩, .string b, .bool c])) ∧ ∃ k, w' = W.drewN k := by
 have hl : (s.extract q s.size).size ≤ s.size := by rw [ByteArray.size_extract]; omega
 refine (Tryz.strings_Cut (s.extract q s.size) ⟨#[47]⟩ m W (by omega) hm).mono ?_
 rintro e w' ⟨rfl, h⟩
 have e1 : (s.extract q s.size).data.toList = s.data.toList.drop q := Lib.extract_to_end s q
 have hc := qkE 47 (s.data.toList.drop q)
 have h1 : (Lib.cut (s.extract q s.size).data.toList (⟨#[47]⟩ : ByteArray).data.toList).1 = qbZ s q := by
  rw [e1, show (⟨#[47]⟩ : ByteArray).data.toList = [47] from rfl]
  unfold qbZ qcl
  rw [hc]
  split
  ·rename_i hh; rw [hh, List.take_length]
  ·rfl
 rw [h1]
 exact ⟨⟨_, _, rfl⟩, h⟩
theorem qct (s : ByteArray) (l : List UInt8) : (s.toList == l) = decide (s = ⟨l.toArray⟩) := by
 have := qeR s ⟨l.toArray⟩
 rwa [show (⟨l.toArray⟩ : ByteArray).toList = l from by rw [Lib.toList_data]] at this
theorem qfk (s : ByteArray) (h : s.size = 0) : s = ⟨#[]⟩ := by
 cases s with
 | mk d => congr 1; exact Array.eq_empty_of_size_eq_zero h
theorem qbI (s : ByteArray) (i : Nat) (h : i < s.size) : s.get! i = s[i] := qbj s i h
theorem qmk (s : ByteArray) (h : s.size = 1) (h0 : s.get! 0 = 47) : s = qcy := by
 obtain ⟨⟨l⟩⟩ := s
 match l, h with
 | [x], _ =>
  have : x = 47 := h0
  rw [this]; rfl
theorem qcE (s : ByteArray) : s = qcy ↔ s.size = 1 ∧ s.get! 0 = 47 := ⟨fun e => by rw [e]; exact ⟨rfl, by decide⟩, fun h => qmk s h.1 h.2⟩
theorem qcM (x : UInt8) : ((x.toNat : Int) == 47) = decide (x = 47) := by
 rw [Bool.eq_iff_iff, beq_iff_eq, decide_eq_true_eq, ← UInt8.toNat_inj]
 show (x.toNat : Int) = 47 ↔ x.toNat = 47
 omega
def ChkR (s : ByteArray) (w : World) (it : Nat) (bg : Value) (wr : World) : Prop := ∃ (p f : Nat) (b : Int), bg = .int .i64 b ∧ wr.heap[it]? = some (.stringIter s p) ∧ Below w.heap.size w wr ∧ qbG s f p = qey s ∧ qbw s f p = qbw s s.size 0 ∧ s.size ≤ p + f ∧ 0 ≤ b ∧ b ≤ p ∧ (qcz s p = (decide (0 < p) && decide (b = p)))
theorem qkg (s : ByteArray) (hs : s.size < 2147483648) (w : World) (hE : Env w) (h1 : 1 < s.size) (h2 : s.size ≤ 4096) (h3 : s.get! 0 = 47) (h4 : s.get! (s.size - 1) ≠ 47) :
  Calls Tryz.prog 205 #[.string s] w (ChkPost s w) := by
 have HV := Lib.hid (show qaH s = qbw s s.size 0 by
  unfold qaH
  rw [decide_eq_true (show s.size ≠ 0 by omega), decide_eq_true h2, decide_eq_true h3, decide_eq_false (show ¬ s.size = 1 by omega), decide_eq_false h4]
  simp)
 have d0 : s.toList.isEmpty = false := qcV s (by omega)
 have d1 : (s.toList == [47]) = false := by
  rw [qct]
  exact decide_eq_false fun e => by have := (qcE s).1 e; omega
 have d2 : ((s[0].toNat : Int) != 47) = false := by
  have := qcM s[0]
  rw [← qbI s 0 (by omega), h3] at this
  rw [← qbI s 0 (by omega), h3]; rfl
 have d3 : ((s[s.size - 1].toNat : Int) == 47) = false := by
  rw [qcM, ← qbI s (s.size - 1) (by omega)]
  exact decide_eq_false h4
 have cF := fun W => qkP s (by omega) W
 have HE := Lib.hid hE
 clear hE h3 h4
 go_enter Tryz.func205, Tryz.ntmps205
 go_wp2
 go_step3
 go_wp2_with (go_at_call 242; refine (cF _).mono ?_; rintro e w1 ⟨rfl, hb1⟩)
 go_step3
 go_wp2
 have HB1 := Lib.hid hb1; clear hb1 d0 d1 d2 d3 cF
 go_loopw [6] (fun bg wr => ChkR s w w1.heap.size bg wr) (fun _ wr => s.size - wr.iterPos w1.heap.size)
 case atStart => exact ⟨0, s.size, 0, rfl, World.iter_heap w1 s 0, HB1.out.alloc HB1.out.size _, rfl, rfl, by omega, by omega, by omega, by simp [qcz]⟩
 case round =>
  obtain ⟨p, f, b, rfl, hit, hbw, hF, hG, hfu, hb0, hbp, hv⟩ := hrel
  have HF := Lib.hid hF; have HG := Lib.hid hG; have HV2 := Lib.hid hv
  clear hF hG hv
  by_cases hp : p < s.size
  ·have hnx : ∀ ty, (Instr.next (.pointer (some ⟨w1.heap.size, 0, none⟩)) true ty).run Tryz.prog wr = _ := fun ty => Lib.run_next_any_at wr w1.heap.size s p ty hit hp
   have hd1 := qgu s p
   have hit2 := Lib.iterAt_heap wr w1.heap.size s p (p + (Utf8.decode s p).2) hit
   have hbw2 := Lib.below_iterAt hbw (k := w1.heap.size) HB1.out.size s (p + (Utf8.decode s p).2)
   have HIT := Lib.hid hit; have HIT2 := Lib.hid hit2; have HB2 := Lib.hid hbw2; have HB := Lib.hid hbw
   clear hit hit2 hbw hbw2
   have hw1 := qdi s p
   have hw2 := qhs s p hp
   obtain ⟨g, rfl⟩ : ∃ g, f = g + 1 := ⟨f - 1, by omega⟩
   have hbad := qoi s g p hp
   rw [HF.out] at hbad
   generalize (qey s).1 = bad at *
   by_cases hk : qbh s p = 1
   ·have t1 : ((p : Int) == bad) = false := beq_eq_false_iff_ne.2 fun e => (hbad.1 e) hk
    by_cases hsl : s.get! p = 47
    ·have t2 : (((Utf8.decode s p).1 : Int) != 47) = false := by
      have := (qfQ s p).2 hsl
      rw [this]; rfl
     have hst := qex s p hsl
     have hfs := qdq s g p hp
     have hw1' := qji s p hsl
     have hkf := qde s g p hp hk
     rw [hw1'] at hfs hkf
     have hv0 := HV2.out
     have hWn := Lib.hid (show qcz s (p + 1) = true by
      unfold qcz
      rw [decide_eq_true (show 0 < p + 1 by omega), show p + 1 - 1 = p from rfl, decide_eq_true hsl]; rfl)
     have hdw : Hid ((Utf8.decode s p).2 = 1) := Lib.hid hw1'
     cases hvo : qcz s p with
     | true =>
      rw [hvo] at hst hv0
      have HN := Lib.hid (show qaH s = false by rw [HV.out, ← HG.out, hfs, hst]; rfl)
      have hv1 := hv0.symm
      rw [Bool.and_eq_true, decide_eq_true_eq, decide_eq_true_eq] at hv1
      have t3 : 0 < p := hv1.1
      have t4 : (b == (p : Int)) = true := beq_iff_eq.2 hv1.2
      clear hbad hk hsl hst hfs hkf hv0 hvo hv1
      go_wp2_with fail
      rw [Exit.noGoto_ret]
      go_ret2
      exact ChkPost.mk HB2.out HN.out.symm
     | false =>
      rw [hvo] at hst hv0
      have hv1 := hv0.symm
      rw [Bool.and_eq_false_iff, decide_eq_false_iff_not, decide_eq_false_iff_not] at hv1
      have hE2 := HE.out.below (Nat.le_refl _) HB2.out
      obtain ⟨m, hm⟩ := hE2.maxl
      have cC := Lib.hid (qlF s (p + 1) m _ hs hm)
      have HP := Lib.hid (show qlr s (p + 1) = (decide (qbZ s (p + 1) = [46]) || decide (qbZ s (p + 1) = [46, 46])) from rfl)
      generalize hpt : qbZ s (p + 1) = pt at *
      have q1 := qct ⟨pt.toArray⟩ [46]
      have q2 := qct ⟨pt.toArray⟩ [46, 46]
      have z1 : decide ((⟨pt.toArray⟩ : ByteArray) = ⟨[46].toArray⟩) = decide (pt = [46]) := by
       by_cases e : pt = [46]
       ·rw [e]; simp
       ·rw [decide_eq_false e]; exact decide_eq_false fun e2 => e (by injection e2 with e2; simpa using congrArg Array.toList e2)
      have z2 : decide ((⟨pt.toArray⟩ : ByteArray) = ⟨[46, 46].toArray⟩) = decide (pt = [46, 46]) := by
       by_cases e : pt = [46, 46]
       ·rw [e]; simp
       ·rw [decide_eq_false e]; exact decide_eq_false fun e2 => e (by injection e2 with e2; simpa using congrArg Array.toList e2)
      rw [z1] at q1
      rw [z2] at q2
      clear z1 z2 hpt hm hE2
      have HS := Lib.hid hst; have HFS := Lib.hid hfs; have HKF := Lib.hid hkf; have HV1 := Lib.hid hv1
      clear hbad hk hsl hst hfs hkf hv0 hvo hv1
      have hq0 : ¬ 0 < p ∨ (0 < p ∧ (b == (p : Int)) = false) := by
       by_cases h0 : 0 < p
       ·right
        refine ⟨h0, beq_eq_false_iff_ne.2 fun e => ?_⟩
        rcases HV1.out with h | h
        ·exact h h0
        ·exact h e
       ·exact .inl h0
      by_cases c1 : pt = [46] ∨ pt = [46, 46]
      ·have HN := Lib.hid (show qaH s = false by
        rw [HV.out, ← HG.out, HFS.out, HS.out, HP.out]
        rcases c1 with e | e
        ·rw [decide_eq_true e]; rfl
        ·rw [decide_eq_true e, Bool.or_true]; rfl)
       have hq1 : ((⟨pt.toArray⟩ : ByteArray).toList == [46]) = true ∨ (((⟨pt.toArray⟩ : ByteArray).toList == [46]) = false ∧ ((⟨pt.toArray⟩ : ByteArray).toList == [46, 46]) = true) := by
        rw [q1, q2]
        by_cases e : pt = [46]
        ·exact .inl (decide_eq_true e)
        ·exact .inr ⟨decide_eq_false e, decide_eq_true (c1.resolve_left e)⟩
       clear q1 q2 c1
       generalize (⟨pt.toArray⟩ : ByteArray) = ptb at *
       rcases hq0 with hq0 | ⟨hq0, hq2⟩ <;> rcases hq1 with hq1 | ⟨hq1, hq3⟩
       all_goals
        go_wp2_with (go_at_call 243; refine cC.out.mono ?_; rintro e w2 ⟨⟨b2, c2, rfl⟩, ⟨nq, rfl⟩⟩)
        rw [Exit.noGoto_ret]
        go_ret2
        exact ChkPost.mk (qac HB2.out _) HN.out.symm
      ·have HN := Lib.hid (show qbw s (g + 1) p = qbw s g (p + 1) by
        rw [HFS.out, HS.out, HP.out, decide_eq_false (fun e => c1 (.inl e)), decide_eq_false (fun e => c1 (.inr e))]; rfl)
       have hq1 : ((⟨pt.toArray⟩ : ByteArray).toList == [46]) = false := by rw [q1]; exact decide_eq_false fun e => c1 (.inl e)
       have hq3 : ((⟨pt.toArray⟩ : ByteArray).toList == [46, 46]) = false := by rw [q2]; exact decide_eq_false fun e => c1 (.inr e)
       clear q1 q2 c1
       generalize (⟨pt.toArray⟩ : ByteArray) = ptb at *
       rcases hq0 with hq0 | ⟨hq0, hq2⟩
       all_goals
        go_wp2_with (go_at_call 243; refine cC.out.mono ?_; rintro e w2 ⟨⟨b2, c2, rfl⟩, ⟨nq, rfl⟩⟩)
        go_roundw
        case rel => exact ⟨p + 1, g, ((p + 1 : Nat) : Int), by go_num, by exact HIT2.out.trans (by rw [hdw.out]), qac HB2.out _, by rw [← HKF.out]; exact HF.out, by rw [← HN.out]; exact HG.out, by omega, by omega, by omega, by rw [hWn.out, decide_eq_true (show 0 < p + 1 by omega), decide_eq_true rfl]; rfl⟩
        case measure =>
         have e1 := HIT2.out; have e0 := HIT.out
         have e2 : ((wr.iterAt w1.heap.size s (p + (Utf8.decode s p).2)).drewN nq).heap[w1.heap.size]? = some (Obj.stringIter s (p + (Utf8.decode s p).2)) := e1
         simp only [World.iterPos, e2, e0]
         have := hdw.out; omega
    ·have t2 : (((Utf8.decode s p).1 : Int) != 47) = true := by
      have : (Utf8.decode s p).1 ≠ 47 := fun e => hsl ((qfQ s p).1 e)
      exact bne_iff_ne.2 (fun e => this (by omega))
     have HN := Lib.hid (show qbw s (g + 1) p = qbw s g (p + qaJ s p) by rw [qdq s g p hp, qgz s p hsl, decide_eq_true hk]; rfl)
     have HK := Lib.hid (show qbG s (g + 1) p = qbG s g (p + qaJ s p) from qde s g p hp hk)
     have HW := Lib.hid (show qcz s (p + qaJ s p) = false by
      unfold qcz
      rw [decide_eq_false (fun e => hsl ((qka s p).1 e)), Bool.and_false])
     clear hbad hk hsl
     go_wp2
     go_roundw
     case rel => exact ⟨p + qaJ s p, g, b, rfl, HIT2.out, HB2.out, by rw [← HK.out]; exact HF.out, by rw [← HN.out]; exact HG.out, by omega, hb0, by omega, by rw [HW.out]; symm; rw [Bool.and_eq_false_iff]; right; exact decide_eq_false (by omega)⟩
     case measure =>
      have e1 := HIT2.out; have e0 := HIT.out
      simp only [World.iterPos, e1, e0]
      unfold qaJ at hw1; omega
   ·have t1 : ((p : Int) == bad) = true := beq_iff_eq.2 (hbad.2 hk)
    have HN := Lib.hid (show qaH s = false by rw [HV.out, ← HG.out, qdq s g p hp]; unfold qdz; rw [decide_eq_false hk]; rfl)
    clear hbad hk
    go_wp2
    rw [Exit.noGoto_ret]
    go_ret2
    exact ChkPost.mk HB2.out HN.out.symm
  ·have hnx : ∀ ty, (Instr.next (.pointer (some ⟨w1.heap.size, 0, none⟩)) true ty).run Tryz.prog wr = _ := fun ty => Lib.run_next_end_at wr w1.heap.size s p ty hit hp
   have HB := Lib.hid hbw; clear hbw
   have HN := Lib.hid (show qaH s = true by rw [HV.out, ← HG.out, qgE s f p hp])
   go_wp2
   rw [Exit.noGoto_ret]
   go_ret2
   exact ChkPost.mk HB.out HN.out.symm
theorem qiA (s : ByteArray) (hs : s.size < 2147483648) (w : World) (h : ¬ (1 < s.size ∧ s.size ≤ 4096 ∧ s.get! 0 = 47 ∧ s.get! (s.size - 1) ≠ 47)) :
  Calls Tryz.prog 205 #[.string s] w (ChkPost s w) := by
 by_cases h0 : s.size = 0
 ·have HV := Lib.hid (show qaH s = false by simp [qaH, h0])
  have hd : s.toList.isEmpty = true := by rw [qfk s h0, ByteArray.toList_eq]; rfl
  clear h h0
  go_enter Tryz.func205, Tryz.ntmps205
  go_wp2
  go_step3
  go_wp2
  rw [Exit.noGoto_ret]
  go_ret2
  exact ChkPost.mk (Below.refl _ _) HV.out.symm
 have d0 : s.toList.isEmpty = false := qcV s h0
 by_cases h1 : 4096 < s.size
 ·have HV := Lib.hid (show qaH s = false by
   unfold qaH
   rw [decide_eq_false (show ¬ s.size ≤ 4096 by omega)]; simp)
  clear h
  go_enter Tryz.func205, Tryz.ntmps205
  go_wp2
  go_step3
  go_wp2
  rw [Exit.noGoto_ret]
  go_ret2
  exact ChkPost.mk (Below.refl _ _) HV.out.symm
 by_cases h2 : s.get! 0 = 47
 ·have d2 : ((s[0].toNat : Int) != 47) = false := by rw [← qbI s 0 (by omega), h2]; rfl
  by_cases h3 : s.size = 1
  ·have d1 : (s.toList == [47]) = true := by rw [qct]; exact decide_eq_true ((qcE s).2 ⟨h3, h2⟩)
   have HV := Lib.hid (show qaH s = true by
    unfold qaH
    rw [decide_eq_true (show s.size ≠ 0 by omega), decide_eq_true (show s.size ≤ 4096 by omega), decide_eq_true h2, decide_eq_true h3]; rfl)
   have hp : 0 < s.size := by omega
   clear h h2 h3
   go_enter Tryz.func205, Tryz.ntmps205
   go_wp2
   go_step3
   go_wp2
   rw [Exit.noGoto_ret]
   go_ret2
   exact ChkPost.mk (Below.refl _ _) HV.out.symm
  ·have h4 : s.get! (s.size - 1) = 47 := Classical.byContradiction fun e => h ⟨by omega, by omega, h2, e⟩
   have d1 : (s.toList == [47]) = false := by rw [qct]; exact decide_eq_false fun e => h3 ((qcE s).1 e).1
   have d3 : ((s[s.size - 1].toNat : Int) == 47) = true := by rw [qcM, ← qbI s (s.size - 1) (by omega)]; exact decide_eq_true h4
   have HV := Lib.hid (show qaH s = false by
    unfold qaH
    rw [decide_eq_false h3, decide_eq_true h4]; simp)
   have hp : 0 < s.size := by omega
   clear h h2 h4
   go_enter Tryz.func205, Tryz.ntmps205
   go_wp2
   go_step3
   go_wp2
   rw [Exit.noGoto_ret]
   go_ret2
   exact ChkPost.mk (Below.refl _ _) HV.out.symm
 ·have d2 : ((s[0].toNat : Int) != 47) = true := by
   rw [← qbI s 0 (by omega)]
   have := qcM (s.get! 0)
   rw [decide_eq_false h2] at this
   simp only [bne, this, Bool.not_false]
  have HV := Lib.hid (show qaH s = false by
   unfold qaH
   rw [decide_eq_false h2]; simp)
  have hp : 0 < s.size := by omega
  clear h h2
  go_enter Tryz.func205, Tryz.ntmps205
  go_wp2
  go_step3
  go_wp2
  rw [Exit.noGoto_ret]
  go_ret2
  exact ChkPost.mk (Below.refl _ _) HV.out.symm
theorem qkC (s : ByteArray) (hs : s.size < 2147483648) (w : World) (hE : Env w) : Calls Tryz.prog 205 #[.string s] w (ChkPost s w) := by
 by_cases h : 1 < s.size ∧ s.size ≤ 4096 ∧ s.get! 0 = 47 ∧ s.get! (s.size - 1) ≠ 47
 ·exact qkg s hs w hE h.1 h.2.1 h.2.2.1 h.2.2.2
 ·exact qiA s hs w h
theorem qgy (s : ByteArray) (hs : s.size < 2147483648) (w : World) (hE : Env w) : Calls Tryz.prog 170 #[.string s] w (RetB w (qaH s)) := by
 have cC := qkC s hs w hE
 go_enter Tryz.func170, Tryz.ntmps170
 go_wp2_with (go_at_call 205; refine cC.mono ?_; rintro e w1 ⟨⟨f, a, rfl, hf⟩, hb⟩)
 go_ret
 exact RetB.mk hb rfl
theorem qlb (a b : ByteArray) (w : World) : Calls Tryz.prog 179 #[.string a, .string b] w fun e w' => e = .returned (.int .i64 (Lib.compareBytes a.data.toList b.data.toList)) ∧ w' = w := by
 have cC := Tryz.strings_Compare a b w
 go_enter Tryz.func179, Tryz.ntmps179
 go_wp2_with (go_at_call 213; refine cC.mono ?_; rintro e w1 ⟨rfl, rfl⟩)
 go_ret
 exact ⟨rfl, rfl⟩
open Go.RowKit Go.MapKept
theorem qep (s : ByteArray) : (s.toList == [47]) = decide (s = qcy) := qct s _
theorem qjc (s : ByteArray) (hs : s.size < 2147483648) (w : World) (hE : Env w) : Calls Tryz.prog 169 #[.string s] w (RetB w (badB s)) := by
 have cV := qgy s hs w hE
 have f := qep s
 have HB := Lib.hid (show badB s = (!qaH s || decide (s = qcy)) from rfl)
 cases hv : qaH s with
 | false =>
  rw [hv] at cV HB
  clear hv f
  go_enter Tryz.func169, Tryz.ntmps169
  go_wp2_with (go_at_call 170; refine cV.mono ?_; rintro e w1 ⟨rfl, hb⟩)
  go_ret
  exact RetB.mk hb (by rw [HB.out]; rfl)
 | true =>
  rw [hv] at cV HB
  clear hv
  generalize decide (s = qcy) = b at *
  go_enter Tryz.func169, Tryz.ntmps169
  go_wp2_with (go_at_call 170; refine cV.mono ?_; rintro e w1 ⟨rfl, hb⟩)
  go_ret
  exact RetB.mk hb (by rw [HB.out]; simp)
theorem qek (w : World) (h : TxH) : Below w.heap.size w (w.alloc (.cells (rwTx h) 52)) := (Below.refl _ w).alloc (Nat.le_refl _) _
theorem qky (h : TxH) (v : TxF) (w : World) (R : Nat → Prop) (hv : locTx w R h v) (hE : Env w) (hs : v.n.path.size < 2147483648) (hp : v.paths.length ≤ 1048576) (hps : ∀ j, j < v.paths.length → v.paths[j]!.size < 2147483648) :
  Calls Tryz.prog 137 #[txV h] w (RetB w (qbH v)) := by
 have hb0 := qek w h
 have hn := hv.1
 have hE0 := hE.below (Nat.le_refl _) hb0
 have hpl := hv.2.2.2.2.len
 have hz := (hv.2.2.2.2.sl (fun _ => by simp [qay])).belowMore hb0 hb0.size
 have HB := Lib.hid hb0
 have HD := Lib.hid (show qbH v = if h.n.ty = 1 ∨ h.n.ty = 2 then badB h.n.path else if qbg h.n.ty then !qaH h.n.path else if h.n.ty = -11 then v.paths.any badB else false by unfold qbH; rw [hn])
 rw [hn] at hs
 unfold txV
 by_cases h12 : h.n.ty = 1 ∨ h.n.ty = 2
 ·rw [if_pos h12] at HD
  have cB := Lib.hid (qjc h.n.path hs _ hE0)
  clear hE0 hz hb0
  rcases h12 with h1 | h1
  ·have e1 : (h.n.ty == 1) = true := by rw [h1]; rfl
   clear h1
   go_enter Tryz.func137, Tryz.ntmps137
   go_wp2_with (go_at_call 169; refine cB.out.mono ?_; rintro e w1 ⟨rfl, hb⟩)
   go_ret
   exact RetB.mk (HB.out.trans (hb.mono HB.out.size)) HD.out.symm
  ·have e1 : (h.n.ty == 1) = false := by rw [h1]; rfl
   have e2 : (h.n.ty == 2) = true := by rw [h1]; rfl
   clear h1
   go_enter Tryz.func137, Tryz.ntmps137
   go_wp2_with (go_at_call 169; refine cB.out.mono ?_; rintro e w1 ⟨rfl, hb⟩)
   go_ret
   exact RetB.mk (HB.out.trans (hb.mono HB.out.size)) HD.out.symm
 ·rw [if_neg h12] at HD
  have e1 : (h.n.ty == 1) = false := beq_eq_false_iff_ne.2 fun e => h12 (.inl e)
  have e2 : (h.n.ty == 2) = false := beq_eq_false_iff_ne.2 fun e => h12 (.inr e)
  clear h12
  have cP := Lib.hid (fun W => qdZ h.n.ty W)
  cases hpt : qbg h.n.ty with
  | true =>
   rw [hpt] at HD cP
   have cV := Lib.hid (qgy h.n.path hs _ hE0)
   have HV := Lib.hid (show qbH v = !qaH h.n.path by rw [HD.out]; rfl)
   clear hpt hE0 hz hb0 HD
   generalize qaH h.n.path = b at *
   go_enter Tryz.func137, Tryz.ntmps137
   go_wp2_with (first | (go_at_call 108; refine (cP.out _).mono ?_; rintro e w1 ⟨rfl, rfl⟩) | (go_at_call 170; refine cV.out.mono ?_; rintro e w1 ⟨rfl, hb⟩))
   go_ret
   exact RetB.mk (HB.out.trans (hb.mono HB.out.size)) HV.out.symm
  | false =>
   rw [hpt] at HD cP
   clear hpt
   by_cases h11 : h.n.ty = -11
   ·have e3 : (h.n.ty == -11) = true := by rw [h11]; rfl
    have HV := Lib.hid (show qbH v = v.paths.any badB by rw [HD.out, if_neg (by simp), if_pos h11])
    have cC := Lib.hid (qeo h.p.1 h.p.2.1 h.p.2.2 169 (.func (.func 169) #[] #[]) rfl (enters_of Tryz.func169 (by kernel_rfl) rfl) v.paths badB _ hz (by omega) (fun W k hk hbW => qjc _ (hps k (by omega)) W (hE0.below (Nat.le_refl _) hbW)))
    clear hE0 hz hb0 h11 HD
    generalize v.paths.any badB = b at *
    go_enter Tryz.func137, Tryz.ntmps137
    go_wp2_with (first | (go_at_call 108; refine (cP.out _).mono ?_; rintro e w1 ⟨rfl, rfl⟩) | (go_at_call 171; refine cC.out.mono ?_; rintro e w1 ⟨rfl, hb⟩))
    go_ret
    exact RetB.mk (HB.out.trans (hb.mono HB.out.size)) HV.out.symm
   ·have e3 : (h.n.ty == -11) = false := beq_eq_false_iff_ne.2 h11
    have HV := Lib.hid (show qbH v = false by rw [HD.out, if_neg (by simp), if_neg h11])
    clear hE0 hz hb0 h11 HD
    go_enter Tryz.func137, Tryz.ntmps137
    go_wp2_with (go_at_call 108; refine (cP.out _).mono ?_; rintro e w1 ⟨rfl, rfl⟩)
    go_ret
    exact RetB.mk HB.out HV.out.symm
open Go.RowKit Go.MapKept
theorem qhK (s t : ByteArray) (w : World) : Calls Tryz.prog 172 #[.agg #[.string s, .string t]] w (RetB w (qaO (s, t))) := by
 have hb0 : Below w.heap.size w (w.alloc (.cells #[.string s, .string t] 155)) := (Below.refl _ w).alloc (Nat.le_refl _) _
 have HB := Lib.hid hb0
 have HL := Lib.hid (show qaO (s, t) = (decide (256 < s.size) || decide (256 < t.size)) from rfl)
 clear hb0
 by_cases h1 : 256 < s.size
 ·have HV := Lib.hid (show qaO (s, t) = true by rw [HL.out, decide_eq_true h1]; rfl)
  have d1 : decide (256 < (s.size : Int)) = true := decide_eq_true (by omega)
  clear h1
  go_enter Tryz.func172, Tryz.ntmps172
  go_wp2
  go_ret
  exact RetB.mk HB.out HV.out.symm
 ·have d1 : decide (256 < (s.size : Int)) = false := decide_eq_false (by omega)
  have HV := Lib.hid (show qaO (s, t) = decide (256 < (t.size : Int)) by rw [HL.out, decide_eq_false h1, Bool.false_or]; by_cases h : 256 < t.size; (rw [decide_eq_true h, decide_eq_true (by omega)]); (rw [decide_eq_false h, decide_eq_false (by omega)]))
  clear h1
  go_enter Tryz.func172, Tryz.ntmps172
  go_wp2
  go_ret
  exact RetB.mk HB.out HV.out.symm
theorem qkt (p : Int) (s t : ByteArray) (b3 : Nat) (w : World) (hc : w.cell? ⟨b3, 0, none⟩ = some (.func (.func 172) #[] #[])) : Calls Tryz.prog 174 #[.agg #[.int .i32 p, .string s, .string t], .pointer (some ⟨b3, 0, none⟩)] w (RetB w (qaO (s, t))) := by
 have hb0 : Below w.heap.size w (w.alloc (.cells #[.int .i32 p, .string s, .string t] 246)) := (Below.refl _ w).alloc (Nat.le_refl _) _
 have hc0 : (w.alloc (.cells #[.int .i32 p, .string s, .string t] 246)).cell? ⟨b3, 0, none⟩ = some (.func (.func 172) #[] #[]) := qaC hc hb0
 have z0 : (w.alloc (.cells #[.int .i32 p, .string s, .string t] 246)).cell? ⟨w.heap.size, 1, none⟩ = some (.string s) := by simp
 have z1 : (w.alloc (.cells #[.int .i32 p, .string s, .string t] 246)).cell? ⟨w.heap.size, 2, none⟩ = some (.string t) := by simp
 have HL := Lib.hid (qhK s t)
 have HB := Lib.hid hb0
 clear hc hb0
 go_enter Tryz.func174, Tryz.ntmps174
 go_wp2_with (go_at_call 172; refine (HL.out _).mono ?_; rintro e w1 ⟨rfl, hb⟩)
 go_ret
 exact RetB.mk (HB.out.trans (hb.mono HB.out.size)) rfl
theorem qkp (h : TxH) (v : TxF) (w : World) (R : Nat → Prop) (hv : locTx w R h v) (ha : v.acl.length ≤ 1048576) (hi : v.ids.length ≤ 1048576) :
  Calls Tryz.prog 138 #[txV h] w (RetB w (qbz v h.s.2.1)) := by
 have hb0 : Below w.heap.size w ((w.alloc (.cells (rwTx h) 52)).alloc (.cells #[.func (.func 172) #[] #[]] 156)) := (qek w h).alloc (by simp) _
 have hd := hv.2.1.len; have hal := hv.2.2.1.len; have hil := hv.2.2.2.1.len; have hpl := hv.2.2.2.2.len
 have HD := Lib.hid (show qbz v h.s.2.1 = (decide (1048575 < h.d.2.1) || decide (16 < h.a.2.1) || decide (1024 < h.p.2.1) || decide (1024 < h.s.2.1) || v.acl.any (fun a => qaO a.2) || v.ids.any qaO) by unfold qbz; rw [hd, hal, hpl])
 have za := (hv.2.2.1.sl (fun _ => by simp [qao])).belowMore hb0 hb0.size
 have zi := (hv.2.2.2.1.sl (fun _ => by simp [qaz])).belowMore hb0 hb0.size
 have hcf : ((w.alloc (.cells (rwTx h) 52)).alloc (.cells #[.func (.func 172) #[] #[]] 156)).cell? ⟨w.heap.size + 1, 0, none⟩ = some (.func (.func 172) #[] #[]) := by simp
 have cA := Lib.hid (fun W hbW => qcR h.a.1 h.a.2.1 h.a.2.2 174 #[.pointer (some ⟨w.heap.size + 1, 0, none⟩)] (enters_of Tryz.func174 (by kernel_rfl) rfl) v.acl (fun a => qaO a.2) W (za.belowMore hbW hbW.size) (by omega) (fun W2 k hk hb2 => qkt _ _ _ _ W2 (qaC (qaC hcf hbW) hb2)))
 have cI := Lib.hid (fun W hbW => qez h.i.1 h.i.2.1 h.i.2.2 172 #[] (enters_of Tryz.func172 (by kernel_rfl) rfl) v.ids qaO W (zi.belowMore hbW hbW.size) (by omega) (fun W2 k hk hb2 => qhK _ _ W2))
 have HCF := Lib.hid hcf
 have hst := qjt (P := Tryz.prog) (w.alloc (.cells (rwTx h) 52)) 156 .nilFunc (.func (.func 172) #[] #[]) rfl (sz1 w _)
 have HB := Lib.hid hb0
 clear hb0 za zi hcf hd hpl hal hil ha hi
 unfold txV
 by_cases h1 : 1048575 < h.d.2.1
 ·have d1 : decide (1048575 < (h.d.2.1 : Int)) = true := decide_eq_true (by omega)
  have HV := Lib.hid (show qbz v h.s.2.1 = true by rw [HD.out, decide_eq_true h1]; simp)
  clear h1 HD
  go_enter Tryz.func138, Tryz.ntmps138
  go_wp2_with fail
  go_ret
  exact RetB.mk HB.out HV.out.symm
 have d1 : decide (1048575 < (h.d.2.1 : Int)) = false := decide_eq_false (by omega)
 by_cases h2 : 16 < h.a.2.1
 ·have d2 : decide (16 < (h.a.2.1 : Int)) = true := decide_eq_true (by omega)
  have HV := Lib.hid (show qbz v h.s.2.1 = true by rw [HD.out, decide_eq_true h2]; simp)
  clear h1 h2 HD
  go_enter Tryz.func138, Tryz.ntmps138
  go_wp2_with fail
  go_ret
  exact RetB.mk HB.out HV.out.symm
 have d2 : decide (16 < (h.a.2.1 : Int)) = false := decide_eq_false (by omega)
 by_cases h3 : 1024 < h.p.2.1
 ·have d3 : decide (1024 < (h.p.2.1 : Int)) = true := decide_eq_true (by omega)
  have HV := Lib.hid (show qbz v h.s.2.1 = true by rw [HD.out, decide_eq_true h3]; simp)
  clear h1 h2 h3 HD
  go_enter Tryz.func138, Tryz.ntmps138
  go_wp2_with fail
  go_ret
  exact RetB.mk HB.out HV.out.symm
 have d3 : decide (1024 < (h.p.2.1 : Int)) = false := decide_eq_false (by omega)
 by_cases h4 : 1024 < h.s.2.1
 ·have d4 : decide (1024 < (h.s.2.1 : Int)) = true := decide_eq_true (by omega)
  have HV := Lib.hid (show qbz v h.s.2.1 = true by rw [HD.out, decide_eq_true h4]; simp)
  clear h1 h2 h3 h4 HD
  go_enter Tryz.func138, Tryz.ntmps138
  go_wp2_with fail
  go_ret
  exact RetB.mk HB.out HV.out.symm
 have d4 : decide (1024 < (h.s.2.1 : Int)) = false := decide_eq_false (by omega)
 have HV := Lib.hid (show qbz v h.s.2.1 = (v.acl.any (fun a => qaO a.2) || v.ids.any qaO) by rw [HD.out, decide_eq_false h1, decide_eq_false h2, decide_eq_false h3, decide_eq_false h4]; rfl)
 clear h1 h2 h3 h4 HD
 generalize v.ids.any qaO = bi at *
 cases hq : v.acl.any (fun a => qaO a.2) with
 | true =>
  rw [hq] at HV cA
  clear hq
  go_enter Tryz.func138, Tryz.ntmps138
  go_wp2_with (go_at_call 173; refine (cA.out _ (Below.refl _ _)).mono ?_; rintro e w1 ⟨rfl, hb⟩)
  go_ret
  exact RetB.mk (HB.out.trans (hb.mono HB.out.size)) (by rw [HV.out]; rfl)
 | false =>
  rw [hq] at HV cA
  clear hq
  have zz : ((w.alloc (.cells (rwTx h) 52)).alloc (.cells #[.func (.func 172) #[] #[]] 156)).cell? ⟨w.heap.size, 12, none⟩ = some (slV h.i) := by simp
  have ZZ := Lib.hid zz
  clear zz
  go_enter Tryz.func138, Tryz.ntmps138
  go_wp2_with (first | (go_at_call 173; refine (cA.out _ (Below.refl _ _)).mono ?_; rintro e w1 ⟨rfl, hb⟩; have y1 := qaC HCF.out hb; have y2 := qaC ZZ.out hb) | (go_at_call 175; refine (cI.out _ hb).mono ?_; rintro e w2 ⟨rfl, hb2⟩))
  go_ret
  exact RetB.mk (HB.out.trans ((hb.trans (hb2.mono hb.size)).mono HB.out.size)) (by rw [HV.out]; rfl)
open Go.RowKit
open Go.Lib hiding intOf
theorem qkM (s : ByteArray) (p : Nat) (h : ¬ p < s.size) : qcl s p = 0 := by
 unfold qcl
 rw [List.drop_eq_nil_of_le (by show s.data.toList.length ≤ p; rw [Array.length_toList]; exact Nat.le_of_not_lt h)]; rfl
theorem qjM (s : ByteArray) (p : Nat) (h : p < s.size) : qcl s p = if s.get! p = 47 then 0 else qcl s (p + 1) + 1 := by
 have hl : p < s.data.toList.length := h
 unfold qcl
 rw [List.drop_eq_getElem_cons hl]
 have e : s.data.toList[p] = s.get! p := by rw [qbj s p h]; rfl
 rw [e]; rfl
def qdw (s : ByteArray) (q : Nat) : ByteArray := s.extract q (q + qcl s q)
theorem qiD (s : ByteArray) (q : Nat) : (qdw s q).data.toList = qbZ s q := by
 unfold qdw qbZ
 simp [ByteArray.data_extract, Array.toList_extract, List.extract_eq_take_drop]
theorem qgM (s : ByteArray) (q : Nat) (l : List UInt8) : ((qdw s q).toList == l) = decide (qbZ s q = l) := by
 rw [Lib.toList_data, qiD, Bool.eq_iff_iff, beq_iff_eq, decide_eq_true_eq]
theorem qic (s : ByteArray) (q : Nat) (hs : s.size < 2147483648) (hq : q ≤ s.size) (w : World) : Calls Tryz.prog 267 #[.string s, .int .i64 q] w (fun e w' => e = .returned (.string (qdw s q)) ∧ w' = w) := by
 go_enter Tryz.func267, Tryz.ntmps267
 go_wp2_with fail
 go_loop [5] (fun i => ∃ p : Nat, i = .int .i64 ↑p ∧ q ≤ p ∧ p ≤ s.size ∧ p + qcl s p = q + qcl s q) (fun i => s.size - (intOf i).toNat)
 case atStart => exact ⟨q, rfl, Nat.le_refl _, hq, rfl⟩
 case round =>
  obtain ⟨p, rfl, hqp, hps, hP⟩ := hrel
  have HP := Lib.hid hP; clear hP
  by_cases hp : p < s.size
  ·have hb := qcM s[p]
   have hstep := qjM s p hp
   rw [qbj s p hp] at hstep
   by_cases hk : s[p] = 47
   ·have hb1 : ((s[p].toNat : Int) != 47) = false := by rw [hk]; rfl
    have HE := Lib.hid (show q + qcl s q = p by rw [← HP.out, hstep, if_pos hk]; rfl)
    clear hb hstep hk
    go_wp2_with fail
    go_ret
    exact ⟨by unfold qdw; rw [HE.out]; rfl, rfl⟩
   ·have hb1 : ((s[p].toNat : Int) != 47) = true := by
     rw [decide_eq_false hk] at hb
     simp only [bne, hb, Bool.not_false]
    have HE := Lib.hid (show p + 1 + qcl s (p + 1) = q + qcl s q by rw [← HP.out, hstep, if_neg hk]; omega)
    clear hb hstep hk
    go_wp2_with fail
    go_round
    case rel => exact ⟨p + 1, by go_num, by omega, by omega, HE.out⟩
    case measure => simp [intOf]; omega
  ·have HE := Lib.hid (show q + qcl s q = p by rw [← HP.out, qkM s p hp]; rfl)
   go_wp2_with fail
   go_ret
   exact ⟨by unfold qdw; rw [HE.out]; rfl, rfl⟩
theorem qgZ (s : ByteArray) (hs : s.size < 2147483648) (w : World) (h1 : 1 < s.size) (h2 : s.size ≤ 4096) (h3 : s.get! 0 = 47) (h4 : s.get! (s.size - 1) ≠ 47) :
  Calls Tryz.prog 245 #[.string s] w (ChkPost s w) := by
 have HV := Lib.hid (show qaH s = qbw s s.size 0 by
  unfold qaH
  rw [decide_eq_true (show s.size ≠ 0 by omega), decide_eq_true h2, decide_eq_true h3, decide_eq_false (show ¬ s.size = 1 by omega), decide_eq_false h4]
  simp)
 have d0 : s.toList.isEmpty = false := qcV s (by omega)
 have d1 : (s.toList == [47]) = false := by
  rw [qct]
  exact decide_eq_false fun e => by have := (qcE s).1 e; omega
 have d2 : ((s[0].toNat : Int) != 47) = false := by
  rw [← qbI s 0 (by omega), h3]; rfl
 have d3 : ((s[s.size - 1].toNat : Int) == 47) = false := by
  rw [qcM, ← qbI s (s.size - 1) (by omega)]
  exact decide_eq_false h4
 clear h3 h4
 go_enter Tryz.func245, Tryz.ntmps245
 go_wp2_with fail
 clear d0 d1 d2 d3
 go_loop [4, 5, 6, 7] (fun at_ _ _ _ => ∃ (p f : Nat), at_ = .int .i64 ↑p ∧ p ≤ s.size ∧ qbw s f p = qbw s s.size 0 ∧ s.size ≤ p + f) (fun at_ _ _ _ => s.size - (intOf at_).toNat)
 case atStart => exact ⟨0, s.size, rfl, by omega, rfl, by omega⟩
 case round =>
  obtain ⟨p, f, rfl, hps, hG, hfu⟩ := hrel
  have HG := Lib.hid hG; clear hG
  by_cases hp : p < s.size
  ·have hw1 := qdi s p
   have hw2 := qhs s p hp
   have HO := Lib.hid (qkK s p)
   obtain ⟨g, rfl⟩ : ∃ g, f = g + 1 := ⟨f - 1, by omega⟩
   have hb := qcM s[p]
   have hst := qdq s g p hp
   by_cases hsl : s.get! p = 47
   ·have hk := qja s p hsl
    have hkb : (ofI (qby s p) != 1) = false := by rw [HO.out, hk]; rfl
    have t1 : ((s[p].toNat : Int) == 47) = true := by rw [hb, ← qbj s p hp]; exact decide_eq_true hsl
    have hso := qex s p hsl
    have hw := qji s p hsl
    rw [hso, hw] at hst
    have HW := Lib.hid hw
    rw [hw] at hw2
    clear hso hb hk hsl hw1 hw
    cases hv : qcz s p with
    | true =>
     rw [hv] at hst
     have HN := Lib.hid (show qaH s = false by rw [HV.out, ← HG.out, hst]; rfl)
     unfold qcz at hv
     rw [Bool.and_eq_true, decide_eq_true_eq, decide_eq_true_eq] at hv
     obtain ⟨v1, v2⟩ := hv
     have t2 : ((s[p - 1].toNat : Int) == 47) = true := by rw [qcM, ← qbj s (p - 1) (by omega)]; exact decide_eq_true v2
     clear hst v2
     have hpp : (0 : Int) < (p : Int) := by omega
     have hp2 : p - 1 < s.size := by omega
     go_wp2_with fail
     go_ret2
     exact ChkPost.mk (Below.refl _ _) HN.out.symm
    | false =>
     rw [hv] at hst
     have hq0 : ¬ 0 < p ∨ (0 < p ∧ ∃ h : p - 1 < s.size, ((s[p - 1].toNat : Int) == 47) = false) := by
      by_cases h0 : 0 < p
      ·right
       refine ⟨h0, by omega, ?_⟩
       unfold qcz at hv
       rw [decide_eq_true h0, Bool.true_and] at hv
       rw [qcM, ← qbj s (p - 1) (by omega)]
       exact hv
      ·exact .inl h0
     have cP := Lib.hid (qic s (p + 1) hs (by omega) w)
     have HP := Lib.hid (show qlr s (p + 1) = (decide (qbZ s (p + 1) = [46]) || decide (qbZ s (p + 1) = [46, 46])) from rfl)
     have q1 := qgM s (p + 1) [46]
     have q2 := qgM s (p + 1) [46, 46]
     have HST := Lib.hid hst
     clear hst hv
     generalize qdw s (p + 1) = pt at *
     by_cases c1 : qbZ s (p + 1) = [46] ∨ qbZ s (p + 1) = [46, 46]
     ·have HN := Lib.hid (show qaH s = false by
       rw [HV.out, ← HG.out, HST.out, HP.out]
       rcases c1 with e | e
       ·rw [decide_eq_true e]; rfl
       ·rw [decide_eq_true e, Bool.or_true]; rfl)
      have hq1 : (pt.toList == [46]) = true ∨ ((pt.toList == [46]) = false ∧ (pt.toList == [46, 46]) = true) := by
       rw [q1, q2]
       by_cases e : qbZ s (p + 1) = [46]
       ·exact .inl (decide_eq_true e)
       ·exact .inr ⟨decide_eq_false e, decide_eq_true (c1.resolve_left e)⟩
      clear q1 q2 c1
      rcases hq0 with hq0 | ⟨hq0, hq3, hq2⟩ <;> rcases hq1 with hq1 | ⟨hq1, hq4⟩
      all_goals
       go_wp2_with fail
       refine cP.out.mono ?_
       rintro e w' ⟨rfl, rfl⟩
       go_wp2_with fail
       go_ret2
       exact ChkPost.mk (Below.refl _ _) HN.out.symm
     ·have HN := Lib.hid (show qbw s (g + 1) p = qbw s g (p + 1) by
       rw [HST.out, HP.out, decide_eq_false (fun e => c1 (.inl e)), decide_eq_false (fun e => c1 (.inr e))]; rfl)
      have hq1 : (pt.toList == [46]) = false := by rw [q1]; exact decide_eq_false fun e => c1 (.inl e)
      have hq4 : (pt.toList == [46, 46]) = false := by rw [q2]; exact decide_eq_false fun e => c1 (.inr e)
      clear q1 q2 c1
      rcases hq0 with hq0 | ⟨hq0, hq3, hq2⟩
      all_goals
       go_wp2_with fail
       refine cP.out.mono ?_
       rintro e w' ⟨rfl, rfl⟩
       go_wp2_with fail
       refine (qfq s p hp (by omega) _).mono ?_
       rintro e w' ⟨rfl, rfl⟩
       go_wp2_with fail
       refine (qes _ _).mono ?_
       rintro e w' ⟨rfl, rfl⟩
       rw [HW.out]
       go_wp2_with fail
       go_round
       case rel => exact ⟨p + 1, g, by go_num, by omega, by rw [← HG.out]; exact HN.out.symm, by omega⟩
       case measure => simp [intOf]; omega
   ·have t1 : ((s[p].toNat : Int) == 47) = false := by rw [hb, ← qbj s p hp]; exact decide_eq_false hsl
    rw [qgz s p hsl] at hst
    by_cases hk : qbh s p = 1
    ·have hkb : (ofI (qby s p) != 1) = false := by rw [HO.out, hk]; rfl
     have HN := Lib.hid (show qbw s (g + 1) p = qbw s g (p + qaJ s p) by rw [hst, decide_eq_true hk]; rfl)
     clear hk hst hb hsl
     go_wp2_with fail
     refine (qfq s p hp (by omega) _).mono ?_
     rintro e w' ⟨rfl, rfl⟩
     go_wp2_with fail
     refine (qes _ _).mono ?_
     rintro e w' ⟨rfl, rfl⟩
     go_wp2_with fail
     go_round
     case rel => exact ⟨p + qaJ s p, g, by go_num, by omega, by rw [← HG.out]; exact HN.out.symm, by omega⟩
     case measure => simp [intOf]; omega
    ·have hkb : (ofI (qby s p) != 1) = true := by rw [HO.out]; exact bne_iff_ne.2 (fun e => hk (by omega))
     have HN := Lib.hid (show qaH s = false by rw [HV.out, ← HG.out, hst, decide_eq_false hk]; rfl)
     clear hk hst hb hsl
     go_wp2_with fail
     refine (qfq s p hp (by omega) _).mono ?_
     rintro e w' ⟨rfl, rfl⟩
     go_wp2_with fail
     refine (qes _ _).mono ?_
     rintro e w' ⟨rfl, rfl⟩
     go_wp2_with fail
     go_ret2
     exact ChkPost.mk (Below.refl _ _) HN.out.symm
  ·have HN := Lib.hid (show qaH s = true by rw [HV.out, ← HG.out, qgE s f p hp])
   go_wp2_with fail
   go_ret2
   exact ChkPost.mk (Below.refl _ _) HN.out.symm
theorem qgc (s : ByteArray) (hs : s.size < 2147483648) (w : World) (h : ¬ (1 < s.size ∧ s.size ≤ 4096 ∧ s.get! 0 = 47 ∧ s.get! (s.size - 1) ≠ 47)) :
  Calls Tryz.prog 245 #[.string s] w (ChkPost s w) := by
 by_cases h0 : s.size = 0
 ·have HV := Lib.hid (show qaH s = false by simp [qaH, h0])
  have hd : s.toList.isEmpty = true := by rw [qfk s h0, ByteArray.toList_eq]; rfl
  clear h h0
  go_enter Tryz.func245, Tryz.ntmps245
  go_wp2_with fail
  go_ret2
  exact ChkPost.mk (Below.refl _ _) HV.out.symm
 have d0 : s.toList.isEmpty = false := qcV s h0
 by_cases h1 : 4096 < s.size
 ·have HV := Lib.hid (show qaH s = false by
   unfold qaH
   rw [decide_eq_false (show ¬ s.size ≤ 4096 by omega)]; simp)
  clear h
  go_enter Tryz.func245, Tryz.ntmps245
  go_wp2_with fail
  go_ret2
  exact ChkPost.mk (Below.refl _ _) HV.out.symm
 by_cases h2 : s.get! 0 = 47
 ·have d2 : ((s[0].toNat : Int) != 47) = false := by rw [← qbI s 0 (by omega), h2]; rfl
  by_cases h3 : s.size = 1
  ·have d1 : (s.toList == [47]) = true := by rw [qct]; exact decide_eq_true ((qcE s).2 ⟨h3, h2⟩)
   have HV := Lib.hid (show qaH s = true by
    unfold qaH
    rw [decide_eq_true (show s.size ≠ 0 by omega), decide_eq_true (show s.size ≤ 4096 by omega), decide_eq_true h2, decide_eq_true h3]; rfl)
   have hp : 0 < s.size := by omega
   clear h h2 h3
   go_enter Tryz.func245, Tryz.ntmps245
   go_wp2_with fail
   go_ret2
   exact ChkPost.mk (Below.refl _ _) HV.out.symm
  ·have h4 : s.get! (s.size - 1) = 47 := Classical.byContradiction fun e => h ⟨by omega, by omega, h2, e⟩
   have d1 : (s.toList == [47]) = false := by rw [qct]; exact decide_eq_false fun e => h3 ((qcE s).1 e).1
   have d3 : ((s[s.size - 1].toNat : Int) == 47) = true := by rw [qcM, ← qbI s (s.size - 1) (by omega)]; exact decide_eq_true h4
   have HV := Lib.hid (show qaH s = false by
    unfold qaH
    rw [decide_eq_false h3, decide_eq_true h4]; simp)
   have hp : 0 < s.size := by omega
   clear h h2 h4
   go_enter Tryz.func245, Tryz.ntmps245
   go_wp2_with fail
   go_ret2
   exact ChkPost.mk (Below.refl _ _) HV.out.symm
 ·have d2 : ((s[0].toNat : Int) != 47) = true := by
   rw [← qbI s 0 (by omega)]
   have := qcM (s.get! 0)
   rw [decide_eq_false h2] at this
   simp only [bne, this, Bool.not_false]
  have HV := Lib.hid (show qaH s = false by
   unfold qaH
   rw [decide_eq_false h2]; simp)
  have hp : 0 < s.size := by omega
  clear h h2
  go_enter Tryz.func245, Tryz.ntmps245
  go_wp2_with fail
  go_ret2
  exact ChkPost.mk (Below.refl _ _) HV.out.symm
theorem qhf (s : ByteArray) (hs : s.size < 2147483648) (w : World) : Calls Tryz.prog 245 #[.string s] w (ChkPost s w) := by
 by_cases h : 1 < s.size ∧ s.size ≤ 4096 ∧ s.get! 0 = 47 ∧ s.get! (s.size - 1) ≠ 47
 ·exact qgZ s hs w h.1 h.2.1 h.2.2.1 h.2.2.2
 ·exact qgc s hs w h
theorem qeK (s : ByteArray) (hs : s.size < 2147483648) (w : World) : Calls Tryz.prog 215 #[.string s] w (RetB w (qaH s)) := by
 have cC := qhf s hs w
 go_enter Tryz.func215, Tryz.ntmps215
 go_wp2_with fail
 refine cC.mono ?_
 rintro e w1 ⟨⟨f, a, rfl, hf⟩, hb⟩
 go_wp2_with fail
 go_ret
 exact RetB.mk hb rfl
def OrdP3 (a b : ByteArray) (w : World) (e : Ending) (w' : World) : Prop := e = .returned (.int .i64 (Lib.compareBytes a.data.toList b.data.toList)) ∧ ∃ q, w' = w.drewN q
theorem OrdP3.mk {a b : ByteArray} {w : World} {w' : World} {x : Int} (hw : ∃ q, w' = w.drewN q) (h : x = Lib.compareBytes a.data.toList b.data.toList) : OrdP3 a b w (.returned (.int .i64 x)) w' := ⟨by rw [h], hw⟩
theorem qmn (a b : ByteArray) (i : Nat) : Lib.compareBytes (a.data.toList.drop i) (b.data.toList.drop i) =
  if i < a.size then (if i < b.size then (if a.get! i < b.get! i then -1 else if b.get! i < a.get! i then 1 else Lib.compareBytes (a.data.toList.drop (i + 1)) (b.data.toList.drop (i + 1))) else 1) else (if i < b.size then -1 else 0) := by
 have la : ∀ h : i < a.size, a.data.toList.drop i = a.get! i :: a.data.toList.drop (i + 1) := fun h => by
  have hl : i < a.data.toList.length := h
  rw [List.drop_eq_getElem_cons hl, qbj a i h]; rfl
 have lb : ∀ h : i < b.size, b.data.toList.drop i = b.get! i :: b.data.toList.drop (i + 1) := fun h => by
  have hl : i < b.data.toList.length := h
  rw [List.drop_eq_getElem_cons hl, qbj b i h]; rfl
 have na : ¬ i < a.size → a.data.toList.drop i = [] := fun h => List.drop_eq_nil_of_le (by rw [Array.length_toList]; exact Nat.le_of_not_lt h)
 have nb : ¬ i < b.size → b.data.toList.drop i = [] := fun h => List.drop_eq_nil_of_le (by rw [Array.length_toList]; exact Nat.le_of_not_lt h)
 by_cases ha : i < a.size <;> by_cases hb : i < b.size
 ·rw [la ha, lb hb, if_pos ha, if_pos hb]; rfl
 ·rw [la ha, nb hb, if_pos ha, if_neg hb]; rfl
 ·rw [na ha, lb hb, if_neg ha, if_pos hb]; rfl
 ·rw [na ha, nb hb, if_neg ha, if_neg hb]; rfl
theorem qhY (a b : ByteArray) (ha : a.size < 2147483648) (_hb : b.size < 2147483648) (w : World) : Calls Tryz.prog 216 #[.string a, .string b] w (OrdP3 a b w) := by
 go_enter Tryz.func216, Tryz.ntmps216
 go_wp2_with fail
 go_loopw [5] (fun i wr => ∃ p q : Nat, wr = w.drewN q ∧ i = .int .i64 ↑p ∧ p ≤ a.size ∧ p ≤ b.size ∧ Lib.compareBytes (a.data.toList.drop p) (b.data.toList.drop p) = Lib.compareBytes a.data.toList b.data.toList) (fun i _ => a.size - (intOf i).toNat)
 case atStart => exact ⟨0, 0, rfl, rfl, Nat.zero_le _, Nat.zero_le _, by rw [List.drop_zero, List.drop_zero]⟩
 case round =>
  obtain ⟨p, q, rfl, rfl, hpa, hpb, hC⟩ := hrel
  have hd := qmn a b p
  rw [hC] at hd
  clear hC
  have hlt : ∀ x y : UInt8, decide (x.toNat < y.toNat) = decide (x < y) := fun x y => by
   rw [Bool.eq_iff_iff, decide_eq_true_eq, decide_eq_true_eq, UInt8.lt_iff_toNat_lt]
  by_cases h1 : p < a.size
  ·rw [if_pos h1] at hd
   by_cases h2 : p < b.size
   ·rw [if_pos h2, qbj a p h1, qbj b p h2] at hd
    have l1 := hlt a[p] b[p]; have l2 := hlt b[p] a[p]
    by_cases c1 : a[p] < b[p]
    ·rw [if_pos c1] at hd
     rw [decide_eq_true c1] at l1
     have HD := Lib.hid hd
     clear hd c1 hlt l2
     go_wp2_with fail
     go_quiet (fail)
     go_wp2_with fail
     go_ret
     exact OrdP3.mk (by (try simp only [World.drewN_drewN]); exact ⟨_, rfl⟩) HD.out.symm
    ·rw [if_neg c1] at hd
     rw [decide_eq_false c1] at l1
     by_cases c2 : b[p] < a[p]
     ·rw [if_pos c2] at hd
      rw [decide_eq_true c2] at l2
      have HD := Lib.hid hd
      clear hd c1 c2 hlt
      go_wp2_with fail
      go_quiet (fail)
      go_wp2_with fail
      go_quiet (fail)
      go_wp2_with fail
      go_ret
      exact OrdP3.mk (by (try simp only [World.drewN_drewN]); exact ⟨_, rfl⟩) HD.out.symm
     ·rw [if_neg c2] at hd
      rw [decide_eq_false c2] at l2
      have HD := Lib.hid hd
      clear hd c1 c2 hlt
      go_wp2_with fail
      go_quiet (fail)
      go_wp2_with fail
      go_quiet (fail)
      go_wp2_with fail
      go_roundw
      case rel => exact ⟨p + 1, _, by (try simp only [World.drewN_drewN]); rfl, by go_num, by omega, by omega, HD.out.symm⟩
      case measure => simp [intOf]; omega
   ·rw [if_neg h2] at hd
    obtain rfl : p = b.size := by omega
    have HD := Lib.hid hd
    clear hd hlt
    go_wp2_with fail
    go_ret
    exact OrdP3.mk (by (try simp only [World.drewN_drewN]); exact ⟨_, rfl⟩) HD.out.symm
  ·rw [if_neg h1] at hd
   obtain rfl : p = a.size := by omega
   by_cases h2 : a.size < b.size
   ·rw [if_pos h2] at hd
    have HD := Lib.hid hd
    clear hd hlt
    go_wp2_with fail
    go_ret
    exact OrdP3.mk (by (try simp only [World.drewN_drewN]); exact ⟨_, rfl⟩) HD.out.symm
   ·rw [if_neg h2] at hd
    have HD := Lib.hid hd
    clear hd hlt
    go_wp2_with fail
    go_ret
    exact OrdP3.mk (by (try simp only [World.drewN_drewN]); exact ⟨_, rfl⟩) HD.out.symm
open Go.RowKit
def qaR (t : Int) : ByteArray :=
 if t = 1 then ⟨#[112, 100, 97, 111, 110]⟩ else if t = 2 ∨ t = 121 then ⟨#[112]⟩ else if t = 5 then ⟨#[112, 100, 118]⟩ else if t = 7 then ⟨#[112, 97, 118]⟩ else if t = 13 then ⟨#[112, 118]⟩
 else if t = 120 then ⟨#[112, 113]⟩ else if t = 14 then ⟨#[109]⟩ else if t = -10 then ⟨#[115]⟩ else if t = -11 then ⟨#[108]⟩ else if t = -1 then ⟨#[99]⟩ else ⟨#[]⟩
def FldP (t : Int) (w : World) (e : Ending) (w' : World) : Prop := e = .returned (.string (qaR t)) ∧ w' = w
theorem FldP.mk {t : Int} {s : ByteArray} {w : World} (h : s = qaR t) : FldP t w (.returned (.string s)) w := ⟨by rw [h], rfl⟩
theorem qea (t : Int) : t = 1 ∨ t = 2 ∨ t = 121 ∨ t = 5 ∨ t = 7 ∨ t = 13 ∨ t = 120 ∨ t = 14 ∨ t = -10 ∨ t = -11 ∨ t = -1 ∨ (t ≠ 1 ∧ t ≠ 2 ∧ t ≠ 121 ∧ t ≠ 5 ∧ t ≠ 7 ∧ t ≠ 13 ∧ t ≠ 120 ∧ t ≠ 14 ∧ t ≠ -10 ∧ t ≠ -11 ∧ t ≠ -1) := by omega
theorem qci (t : Int) (w : World) : Calls Tryz.prog 142 #[.int .i32 t] w (FldP t w) := by
 rcases qea t with rfl | rfl | rfl | rfl | rfl | rfl | rfl | rfl | rfl | rfl | rfl | ⟨h1, h2, h3, h4, h5, h6, h7, h8, h9, h10, h11⟩
 case inr.inr.inr.inr.inr.inr.inr.inr.inr.inr.inr =>
  have HF := Lib.hid (show qaR t = ⟨#[]⟩ by unfold qaR; simp [h1, h2, h3, h4, h5, h6, h7, h8, h9, h10, h11])
  have b1 : (t == 1) = false := beq_eq_false_iff_ne.2 h1
  have b2 : (t == 2) = false := beq_eq_false_iff_ne.2 h2
  have b3 : (t == 121) = false := beq_eq_false_iff_ne.2 h3
  have b4 : (t == 5) = false := beq_eq_false_iff_ne.2 h4
  have b5 : (t == 7) = false := beq_eq_false_iff_ne.2 h5
  have b6 : (t == 13) = false := beq_eq_false_iff_ne.2 h6
  have b7 : (t == 120) = false := beq_eq_false_iff_ne.2 h7
  have b8 : (t == 14) = false := beq_eq_false_iff_ne.2 h8
  have b9 : (t == -10) = false := beq_eq_false_iff_ne.2 h9
  have b10 : (t == -11) = false := beq_eq_false_iff_ne.2 h10
  have b11 : (t == -1) = false := beq_eq_false_iff_ne.2 h11
  clear h1 h2 h3 h4 h5 h6 h7 h8 h9 h10 h11
  go_enter Tryz.func142, Tryz.ntmps142
  go_wp2_with fail
  go_ret
  exact FldP.mk HF.out.symm
 all_goals
  go_enter Tryz.func142, Tryz.ntmps142
  go_wp2_with fail
  go_ret
  exact FldP.mk rfl
theorem qgS (t : Int) (w : World) : Calls Tryz.prog 144 #[.int .i32 t] w (RetBw w (qbg t)) := by
 by_cases h : t = 1 ∨ t = 2 ∨ t = 5 ∨ t = 7 ∨ t = 13 ∨ t = 120 ∨ t = 121
 ·have HP := Lib.hid (show qbg t = true from decide_eq_true h)
  rcases h with rfl | rfl | rfl | rfl | rfl | rfl | rfl
  all_goals
   go_enter Tryz.func144, Tryz.ntmps144
   go_wp2_with fail
   go_ret
   exact RetBw.mk HP.out.symm
 ·have HP := Lib.hid (show qbg t = false from decide_eq_false h)
  have b1 : (t == 1) = false := beq_eq_false_iff_ne.2 (fun e => h (by omega))
  have b2 : (t == 2) = false := beq_eq_false_iff_ne.2 (fun e => h (by omega))
  have b3 : (t == 121) = false := beq_eq_false_iff_ne.2 (fun e => h (by omega))
  have b4 : (t == 5) = false := beq_eq_false_iff_ne.2 (fun e => h (by omega))
  have b5 : (t == 7) = false := beq_eq_false_iff_ne.2 (fun e => h (by omega))
  have b6 : (t == 13) = false := beq_eq_false_iff_ne.2 (fun e => h (by omega))
  have b7 : (t == 120) = false := beq_eq_false_iff_ne.2 (fun e => h (by omega))
  clear h
  go_enter Tryz.func144, Tryz.ntmps144
  go_wp2_with fail
  go_ret
  exact RetBw.mk HP.out.symm
/-- is a letter one of a text's? -/
def hasN (s : ByteArray) (f : Int) : Bool := s.data.toList.any fun x => (x.toNat : Int) == f
theorem qjj (s : ByteArray) (f : Int) (hs : s.size < 2147483648) (w : World) : Calls Tryz.prog 214 #[.string s, .int .u8 f] w (RetBw w (hasN s f)) := by
 go_enter Tryz.func214, Tryz.ntmps214
 go_wp2_with fail
 go_loop [5] (fun i => ∃ p : Nat, i = .int .i64 ↑p ∧ p ≤ s.size ∧ (s.data.toList.drop p).any (fun x => (x.toNat : Int) == f) = hasN s f) (fun i => s.size - (intOf i).toNat)
 case atStart => exact ⟨0, rfl, Nat.zero_le _, by rw [List.drop_zero]; rfl⟩
 case round =>
  obtain ⟨p, rfl, hp, hc⟩ := hrel
  by_cases hlt : p < s.size
  ·have hl : p < s.data.toList.length := hlt
   rw [List.drop_eq_getElem_cons hl, List.any_cons, show s.data.toList[p] = s[p] from rfl] at hc
   cases hb : ((s[p].toNat : Int) == f) with
   | true =>
    rw [hb, Bool.true_or] at hc
    have HC := Lib.hid hc
    clear hc
    go_wp2_with fail
    go_ret
    exact RetBw.mk HC.out
   | false =>
    rw [hb, Bool.false_or] at hc
    have HC := Lib.hid hc
    clear hc
    go_wp2_with fail
    go_round
    case rel => exact ⟨p + 1, by go_num, by omega, HC.out⟩
    case measure => simp [intOf]; omega
  ·have HC := Lib.hid (show hasN s f = false by rw [← hc, List.drop_eq_nil_of_le (by show s.data.toList.length ≤ p; rw [Array.length_toList]; exact Nat.le_of_not_lt hlt)]; rfl)
   clear hc
   obtain rfl : p = s.size := by omega
   go_wp2_with fail
   go_ret
   exact RetBw.mk HC.out.symm
theorem qhg (t : Int) : (qaR t).size < 2147483648 := by
 rcases qea t with rfl | rfl | rfl | rfl | rfl | rfl | rfl | rfl | rfl | rfl | rfl | ⟨h1, h2, h3, h4, h5, h6, h7, h8, h9, h10, h11⟩
 case inr.inr.inr.inr.inr.inr.inr.inr.inr.inr.inr =>
  rw [show qaR t = ⟨#[]⟩ by unfold qaR; simp [h1, h2, h3, h4, h5, h6, h7, h8, h9, h10, h11]]; decide
 all_goals decide
theorem qan (t : Int) (f : Int) (w : World) : Calls Tryz.prog 214 #[.string (qaR t), .int .u8 f] w (RetBw w (hasN (qaR t) f)) := qjj _ _ (qhg t) w
/-- which letters a type has: p d a o n v q s l c m -/
theorem qiQ (t : Int) : hasN (qaR t) 112 = qbg t ∧ hasN (qaR t) 100 = decide (t = 1 ∨ t = 5) ∧ hasN (qaR t) 97 = decide (t = 1 ∨ t = 7) ∧ hasN (qaR t) 111 = decide (t = 1) ∧ hasN (qaR t) 110 = decide (t = 1) ∧
  hasN (qaR t) 118 = decide (t = 5 ∨ t = 7 ∨ t = 13) ∧ hasN (qaR t) 113 = decide (t = 120) ∧ hasN (qaR t) 115 = decide (t = -10) ∧ hasN (qaR t) 108 = decide (t = -11) ∧ hasN (qaR t) 99 = decide (t = -1) ∧ hasN (qaR t) 109 = decide (t = 14) := by
 rcases qea t with rfl | rfl | rfl | rfl | rfl | rfl | rfl | rfl | rfl | rfl | rfl | ⟨h1, h2, h3, h4, h5, h6, h7, h8, h9, h10, h11⟩
 case inr.inr.inr.inr.inr.inr.inr.inr.inr.inr.inr =>
  rw [show qaR t = ⟨#[]⟩ by unfold qaR; simp [h1, h2, h3, h4, h5, h6, h7, h8, h9, h10, h11]]
  unfold qbg
  simp [h1, h2, h3, h4, h5, h6, h7, h8, h9, h10, h11, hasN]
 all_goals decide
theorem qhS (t : Int) : ((qaR t).toList.isEmpty) = !qbt t := by
 rcases qea t with rfl | rfl | rfl | rfl | rfl | rfl | rfl | rfl | rfl | rfl | rfl | ⟨h1, h2, h3, h4, h5, h6, h7, h8, h9, h10, h11⟩
 case inr.inr.inr.inr.inr.inr.inr.inr.inr.inr.inr =>
  rw [show qaR t = ⟨#[]⟩ by unfold qaR; simp [h1, h2, h3, h4, h5, h6, h7, h8, h9, h10, h11]]
  unfold qbt qbg
  simp [h1, h2, h3, h4, h5, h6, h7, h8, h9, h10, h11, Lib.toList_data]
 all_goals (rw [Lib.toList_data]; decide)
end Go.Proofs.YtbpmmmnphpkdjaaGreatDoor
