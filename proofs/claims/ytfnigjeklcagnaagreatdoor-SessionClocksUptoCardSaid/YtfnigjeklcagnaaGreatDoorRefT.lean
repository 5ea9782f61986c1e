/- The walk of the document's clock's Touch. Condition: fewer than 2^21 are known. -/
import Derived.Test.YtfnigjeklcagnaaGreatDoorRefD
import Derived.Test.YtfnigjeklcagnaaGreatDoorClkU
namespace Go.Proofs.YtfnigjeklcagnaaGreatDoor
open Go.RowKit Go.MapKept Go.Maps
def RefTouch (tick : Int) (K : List KV) (id st : Int) (rb : Nat) (ro : List Nat) (w : World) (e : Ending) (w' : World) : Prop := ∃ L', RefPost (.int .i64 0) tick L' rb ro w e w' ∧ Ref (putK K id st) L'
set_option maxRecDepth 100000 in
set_option maxHeartbeats 4000000 in
theorem refTouch_any (tick : Int) (K L : List KV) (rb : Nat) (ro : List Nat) (id timeout now : Int) (w : World) (h : RefC w tick L rb ro) (hr : Ref K L) (h1 : OneK K) (hL : L.length ≤ 1048576) (hok : touchOk id timeout now) (hid : id ≤ 9223372036854775807) (hto : timeout ≤ 2147483647) (ht1 : 1 ≤ tick) (ht2 : tick ≤ 1099511627776) :
    Calls Tryz.prog 17 #[.pointer (some ⟨rb, 0, none⟩), .int .i64 id, .int .i32 timeout, .int .i64 now] w (RefTouch tick K id (stepK tick timeout now) rb ro w) := by
  obtain ⟨o1, o2, o3, o4⟩ := hok
  obtain ⟨b1, b2, hsw, b4, b5⟩ := step_wf ht1 ht2 o2 hto o3 o4
  have hiw : wfI id := ⟨by omega, hid⟩
  have hst : stepK tick timeout now = ((now + timeout) / tick + 1) * tick := rfl
  have f2 : (now + timeout).tdiv tick = (now + timeout) / tick := Int.tdiv_eq_ediv_of_nonneg (by omega)
  generalize stepK tick timeout now = st at *
  generalize (now + timeout) / tick = q at *
  have HOL := Lib.hid (oneK_perm hr.1 h1)
  have H := Lib.hid h; have HR := Lib.hid hr; have HO := Lib.hid h1
  have HL := Lib.hid hL
  obtain ⟨A, c, k0, k1, hK⟩ := h.cells
  have HK := Lib.hid hK
  have HW := Lib.hid (And.intro hiw hsw)
  have f5 : (q + 1) * tick = st := hst.symm
  have hti : (tick == 0) = false := by simp; omega
  have f1 : IntKind.i64.wrap (now + timeout) = now + timeout := IntWalk.i64_in _ (by omega)
  have f3 : IntKind.i64.wrap q = q := IntWalk.i64_in _ (by omega)
  have f4 : IntKind.i64.wrap (q + 1) = q + 1 := IntWalk.i64_in _ (by omega)
  have f6 : IntKind.i64.wrap st = st := IntWalk.i64_in _ (by omega)
  clear h hst hsw hiw hK hr h1 hL
  go_enter Tryz.func17, Tryz.ntmps17
  go_wp2_with fail
  go_quiet (fail)
  go_wp2_with fail
  refine (refFind_any tick L rb ro id _ (H.out.fr (Fr.drewN [] w nq) (by simp)) (Nat.le_trans HL.out (by decide))).mono ?_
  rintro e w' ⟨r, rfl, hf, rfl⟩
  have hcase : (∃ k : Nat, r = ↑k ∧ k < L.length ∧ L[k]!.1 = id ∧ st ≤ L[k]!.2) ∨ ((∃ k : Nat, r = ↑k ∧ k < L.length ∧ L[k]!.1 = id ∧ L[k]!.2 < st) ∨ (r = -1 ∧ ∀ j, j < L.length → L[j]!.1 ≠ id)) := by
    rcases hf with ⟨k, e, hk, hi⟩ | hn
    · by_cases hs : st ≤ L[k]!.2
      · exact .inl ⟨k, e, hk, hi, hs⟩
      · exact .inr (.inl ⟨k, e, hk, hi, by omega⟩)
    · exact .inr (.inr hn)
  clear hf
  rcases hcase with ⟨k, rfl, hk, hi, hs⟩ | hcase
  · have HP := Lib.hid (show putK K id st = K from put_same (by rw [← getK_perm HR.out.1 HO.out]; exact getK_at HOL.out hk hi) hs)
    obtain ⟨b, off, rfl, _, y0, y1⟩ := HK.out.at_ hk
    have hk2 : ((k : Nat) : Int) < (L.length : Int) := by omega
    clear hi
    generalize L[k]!.2 = x at *
    go_wp2_with fail
    go_ret
    exact ⟨L, ⟨rfl, ⟨ro, H.out.fr (Fr.drewN [] w nq) (by simp), fun g hg => .inl hg⟩, Fr.drewN _ _ _⟩, by rw [HP.out]; exact HR.out⟩
  have HG := Lib.hid (show ∀ old, getK K id = some old → old < st from fun old ho => by
    rw [← getK_perm HR.out.1 HO.out] at ho
    rcases hcase with ⟨k, _, hk, hi, hs⟩ | ⟨_, hn⟩
    · rw [getK_at HOL.out hk hi] at ho
      injection ho with ho
      omega
    · rw [getK_not hn] at ho
      cases ho)
  have hcase2 : (∃ (k : Nat) (x y : Int), r = ↑k ∧ ((k : Nat) : Int) < (L.length : Int) ∧ (∃ b off, A = some ⟨b, off, none⟩ ∧ w.cell? ⟨b, off + k * 2, none⟩ = some (.int .i64 y) ∧ w.cell? ⟨b, off + k * 2 + 1, none⟩ = some (.int .i64 x)) ∧ x < st) ∨ r = -1 := by
    rcases hcase with ⟨k, e, hk, hi, hs⟩ | ⟨e, _⟩
    · obtain ⟨b, off, eA, _, y0, y1⟩ := HK.out.at_ hk
      exact .inl ⟨k, _, _, e, by omega, ⟨b, off, eA, y0, y1⟩, hs⟩
    · exact .inr e
  clear hcase
  have HD := Lib.hid (refDrop_any tick L rb ro id)
  rcases hcase2 with ⟨k, x, y, rfl, hk2, ⟨b, off, hA, y0, y1⟩, hx⟩ | rfl
  · subst hA
    go_wp2_with fail
    refine (refDrop_any tick L rb ro id _ (H.out.fr (Fr.drewN [] w nq) (by simp)) HOL.out (Nat.le_trans HL.out (by decide))).mono ?_
    rintro e w5 ⟨rfl, ⟨ro5, hC5, hs5⟩, hf5⟩
    have HLD := Lib.hid (show (dropK L id).length ≤ 1048576 from Nat.le_trans (List.length_filter_le ..) HL.out)
    have HNE := Lib.hid (show ∀ y ∈ dropK L id, y.1 ≠ id from fun y hy => drop_ne y hy)
    have HPUT := Lib.hid (fun k (hk : AtK (dropK L id) (id, st) k) => HR.out.put HG.out hk)
    have HC5 := Lib.hid hC5; have HS5 := Lib.hid hs5
    have HF5 := Lib.hid ((Fr.drewN [rb] w nq).trans hf5 (fun g hg => .inl hg))
    clear hC5 hs5 hf5
    generalize dropK L id = L1 at *
    generalize (getK L id).isSome = dd at *
    go_wp2_with fail
    go_loopw [11] (fun j wr => ∃ (k q : Nat), j = .int .i64 ↑k ∧ k ≤ L1.length ∧ (∀ j, j < k → ltK L1[j]! (id, st)) ∧ wr = w5.drewN q) (fun j _ => L1.length - (RowKit.intOf j).toNat)
    case atStart => exact ⟨0, 0, rfl, by omega, fun j hj => absurd hj (by omega), rfl⟩
    case round =>
      obtain ⟨k, q5, rfl, hk, hall, rfl⟩ := hrel
      have HA := Lib.hid hall; clear hall
      obtain ⟨A5, c5, m0, m1, hK5⟩ := HC5.out.cells
      have HK5 := Lib.hid hK5
      by_cases hlt : k < L1.length
      · obtain ⟨b5, off5, hA5, _, x0, x1⟩ := hK5.at_ hlt
        have hk2 : ((k : Nat) : Int) < (L1.length : Int) := by omega
        clear hK5
        by_cases hl1 : ltK L1[k]! (id, st)
        · have HA1 := Lib.hid (show ∀ j, j < k + 1 → ltK L1[j]! (id, st) from fun j hj => by rcases Nat.lt_succ_iff_lt_or_eq.1 hj with h | rfl; exact HA.out j h; exact hl1)
          unfold ltK at hl1
          simp only at hl1
          subst hA5
          have hLD := HLD.out
          generalize L1[k]!.2 = x2 at *
          generalize L1[k]!.1 = x3 at *
          rcases hl1 with hl1 | ⟨rfl, hl1⟩
          · go_wp2_with fail
            go_roundw
            case rel => exact ⟨k + 1, q5, by go_num, by omega, HA1.out, by first | rfl | trivial⟩
            case measure => simp [RowKit.intOf]; omega
          · have hl2 : ¬ x2 < x2 := by omega
            go_wp2_with fail
            go_roundw
            case rel => exact ⟨k + 1, q5, by go_num, by omega, HA1.out, by first | rfl | trivial⟩
            case measure => simp [RowKit.intOf]; omega
        · have HAT := Lib.hid (show AtK L1 (id, st) k from ⟨hk, HA.out, .inr ⟨hlt, hl1⟩⟩)
          unfold ltK at hl1
          simp only at hl1
          obtain ⟨L0, HL0⟩ : ∃ v : Value, v = .slice A5 L1.length c5 := ⟨_, rfl⟩
          generalize L1[k]!.2 = x2 at *
          generalize L1[k]!.1 = x3 at *
          have hxx : (¬ x2 < st ∧ (x2 == st) = false) ∨ (¬ x2 < st ∧ (x2 == st) = true ∧ ¬ x3 < id) := by
            by_cases e : x2 = st
            · exact .inr ⟨by omega, by simpa using e, by omega⟩
            · exact .inl ⟨by omega, by simpa using e⟩
          clear hl1
          subst hA5
          rcases hxx with ⟨hl1, hl2⟩ | ⟨hl1, hl2, hl3⟩
          · have hW := HC5.out.fr (Fr.drewN [] w5 q5) (by simp)
            have hFW : Fr [rb] w5 (w5.drewN q5) := Fr.drewN _ _ _
            have m1 : (w5.drewN q5).cell? ⟨rb, 1, none⟩ = some (.slice (some (Addr.mk b5 off5 none)) L1.length c5) := m1
            (try have x0 : (w5.drewN q5).cell? ⟨b5, off5 + k * 2, none⟩ = _ := x0)
            (try have x1 : (w5.drewN q5).cell? ⟨b5, off5 + k * 2 + 1, none⟩ = _ := x1)
            have hKW : KnS (w5.drewN q5) rb ro5 (some (Addr.mk b5 off5 none)) L1.length c5 L1 := HK5.out
            have hcap := hKW.cap
            have hSZ : w5.heap.size = (w5.drewN q5).heap.size := rfl
            generalize w5.drewN q5 = W at *
            have hS3 := hKW.from hk
            have hsl := slice_from (some (Addr.mk b5 off5 none)) L1.length c5 k hk
            generalize (if c5 = k then (some (Addr.mk b5 off5 none)) else ((some (Addr.mk b5 off5 none))).map (·.add (k * 2))) = A3 at hS3 hsl
            generalize hn3 : L1.length - k = n3 at hS3 hsl
            generalize c5 - k = c3 at hS3 hsl
            have HS3 := Lib.hid hS3
            have HN3 := Lib.hid (show A3 = none → n3 = 0 ∧ c3 = 0 from fun e => by subst e; exact hS3.nil_cap)
            have hb0 : Below W.heap.size W (W.alloc (.cells #[] 92)) := (Below.refl _ W).alloc (Nat.le_refl _) _
            have HS1 := Lib.hid (((hKW.upto hk).sl hW.lt).belowMore hb0 hb0.size)
            have HN1 := Lib.hid (show (some (Addr.mk b5 off5 none)) = none → k = 0 ∧ c5 = 0 from fun e => by first | (cases e; done) | (subst e; have := (hKW.upto hk).nil_cap; exact this))
            have HB0 := Lib.hid hb0
            have hsz := hW.lt rb hW.1
            have hne : rb ≠ W.heap.size := by omega
            have HWC := Lib.hid hW
            have HFW := Lib.hid (HF5.out.trans hFW (fun g hg => .inl hg))
            have hLD := HLD.out
            clear hS3 hb0 hW hFW hKW
            go_wp2_with (at_builtin; refine wpList_appG elemKn rfl _ _ rfl W.heap.size (some ⟨W.heap.size, 0, none⟩) 0 0 [] rfl (own_empty W) (some (Addr.mk b5 off5 none)) k c5 (L1.take k) ?hx1 HS1.out HN1.out (by omega) HB0.out.size ?hk1)
            (try case hx1 => rfl)
            case hk1 =>
              intro A2 c2 w1 hv1 hb1
              have hB1 := HB0.out.trans hb1
              have hb1a : Below w1.heap.size w1 (w1.alloc (.cells #[.int .i64 id, .int .i64 st] 92)) := (Below.refl _ w1).alloc (Nat.le_refl _) _
              have HV1 := Lib.hid (own_later hv1 hb1a)
              have HB1 := Lib.hid (hB1.trans (hb1a.mono hB1.size))
              have k2 := keep1 m1 hB1
              have hne1 : rb ≠ w1.heap.size := by have := hB1.size; omega
              have HS2 := Lib.hid (sl_kn (heap_alloc_new w1 (.cells #[.int .i64 id, .int .i64 st] 92)))
              clear hv1 hb1 hB1 hb1a
              go_wp2_with (at_builtin; refine wpList_appG elemKn rfl _ _ rfl W.heap.size A2 k c2 (L1.take k) ?hx2 HV1.out (some ⟨w1.heap.size, 0, none⟩) 1 1 [(id, st)] ?hy1 HS2.out (fun e => by cases e) (by omega) HB1.out.size ?hk2)
              (try case hx2 => rfl)
              (try case hy1 => rfl)
              case hk2 =>
                intro A4 c4 w2 hv2 hb2
                have hB2 := HB1.out.trans hb2
                have k3 := keep1 m1 hB2
                have hv2' : w2.ownsRow W.heap.size 92 2 (.slice A4 (k + 1) c4) (k + 1) ((L1.take k ++ [(id, st)]).flatMap encKn) := by rw [List.flatMap_append]; simpa using hv2
                have HV2 := Lib.hid hv2'; have HB2 := Lib.hid hB2
                have HS4 := Lib.hid ((HS3.out.sl HWC.out.lt).belowMore hB2 hB2.size)
                clear hv2 hv2' hb2 hB2
                go_wp2_with (at_builtin; refine wpList_appG elemKn rfl _ _ rfl W.heap.size A4 (k + 1) c4 (L1.take k ++ [(id, st)]) ?hx3 HV2.out A3 n3 c3 (L1.drop k) ?hy2 HS4.out HN3.out (by omega) HB2.out.size ?hk3)
                (try case hx3 => rfl)
                case hy2 => first | rfl | (simp; trace_state; sorry)
                case hk3 =>
                  intro A6 c6 w3 hv3 hb3
                  have hB3 := HB2.out.trans hb3
                  have k4 := keep1 m1 hB3
                  have fz := (HWC.out.below hB3).frozen
                  have hv3' : w3.ownsRow W.heap.size 92 2 (.slice A6 (k + 1 + n3) c6) (k + 1 + n3) ((L1.take k ++ [(id, st)] ++ L1.drop k).flatMap encKn) := by rw [List.flatMap_append, List.flatMap_append]; simpa using hv3
                  have HZ := Lib.hid (HWC.out.set hB3 hv3' (by rw [List.length_append, List.length_append, List.length_take, List.length_drop]; simp; omega) (fun y hy => by
                    rcases List.mem_append.1 hy with hy | hy
                    · rcases List.mem_append.1 hy with hy | hy
                      · exact HWC.out.2.2.1 y (List.mem_of_mem_take hy)
                      · rw [List.mem_singleton.1 hy]; exact HW.out
                    · exact HWC.out.2.2.1 y (List.mem_of_mem_drop hy)))
                  clear hv3 hv3' hb3 hB3
                  go_wp2_with fail
                  go_ret
                  exact ⟨_, ⟨rfl, ⟨_, HZ.out.1.choose_spec.1, fun g hg => (HZ.out.1.choose_spec.2 g hg).elim (fun h => HS5.out g h) (fun h => .inr (Nat.le_trans HFW.out.size h))⟩, HFW.out.trans HZ.out.2 (fun g hg => .inl hg)⟩, HPUT.out k HAT.out⟩
          · have hW := HC5.out.fr (Fr.drewN [] w5 q5) (by simp)
            have hFW : Fr [rb] w5 (w5.drewN q5) := Fr.drewN _ _ _
            have m1 : (w5.drewN q5).cell? ⟨rb, 1, none⟩ = some (.slice (some (Addr.mk b5 off5 none)) L1.length c5) := m1
            (try have x0 : (w5.drewN q5).cell? ⟨b5, off5 + k * 2, none⟩ = _ := x0)
            (try have x1 : (w5.drewN q5).cell? ⟨b5, off5 + k * 2 + 1, none⟩ = _ := x1)
            have hKW : KnS (w5.drewN q5) rb ro5 (some (Addr.mk b5 off5 none)) L1.length c5 L1 := HK5.out
            have hcap := hKW.cap
            have hSZ : w5.heap.size = (w5.drewN q5).heap.size := rfl
            generalize w5.drewN q5 = W at *
            have hS3 := hKW.from hk
            have hsl := slice_from (some (Addr.mk b5 off5 none)) L1.length c5 k hk
            generalize (if c5 = k then (some (Addr.mk b5 off5 none)) else ((some (Addr.mk b5 off5 none))).map (·.add (k * 2))) = A3 at hS3 hsl
            generalize hn3 : L1.length - k = n3 at hS3 hsl
            generalize c5 - k = c3 at hS3 hsl
            have HS3 := Lib.hid hS3
            have HN3 := Lib.hid (show A3 = none → n3 = 0 ∧ c3 = 0 from fun e => by subst e; exact hS3.nil_cap)
            have hb0 : Below W.heap.size W (W.alloc (.cells #[] 92)) := (Below.refl _ W).alloc (Nat.le_refl _) _
            have HS1 := Lib.hid (((hKW.upto hk).sl hW.lt).belowMore hb0 hb0.size)
            have HN1 := Lib.hid (show (some (Addr.mk b5 off5 none)) = none → k = 0 ∧ c5 = 0 from fun e => by first | (cases e; done) | (subst e; have := (hKW.upto hk).nil_cap; exact this))
            have HB0 := Lib.hid hb0
            have hsz := hW.lt rb hW.1
            have hne : rb ≠ W.heap.size := by omega
            have HWC := Lib.hid hW
            have HFW := Lib.hid (HF5.out.trans hFW (fun g hg => .inl hg))
            have hLD := HLD.out
            clear hS3 hb0 hW hFW hKW
            go_wp2_with (at_builtin; refine wpList_appG elemKn rfl _ _ rfl W.heap.size (some ⟨W.heap.size, 0, none⟩) 0 0 [] rfl (own_empty W) (some (Addr.mk b5 off5 none)) k c5 (L1.take k) ?hx4 HS1.out HN1.out (by omega) HB0.out.size ?hk4)
            (try case hx4 => rfl)
            case hk4 =>
              intro A2 c2 w1 hv1 hb1
              have hB1 := HB0.out.trans hb1
              have hb1a : Below w1.heap.size w1 (w1.alloc (.cells #[.int .i64 id, .int .i64 st] 92)) := (Below.refl _ w1).alloc (Nat.le_refl _) _
              have HV1 := Lib.hid (own_later hv1 hb1a)
              have HB1 := Lib.hid (hB1.trans (hb1a.mono hB1.size))
              have k2 := keep1 m1 hB1
              have hne1 : rb ≠ w1.heap.size := by have := hB1.size; omega
              have HS2 := Lib.hid (sl_kn (heap_alloc_new w1 (.cells #[.int .i64 id, .int .i64 st] 92)))
              clear hv1 hb1 hB1 hb1a
              go_wp2_with (at_builtin; refine wpList_appG elemKn rfl _ _ rfl W.heap.size A2 k c2 (L1.take k) ?hx5 HV1.out (some ⟨w1.heap.size, 0, none⟩) 1 1 [(id, st)] ?hy3 HS2.out (fun e => by cases e) (by omega) HB1.out.size ?hk5)
              (try case hx5 => rfl)
              (try case hy3 => rfl)
              case hk5 =>
                intro A4 c4 w2 hv2 hb2
                have hB2 := HB1.out.trans hb2
                have k3 := keep1 m1 hB2
                have hv2' : w2.ownsRow W.heap.size 92 2 (.slice A4 (k + 1) c4) (k + 1) ((L1.take k ++ [(id, st)]).flatMap encKn) := by rw [List.flatMap_append]; simpa using hv2
                have HV2 := Lib.hid hv2'; have HB2 := Lib.hid hB2
                have HS4 := Lib.hid ((HS3.out.sl HWC.out.lt).belowMore hB2 hB2.size)
                clear hv2 hv2' hb2 hB2
                go_wp2_with (at_builtin; refine wpList_appG elemKn rfl _ _ rfl W.heap.size A4 (k + 1) c4 (L1.take k ++ [(id, st)]) ?hx6 HV2.out A3 n3 c3 (L1.drop k) ?hy4 HS4.out HN3.out (by omega) HB2.out.size ?hk6)
                (try case hx6 => rfl)
                case hy4 => first | rfl | (simp; trace_state; sorry)
                case hk6 =>
                  intro A6 c6 w3 hv3 hb3
                  have hB3 := HB2.out.trans hb3
                  have k4 := keep1 m1 hB3
                  have fz := (HWC.out.below hB3).frozen
                  have hv3' : w3.ownsRow W.heap.size 92 2 (.slice A6 (k + 1 + n3) c6) (k + 1 + n3) ((L1.take k ++ [(id, st)] ++ L1.drop k).flatMap encKn) := by rw [List.flatMap_append, List.flatMap_append]; simpa using hv3
                  have HZ := Lib.hid (HWC.out.set hB3 hv3' (by rw [List.length_append, List.length_append, List.length_take, List.length_drop]; simp; omega) (fun y hy => by
                    rcases List.mem_append.1 hy with hy | hy
                    · rcases List.mem_append.1 hy with hy | hy
                      · exact HWC.out.2.2.1 y (List.mem_of_mem_take hy)
                      · rw [List.mem_singleton.1 hy]; exact HW.out
                    · exact HWC.out.2.2.1 y (List.mem_of_mem_drop hy)))
                  clear hv3 hv3' hb3 hB3
                  go_wp2_with fail
                  go_ret
                  exact ⟨_, ⟨rfl, ⟨_, HZ.out.1.choose_spec.1, fun g hg => (HZ.out.1.choose_spec.2 g hg).elim (fun h => HS5.out g h) (fun h => .inr (Nat.le_trans HFW.out.size h))⟩, HFW.out.trans HZ.out.2 (fun g hg => .inl hg)⟩, HPUT.out k HAT.out⟩
      · have HAT := Lib.hid (show AtK L1 (id, st) k from ⟨hk, HA.out, .inl (by omega)⟩)
        have hk2 : ¬ ((k : Nat) : Int) < (L1.length : Int) := by omega
        have hW := HC5.out.fr (Fr.drewN [] w5 q5) (by simp)
        have hFW : Fr [rb] w5 (w5.drewN q5) := Fr.drewN _ _ _
        have m1 : (w5.drewN q5).cell? ⟨rb, 1, none⟩ = some (.slice A5 L1.length c5) := m1
        (try have x0 : (w5.drewN q5).cell? ⟨b5, off5 + k * 2, none⟩ = _ := x0)
        (try have x1 : (w5.drewN q5).cell? ⟨b5, off5 + k * 2 + 1, none⟩ = _ := x1)
        have hKW : KnS (w5.drewN q5) rb ro5 A5 L1.length c5 L1 := HK5.out
        have hcap := hKW.cap
        have hSZ : w5.heap.size = (w5.drewN q5).heap.size := rfl
        generalize w5.drewN q5 = W at *
        have hS3 := hKW.from hk
        have hsl := slice_from A5 L1.length c5 k hk
        generalize (if c5 = k then A5 else (A5).map (·.add (k * 2))) = A3 at hS3 hsl
        generalize hn3 : L1.length - k = n3 at hS3 hsl
        generalize c5 - k = c3 at hS3 hsl
        have HS3 := Lib.hid hS3
        have HN3 := Lib.hid (show A3 = none → n3 = 0 ∧ c3 = 0 from fun e => by subst e; exact hS3.nil_cap)
        have hb0 : Below W.heap.size W (W.alloc (.cells #[] 92)) := (Below.refl _ W).alloc (Nat.le_refl _) _
        have HS1 := Lib.hid (((hKW.upto hk).sl hW.lt).belowMore hb0 hb0.size)
        have HN1 := Lib.hid (show A5 = none → k = 0 ∧ c5 = 0 from fun e => by first | (cases e; done) | (subst e; have := (hKW.upto hk).nil_cap; exact this))
        have HB0 := Lib.hid hb0
        have hsz := hW.lt rb hW.1
        have hne : rb ≠ W.heap.size := by omega
        have HWC := Lib.hid hW
        have HFW := Lib.hid (HF5.out.trans hFW (fun g hg => .inl hg))
        have hLD := HLD.out
        clear hS3 hb0 hW hFW hKW
        go_wp2_with (at_builtin; refine wpList_appG elemKn rfl _ _ rfl W.heap.size (some ⟨W.heap.size, 0, none⟩) 0 0 [] rfl (own_empty W) A5 k c5 (L1.take k) ?hx7 HS1.out HN1.out (by omega) HB0.out.size ?hk7)
        (try case hx7 => rfl)
        case hk7 =>
          intro A2 c2 w1 hv1 hb1
          have hB1 := HB0.out.trans hb1
          have hb1a : Below w1.heap.size w1 (w1.alloc (.cells #[.int .i64 id, .int .i64 st] 92)) := (Below.refl _ w1).alloc (Nat.le_refl _) _
          have HV1 := Lib.hid (own_later hv1 hb1a)
          have HB1 := Lib.hid (hB1.trans (hb1a.mono hB1.size))
          have k2 := keep1 m1 hB1
          have hne1 : rb ≠ w1.heap.size := by have := hB1.size; omega
          have HS2 := Lib.hid (sl_kn (heap_alloc_new w1 (.cells #[.int .i64 id, .int .i64 st] 92)))
          clear hv1 hb1 hB1 hb1a
          go_wp2_with (at_builtin; refine wpList_appG elemKn rfl _ _ rfl W.heap.size A2 k c2 (L1.take k) ?hx8 HV1.out (some ⟨w1.heap.size, 0, none⟩) 1 1 [(id, st)] ?hy5 HS2.out (fun e => by cases e) (by omega) HB1.out.size ?hk8)
          (try case hx8 => rfl)
          (try case hy5 => rfl)
          case hk8 =>
            intro A4 c4 w2 hv2 hb2
            have hB2 := HB1.out.trans hb2
            have k3 := keep1 m1 hB2
            have hv2' : w2.ownsRow W.heap.size 92 2 (.slice A4 (k + 1) c4) (k + 1) ((L1.take k ++ [(id, st)]).flatMap encKn) := by rw [List.flatMap_append]; simpa using hv2
            have HV2 := Lib.hid hv2'; have HB2 := Lib.hid hB2
            have HS4 := Lib.hid ((HS3.out.sl HWC.out.lt).belowMore hB2 hB2.size)
            clear hv2 hv2' hb2 hB2
            go_wp2_with (at_builtin; refine wpList_appG elemKn rfl _ _ rfl W.heap.size A4 (k + 1) c4 (L1.take k ++ [(id, st)]) ?hx9 HV2.out A3 n3 c3 (L1.drop k) ?hy6 HS4.out HN3.out (by omega) HB2.out.size ?hk9)
            (try case hx9 => rfl)
            case hy6 => first | rfl | (simp; trace_state; sorry)
            case hk9 =>
              intro A6 c6 w3 hv3 hb3
              have hB3 := HB2.out.trans hb3
              have k4 := keep1 m1 hB3
              have fz := (HWC.out.below hB3).frozen
              have hv3' : w3.ownsRow W.heap.size 92 2 (.slice A6 (k + 1 + n3) c6) (k + 1 + n3) ((L1.take k ++ [(id, st)] ++ L1.drop k).flatMap encKn) := by rw [List.flatMap_append, List.flatMap_append]; simpa using hv3
              have HZ := Lib.hid (HWC.out.set hB3 hv3' (by rw [List.length_append, List.length_append, List.length_take, List.length_drop]; simp; omega) (fun y hy => by
                rcases List.mem_append.1 hy with hy | hy
                · rcases List.mem_append.1 hy with hy | hy
                  · exact HWC.out.2.2.1 y (List.mem_of_mem_take hy)
                  · rw [List.mem_singleton.1 hy]; exact HW.out
                · exact HWC.out.2.2.1 y (List.mem_of_mem_drop hy)))
              clear hv3 hv3' hb3 hB3
              go_wp2_with fail
              go_ret
              exact ⟨_, ⟨rfl, ⟨_, HZ.out.1.choose_spec.1, fun g hg => (HZ.out.1.choose_spec.2 g hg).elim (fun h => HS5.out g h) (fun h => .inr (Nat.le_trans HFW.out.size h))⟩, HFW.out.trans HZ.out.2 (fun g hg => .inl hg)⟩, HPUT.out k HAT.out⟩
  · skip
    go_wp2_with fail
    refine (refDrop_any tick L rb ro id _ (H.out.fr (Fr.drewN [] w nq) (by simp)) HOL.out (Nat.le_trans HL.out (by decide))).mono ?_
    rintro e w5 ⟨rfl, ⟨ro5, hC5, hs5⟩, hf5⟩
    have HLD := Lib.hid (show (dropK L id).length ≤ 1048576 from Nat.le_trans (List.length_filter_le ..) HL.out)
    have HNE := Lib.hid (show ∀ y ∈ dropK L id, y.1 ≠ id from fun y hy => drop_ne y hy)
    have HPUT := Lib.hid (fun k (hk : AtK (dropK L id) (id, st) k) => HR.out.put HG.out hk)
    have HC5 := Lib.hid hC5; have HS5 := Lib.hid hs5
    have HF5 := Lib.hid ((Fr.drewN [rb] w nq).trans hf5 (fun g hg => .inl hg))
    clear hC5 hs5 hf5
    generalize dropK L id = L1 at *
    generalize (getK L id).isSome = dd at *
    go_wp2_with fail
    go_loopw [11] (fun j wr => ∃ (k q : Nat), j = .int .i64 ↑k ∧ k ≤ L1.length ∧ (∀ j, j < k → ltK L1[j]! (id, st)) ∧ wr = w5.drewN q) (fun j _ => L1.length - (RowKit.intOf j).toNat)
    case atStart => exact ⟨0, 0, rfl, by omega, fun j hj => absurd hj (by omega), rfl⟩
    case round =>
      obtain ⟨k, q5, rfl, hk, hall, rfl⟩ := hrel
      have HA := Lib.hid hall; clear hall
      obtain ⟨A5, c5, m0, m1, hK5⟩ := HC5.out.cells
      have HK5 := Lib.hid hK5
      by_cases hlt : k < L1.length
      · obtain ⟨b5, off5, hA5, _, x0, x1⟩ := hK5.at_ hlt
        have hk2 : ((k : Nat) : Int) < (L1.length : Int) := by omega
        clear hK5
        by_cases hl1 : ltK L1[k]! (id, st)
        · have HA1 := Lib.hid (show ∀ j, j < k + 1 → ltK L1[j]! (id, st) from fun j hj => by rcases Nat.lt_succ_iff_lt_or_eq.1 hj with h | rfl; exact HA.out j h; exact hl1)
          unfold ltK at hl1
          simp only at hl1
          subst hA5
          have hLD := HLD.out
          generalize L1[k]!.2 = x2 at *
          generalize L1[k]!.1 = x3 at *
          rcases hl1 with hl1 | ⟨rfl, hl1⟩
          · go_wp2_with fail
            go_roundw
            case rel => exact ⟨k + 1, q5, by go_num, by omega, HA1.out, by first | rfl | trivial⟩
            case measure => simp [RowKit.intOf]; omega
          · have hl2 : ¬ x2 < x2 := by omega
            go_wp2_with fail
            go_roundw
            case rel => exact ⟨k + 1, q5, by go_num, by omega, HA1.out, by first | rfl | trivial⟩
            case measure => simp [RowKit.intOf]; omega
        · have HAT := Lib.hid (show AtK L1 (id, st) k from ⟨hk, HA.out, .inr ⟨hlt, hl1⟩⟩)
          unfold ltK at hl1
          simp only at hl1
          obtain ⟨L0, HL0⟩ : ∃ v : Value, v = .slice A5 L1.length c5 := ⟨_, rfl⟩
          generalize L1[k]!.2 = x2 at *
          generalize L1[k]!.1 = x3 at *
          have hxx : (¬ x2 < st ∧ (x2 == st) = false) ∨ (¬ x2 < st ∧ (x2 == st) = true ∧ ¬ x3 < id) := by
            by_cases e : x2 = st
            · exact .inr ⟨by omega, by simpa using e, by omega⟩
            · exact .inl ⟨by omega, by simpa using e⟩
          clear hl1
          subst hA5
          rcases hxx with ⟨hl1, hl2⟩ | ⟨hl1, hl2, hl3⟩
          · have hW := HC5.out.fr (Fr.drewN [] w5 q5) (by simp)
            have hFW : Fr [rb] w5 (w5.drewN q5) := Fr.drewN _ _ _
            have m1 : (w5.drewN q5).cell? ⟨rb, 1, none⟩ = some (.slice (some (Addr.mk b5 off5 none)) L1.length c5) := m1
            (try have x0 : (w5.drewN q5).cell? ⟨b5, off5 + k * 2, none⟩ = _ := x0)
            (try have x1 : (w5.drewN q5).cell? ⟨b5, off5 + k * 2 + 1, none⟩ = _ := x1)
            have hKW : KnS (w5.drewN q5) rb ro5 (some (Addr.mk b5 off5 none)) L1.length c5 L1 := HK5.out
            have hcap := hKW.cap
            have hSZ : w5.heap.size = (w5.drewN q5).heap.size := rfl
            generalize w5.drewN q5 = W at *
            have hS3 := hKW.from hk
            have hsl := slice_from (some (Addr.mk b5 off5 none)) L1.length c5 k hk
            generalize (if c5 = k then (some (Addr.mk b5 off5 none)) else ((some (Addr.mk b5 off5 none))).map (·.add (k * 2))) = A3 at hS3 hsl
            generalize hn3 : L1.length - k = n3 at hS3 hsl
            generalize c5 - k = c3 at hS3 hsl
            have HS3 := Lib.hid hS3
            have HN3 := Lib.hid (show A3 = none → n3 = 0 ∧ c3 = 0 from fun e => by subst e; exact hS3.nil_cap)
            have hb0 : Below W.heap.size W (W.alloc (.cells #[] 92)) := (Below.refl _ W).alloc (Nat.le_refl _) _
            have HS1 := Lib.hid (((hKW.upto hk).sl hW.lt).belowMore hb0 hb0.size)
            have HN1 := Lib.hid (show (some (Addr.mk b5 off5 none)) = none → k = 0 ∧ c5 = 0 from fun e => by first | (cases e; done) | (subst e; have := (hKW.upto hk).nil_cap; exact this))
            have HB0 := Lib.hid hb0
            have hsz := hW.lt rb hW.1
            have hne : rb ≠ W.heap.size := by omega
            have HWC := Lib.hid hW
            have HFW := Lib.hid (HF5.out.trans hFW (fun g hg => .inl hg))
            have hLD := HLD.out
            clear hS3 hb0 hW hFW hKW
            go_wp2_with (at_builtin; refine wpList_appG elemKn rfl _ _ rfl W.heap.size (some ⟨W.heap.size, 0, none⟩) 0 0 [] rfl (own_empty W) (some (Addr.mk b5 off5 none)) k c5 (L1.take k) ?hx10 HS1.out HN1.out (by omega) HB0.out.size ?hk10)
            (try case hx10 => rfl)
            case hk10 =>
              intro A2 c2 w1 hv1 hb1
              have hB1 := HB0.out.trans hb1
              have hb1a : Below w1.heap.size w1 (w1.alloc (.cells #[.int .i64 id, .int .i64 st] 92)) := (Below.refl _ w1).alloc (Nat.le_refl _) _
              have HV1 := Lib.hid (own_later hv1 hb1a)
              have HB1 := Lib.hid (hB1.trans (hb1a.mono hB1.size))
              have k2 := keep1 m1 hB1
              have hne1 : rb ≠ w1.heap.size := by have := hB1.size; omega
              have HS2 := Lib.hid (sl_kn (heap_alloc_new w1 (.cells #[.int .i64 id, .int .i64 st] 92)))
              clear hv1 hb1 hB1 hb1a
              go_wp2_with (at_builtin; refine wpList_appG elemKn rfl _ _ rfl W.heap.size A2 k c2 (L1.take k) ?hx11 HV1.out (some ⟨w1.heap.size, 0, none⟩) 1 1 [(id, st)] ?hy7 HS2.out (fun e => by cases e) (by omega) HB1.out.size ?hk11)
              (try case hx11 => rfl)
              (try case hy7 => rfl)
              case hk11 =>
                intro A4 c4 w2 hv2 hb2
                have hB2 := HB1.out.trans hb2
                have k3 := keep1 m1 hB2
                have hv2' : w2.ownsRow W.heap.size 92 2 (.slice A4 (k + 1) c4) (k + 1) ((L1.take k ++ [(id, st)]).flatMap encKn) := by rw [List.flatMap_append]; simpa using hv2
                have HV2 := Lib.hid hv2'; have HB2 := Lib.hid hB2
                have HS4 := Lib.hid ((HS3.out.sl HWC.out.lt).belowMore hB2 hB2.size)
                clear hv2 hv2' hb2 hB2
                go_wp2_with (at_builtin; refine wpList_appG elemKn rfl _ _ rfl W.heap.size A4 (k + 1) c4 (L1.take k ++ [(id, st)]) ?hx12 HV2.out A3 n3 c3 (L1.drop k) ?hy8 HS4.out HN3.out (by omega) HB2.out.size ?hk12)
                (try case hx12 => rfl)
                case hy8 => first | rfl | (simp; trace_state; sorry)
                case hk12 =>
                  intro A6 c6 w3 hv3 hb3
                  have hB3 := HB2.out.trans hb3
                  have k4 := keep1 m1 hB3
                  have fz := (HWC.out.below hB3).frozen
                  have hv3' : w3.ownsRow W.heap.size 92 2 (.slice A6 (k + 1 + n3) c6) (k + 1 + n3) ((L1.take k ++ [(id, st)] ++ L1.drop k).flatMap encKn) := by rw [List.flatMap_append, List.flatMap_append]; simpa using hv3
                  have HZ := Lib.hid (HWC.out.set hB3 hv3' (by rw [List.length_append, List.length_append, List.length_take, List.length_drop]; simp; omega) (fun y hy => by
                    rcases List.mem_append.1 hy with hy | hy
                    · rcases List.mem_append.1 hy with hy | hy
                      · exact HWC.out.2.2.1 y (List.mem_of_mem_take hy)
                      · rw [List.mem_singleton.1 hy]; exact HW.out
                    · exact HWC.out.2.2.1 y (List.mem_of_mem_drop hy)))
                  clear hv3 hv3' hb3 hB3
                  go_wp2_with fail
                  go_ret
                  exact ⟨_, ⟨rfl, ⟨_, HZ.out.1.choose_spec.1, fun g hg => (HZ.out.1.choose_spec.2 g hg).elim (fun h => HS5.out g h) (fun h => .inr (Nat.le_trans HFW.out.size h))⟩, HFW.out.trans HZ.out.2 (fun g hg => .inl hg)⟩, HPUT.out k HAT.out⟩
          · have hW := HC5.out.fr (Fr.drewN [] w5 q5) (by simp)
            have hFW : Fr [rb] w5 (w5.drewN q5) := Fr.drewN _ _ _
            have m1 : (w5.drewN q5).cell? ⟨rb, 1, none⟩ = some (.slice (some (Addr.mk b5 off5 none)) L1.length c5) := m1
            (try have x0 : (w5.drewN q5).cell? ⟨b5, off5 + k * 2, none⟩ = _ := x0)
            (try have x1 : (w5.drewN q5).cell? ⟨b5, off5 + k * 2 + 1, none⟩ = _ := x1)
            have hKW : KnS (w5.drewN q5) rb ro5 (some (Addr.mk b5 off5 none)) L1.length c5 L1 := HK5.out
            have hcap := hKW.cap
            have hSZ : w5.heap.size = (w5.drewN q5).heap.size := rfl
            generalize w5.drewN q5 = W at *
            have hS3 := hKW.from hk
            have hsl := slice_from (some (Addr.mk b5 off5 none)) L1.length c5 k hk
            generalize (if c5 = k then (some (Addr.mk b5 off5 none)) else ((some (Addr.mk b5 off5 none))).map (·.add (k * 2))) = A3 at hS3 hsl
            generalize hn3 : L1.length - k = n3 at hS3 hsl
            generalize c5 - k = c3 at hS3 hsl
            have HS3 := Lib.hid hS3
            have HN3 := Lib.hid (show A3 = none → n3 = 0 ∧ c3 = 0 from fun e => by subst e; exact hS3.nil_cap)
            have hb0 : Below W.heap.size W (W.alloc (.cells #[] 92)) := (Below.refl _ W).alloc (Nat.le_refl _) _
            have HS1 := Lib.hid (((hKW.upto hk).sl hW.lt).belowMore hb0 hb0.size)
            have HN1 := Lib.hid (show (some (Addr.mk b5 off5 none)) = none → k = 0 ∧ c5 = 0 from fun e => by first | (cases e; done) | (subst e; have := (hKW.upto hk).nil_cap; exact this))
            have HB0 := Lib.hid hb0
            have hsz := hW.lt rb hW.1
            have hne : rb ≠ W.heap.size := by omega
            have HWC := Lib.hid hW
            have HFW := Lib.hid (HF5.out.trans hFW (fun g hg => .inl hg))
            have hLD := HLD.out
            clear hS3 hb0 hW hFW hKW
            go_wp2_with (at_builtin; refine wpList_appG elemKn rfl _ _ rfl W.heap.size (some ⟨W.heap.size, 0, none⟩) 0 0 [] rfl (own_empty W) (some (Addr.mk b5 off5 none)) k c5 (L1.take k) ?hx13 HS1.out HN1.out (by omega) HB0.out.size ?hk13)
            (try case hx13 => rfl)
            case hk13 =>
              intro A2 c2 w1 hv1 hb1
              have hB1 := HB0.out.trans hb1
              have hb1a : Below w1.heap.size w1 (w1.alloc (.cells #[.int .i64 id, .int .i64 st] 92)) := (Below.refl _ w1).alloc (Nat.le_refl _) _
              have HV1 := Lib.hid (own_later hv1 hb1a)
              have HB1 := Lib.hid (hB1.trans (hb1a.mono hB1.size))
              have k2 := keep1 m1 hB1
              have hne1 : rb ≠ w1.heap.size := by have := hB1.size; omega
              have HS2 := Lib.hid (sl_kn (heap_alloc_new w1 (.cells #[.int .i64 id, .int .i64 st] 92)))
              clear hv1 hb1 hB1 hb1a
              go_wp2_with (at_builtin; refine wpList_appG elemKn rfl _ _ rfl W.heap.size A2 k c2 (L1.take k) ?hx14 HV1.out (some ⟨w1.heap.size, 0, none⟩) 1 1 [(id, st)] ?hy9 HS2.out (fun e => by cases e) (by omega) HB1.out.size ?hk14)
              (try case hx14 => rfl)
              (try case hy9 => rfl)
              case hk14 =>
                intro A4 c4 w2 hv2 hb2
                have hB2 := HB1.out.trans hb2
                have k3 := keep1 m1 hB2
                have hv2' : w2.ownsRow W.heap.size 92 2 (.slice A4 (k + 1) c4) (k + 1) ((L1.take k ++ [(id, st)]).flatMap encKn) := by rw [List.flatMap_append]; simpa using hv2
                have HV2 := Lib.hid hv2'; have HB2 := Lib.hid hB2
                have HS4 := Lib.hid ((HS3.out.sl HWC.out.lt).belowMore hB2 hB2.size)
                clear hv2 hv2' hb2 hB2
                go_wp2_with (at_builtin; refine wpList_appG elemKn rfl _ _ rfl W.heap.size A4 (k + 1) c4 (L1.take k ++ [(id, st)]) ?hx15 HV2.out A3 n3 c3 (L1.drop k) ?hy10 HS4.out HN3.out (by omega) HB2.out.size ?hk15)
                (try case hx15 => rfl)
                case hy10 => first | rfl | (simp; trace_state; sorry)
                case hk15 =>
                  intro A6 c6 w3 hv3 hb3
                  have hB3 := HB2.out.trans hb3
                  have k4 := keep1 m1 hB3
                  have fz := (HWC.out.below hB3).frozen
                  have hv3' : w3.ownsRow W.heap.size 92 2 (.slice A6 (k + 1 + n3) c6) (k + 1 + n3) ((L1.take k ++ [(id, st)] ++ L1.drop k).flatMap encKn) := by rw [List.flatMap_append, List.flatMap_append]; simpa using hv3
                  have HZ := Lib.hid (HWC.out.set hB3 hv3' (by rw [List.length_append, List.length_append, List.length_take, List.length_drop]; simp; omega) (fun y hy => by
                    rcases List.mem_append.1 hy with hy | hy
                    · rcases List.mem_append.1 hy with hy | hy
                      · exact HWC.out.2.2.1 y (List.mem_of_mem_take hy)
                      · rw [List.mem_singleton.1 hy]; exact HW.out
                    · exact HWC.out.2.2.1 y (List.mem_of_mem_drop hy)))
                  clear hv3 hv3' hb3 hB3
                  go_wp2_with fail
                  go_ret
                  exact ⟨_, ⟨rfl, ⟨_, HZ.out.1.choose_spec.1, fun g hg => (HZ.out.1.choose_spec.2 g hg).elim (fun h => HS5.out g h) (fun h => .inr (Nat.le_trans HFW.out.size h))⟩, HFW.out.trans HZ.out.2 (fun g hg => .inl hg)⟩, HPUT.out k HAT.out⟩
      · have HAT := Lib.hid (show AtK L1 (id, st) k from ⟨hk, HA.out, .inl (by omega)⟩)
        have hk2 : ¬ ((k : Nat) : Int) < (L1.length : Int) := by omega
        have hW := HC5.out.fr (Fr.drewN [] w5 q5) (by simp)
        have hFW : Fr [rb] w5 (w5.drewN q5) := Fr.drewN _ _ _
        have m1 : (w5.drewN q5).cell? ⟨rb, 1, none⟩ = some (.slice A5 L1.length c5) := m1
        (try have x0 : (w5.drewN q5).cell? ⟨b5, off5 + k * 2, none⟩ = _ := x0)
        (try have x1 : (w5.drewN q5).cell? ⟨b5, off5 + k * 2 + 1, none⟩ = _ := x1)
        have hKW : KnS (w5.drewN q5) rb ro5 A5 L1.length c5 L1 := HK5.out
        have hcap := hKW.cap
        have hSZ : w5.heap.size = (w5.drewN q5).heap.size := rfl
        generalize w5.drewN q5 = W at *
        have hS3 := hKW.from hk
        have hsl := slice_from A5 L1.length c5 k hk
        generalize (if c5 = k then A5 else (A5).map (·.add (k * 2))) = A3 at hS3 hsl
        generalize hn3 : L1.length - k = n3 at hS3 hsl
        generalize c5 - k = c3 at hS3 hsl
        have HS3 := Lib.hid hS3
        have HN3 := Lib.hid (show A3 = none → n3 = 0 ∧ c3 = 0 from fun e => by subst e; exact hS3.nil_cap)
        have hb0 : Below W.heap.size W (W.alloc (.cells #[] 92)) := (Below.refl _ W).alloc (Nat.le_refl _) _
        have HS1 := Lib.hid (((hKW.upto hk).sl hW.lt).belowMore hb0 hb0.size)
        have HN1 := Lib.hid (show A5 = none → k = 0 ∧ c5 = 0 from fun e => by first | (cases e; done) | (subst e; have := (hKW.upto hk).nil_cap; exact this))
        have HB0 := Lib.hid hb0
        have hsz := hW.lt rb hW.1
        have hne : rb ≠ W.heap.size := by omega
        have HWC := Lib.hid hW
        have HFW := Lib.hid (HF5.out.trans hFW (fun g hg => .inl hg))
        have hLD := HLD.out
        clear hS3 hb0 hW hFW hKW
        go_wp2_with (at_builtin; refine wpList_appG elemKn rfl _ _ rfl W.heap.size (some ⟨W.heap.size, 0, none⟩) 0 0 [] rfl (own_empty W) A5 k c5 (L1.take k) ?hx16 HS1.out HN1.out (by omega) HB0.out.size ?hk16)
        (try case hx16 => rfl)
        case hk16 =>
          intro A2 c2 w1 hv1 hb1
          have hB1 := HB0.out.trans hb1
          have hb1a : Below w1.heap.size w1 (w1.alloc (.cells #[.int .i64 id, .int .i64 st] 92)) := (Below.refl _ w1).alloc (Nat.le_refl _) _
          have HV1 := Lib.hid (own_later hv1 hb1a)
          have HB1 := Lib.hid (hB1.trans (hb1a.mono hB1.size))
          have k2 := keep1 m1 hB1
          have hne1 : rb ≠ w1.heap.size := by have := hB1.size; omega
          have HS2 := Lib.hid (sl_kn (heap_alloc_new w1 (.cells #[.int .i64 id, .int .i64 st] 92)))
          clear hv1 hb1 hB1 hb1a
          go_wp2_with (at_builtin; refine wpList_appG elemKn rfl _ _ rfl W.heap.size A2 k c2 (L1.take k) ?hx17 HV1.out (some ⟨w1.heap.size, 0, none⟩) 1 1 [(id, st)] ?hy11 HS2.out (fun e => by cases e) (by omega) HB1.out.size ?hk17)
          (try case hx17 => rfl)
          (try case hy11 => rfl)
          case hk17 =>
            intro A4 c4 w2 hv2 hb2
            have hB2 := HB1.out.trans hb2
            have k3 := keep1 m1 hB2
            have hv2' : w2.ownsRow W.heap.size 92 2 (.slice A4 (k + 1) c4) (k + 1) ((L1.take k ++ [(id, st)]).flatMap encKn) := by rw [List.flatMap_append]; simpa using hv2
            have HV2 := Lib.hid hv2'; have HB2 := Lib.hid hB2
            have HS4 := Lib.hid ((HS3.out.sl HWC.out.lt).belowMore hB2 hB2.size)
            clear hv2 hv2' hb2 hB2
            go_wp2_with (at_builtin; refine wpList_appG elemKn rfl _ _ rfl W.heap.size A4 (k + 1) c4 (L1.take k ++ [(id, st)]) ?hx18 HV2.out A3 n3 c3 (L1.drop k) ?hy12 HS4.out HN3.out (by omega) HB2.out.size ?hk18)
            (try case hx18 => rfl)
            case hy12 => first | rfl | (simp; trace_state; sorry)
            case hk18 =>
              intro A6 c6 w3 hv3 hb3
              have hB3 := HB2.out.trans hb3
              have k4 := keep1 m1 hB3
              have fz := (HWC.out.below hB3).frozen
              have hv3' : w3.ownsRow W.heap.size 92 2 (.slice A6 (k + 1 + n3) c6) (k + 1 + n3) ((L1.take k ++ [(id, st)] ++ L1.drop k).flatMap encKn) := by rw [List.flatMap_append, List.flatMap_append]; simpa using hv3
              have HZ := Lib.hid (HWC.out.set hB3 hv3' (by rw [List.length_append, List.length_append, List.length_take, List.length_drop]; simp; omega) (fun y hy => by
                rcases List.mem_append.1 hy with hy | hy
                · rcases List.mem_append.1 hy with hy | hy
                  · exact HWC.out.2.2.1 y (List.mem_of_mem_take hy)
                  · rw [List.mem_singleton.1 hy]; exact HW.out
                · exact HWC.out.2.2.1 y (List.mem_of_mem_drop hy)))
              clear hv3 hv3' hb3 hB3
              go_wp2_with fail
              go_ret
              exact ⟨_, ⟨rfl, ⟨_, HZ.out.1.choose_spec.1, fun g hg => (HZ.out.1.choose_spec.2 g hg).elim (fun h => HS5.out g h) (fun h => .inr (Nat.le_trans HFW.out.size h))⟩, HFW.out.trans HZ.out.2 (fun g hg => .inl hg)⟩, HPUT.out k HAT.out⟩
end Go.Proofs.YtfnigjeklcagnaaGreatDoor
