/- The law QueueMeets. Condition: bulk at most 2^20. -/
import Derived.Test.YtbpmmmnphpkdjaaGreatDoorZVto
namespace Go.Proofs.YtbpmmmnphpkdjaaGreatDoor
open Go.RowKit Go.MapKept Go.Maps
theorem wp_appG {α : Type} [Inhabited α] {enc : α → List Value} {ST T : TypeId} {k bs : Nat} {z : Value} (E : Elem enc ST T k bs z) {o : Oper} {a : Act} {K : Act → World → Prop} {Q : Exit → Act → World → Prop} {w : World} (s x : Operand)
    (ho : o.op = .call { callee := .builtin .append, args := #[s, x], argTypes := #[ST, ST] }) (base : Nat) (A : Option Addr) (n c : Nat) (l : List α) (hs : a.eval s = .slice A n c)
    (hown : w.ownsRow base T k (.slice A n c) n (l.flatMap enc)) (A' : Option Addr) (m c' : Nat) (l' : List α) (hx : a.eval x = .slice A' m c') (hsl : Sl w w.heap.size enc k A' m l')
    (hA' : A' = none → m = 0 ∧ c' = 0) (hn : n + m ≤ 16777216) (hbase : base ≤ w.heap.size)
    (h : ∀ A2 c2 w', w'.ownsRow base T k (.slice A2 (n + m) c2) (n + m) ((l ++ l').flatMap enc) → Below base w w' → K (a.put o.dst (.slice A2 (n + m) c2)) w') : Oper.wp Tryz.prog o a w K Q := by
  obtain ⟨i0, hi0, hz0, hz1, hz2⟩ := info_partsI E.info
  cases A' with
  | none =>
    obtain ⟨rfl, rfl⟩ := hA' rfl
    have hl0 : l' = [] := List.length_eq_zero_iff.1 hsl.len
    subst hl0
    have hrun := run_append_owned_none (P := Tryz.prog) (w := w) base ST o.type T i0 k E.under hi0 _ n _ hown
    have h' := h A c w (by rw [List.append_nil]; exact hown) (Below.refl _ _)
    unfold Oper.wp
    simp [execOp, ho, resolve, invoke, builtin, hs, hx, hrun, Result.andThen]
    exact h'
  | some a0 =>
    refine wp_append_own w s x _ ho base T i0 _ k bs E.under hi0 hz0 hz1 hz2 E.size E.pos _ n _ hs hown a0 m c' (l'.flatMap enc) hx (by rw [flat_len E.len, hsl.len]) (Sl.news E.len E.pos hsl) ?_ (by unfold maxLen; omega) ?_ hbase ?_
    · intro u hu
      obtain ⟨x, _, hx⟩ := List.mem_flatMap.1 hu
      exact E.one x u hx
    · have := Nat.mul_le_mul hn E.small
      omega
    · intro v' w' h1 h2 _
      obtain ⟨A2, c2, rfl⟩ := own_formI h1
      refine h A2 c2 w' ?_ (own_belowG hown h2 hbase)
      rw [List.flatMap_append]; exact h1
theorem wpList_appW {α : Type} [Inhabited α] {enc : α → List Value} {ST T : TypeId} {k bs : Nat} {z : Value} (E : Elem enc ST T k bs z) {ops : Array Oper} {rest : List Oper} {o : Oper} {a : Act} {Q : Exit → Act → World → Prop} {w : World} (hw : Region.wanted o (yielded ops a.tmps) = true) (s x : Operand)
    (ho : o.op = .call { callee := .builtin .append, args := #[s, x], argTypes := #[ST, ST] }) (base : Nat) (A : Option Addr) (n c : Nat) (l : List α) (hs : a.eval s = .slice A n c)
    (hown : w.ownsRow base T k (.slice A n c) n (l.flatMap enc)) (A' : Option Addr) (m c' : Nat) (l' : List α) (hx : a.eval x = .slice A' m c') (hsl : Sl w w.heap.size enc k A' m l')
    (hA' : A' = none → m = 0 ∧ c' = 0) (hn : n + m ≤ 16777216) (hbase : base ≤ w.heap.size)
    (h : ∀ A2 c2 w', w'.ownsRow base T k (.slice A2 (n + m) c2) (n + m) ((l ++ l').flatMap enc) → Below base w w' → wpList Tryz.prog ops Q rest (a.put o.dst (.slice A2 (n + m) c2)) w') : wpList Tryz.prog ops Q (o :: rest) a w :=
  wpList_step fun K hK => by
    rw [if_pos hw]
    exact wp_appG E s x ho base A n c l hs hown A' m c' l' hx hsl hA' hn hbase fun A2 c2 w' h1 h2 => hK _ _ (h A2 c2 w' h1 h2)
def Mtch (l : List VtV) (a b : List Int) (i k : Nat) : Prop := a[i]! = b[k]! ∧ 0 ≤ a[i]! ∧ a[i]! < l.length ∧ 0 < l[a[i]!.toNat]!.2
theorem mtch_some {l : List VtV} {a b : List Int} (ha : quorumB l a = true) (hb : quorumB l b = true) : ∃ i, i < a.length ∧ ∃ k, k < b.length ∧ Mtch l a b i k := by
  obtain ⟨m, v, h1, h2, h3, h4⟩ := quorum_meets l a b ha hb
  obtain ⟨i, hi, ei⟩ := List.mem_iff_getElem.1 h3
  obtain ⟨k, hk, ek⟩ := List.mem_iff_getElem.1 h4
  have hm := (List.getElem?_eq_some_iff.1 h1)
  refine ⟨i, hi, k, hk, ?_⟩
  unfold Mtch
  rw [getElem!_pos a i hi, getElem!_pos b k hk, ei, ek]
  refine ⟨rfl, by omega, by have := hm.1; omega, ?_⟩
  rw [Int.toNat_natCast, getElem!_pos l m hm.1, hm.2]; exact h2
set_option maxRecDepth 100000 in
set_option maxHeartbeats 8000000 in
theorem queueMeets_any (A0 : Option Addr) (n0 c0 : Nat) (l0 : List VtV) (A1 : Option Addr) (n1 c1 : Nat) (l1 : List Int) (A2 : Option Addr) (n2 c2 : Nat) (l2 : List Int) (w : World) (hE : Env w) (o0 : Sl w w.heap.size encVt 2 A0 n0 l0) (z0 : n0 ≤ 1048576) (g0 : ∀ v ∈ l0, wfI v.1)
    (o1 : Sl w w.heap.size encN 1 A1 n1 l1) (z1 : n1 ≤ 1048576) (nn1 : A1 = none → n1 = 0 ∧ c1 = 0) (o2 : Sl w w.heap.size encN 1 A2 n2 l2) (z2 : n2 ≤ 1048576) (nn2 : A2 = none → n2 = 0 ∧ c2 = 0) :
    Calls Tryz.prog 4 #[.slice A0 n0 c0, .slice A1 n1 c1, .slice A2 n2 c2] w (RetB w true) := by
  have HO0 := Lib.hid o0; have HO1 := Lib.hid o1; have HO2 := Lib.hid o2; have HG := Lib.hid g0; have HN1 := Lib.hid nn1; have HN2 := Lib.hid nn2
  have HL0 := Lib.hid o0.len; have HL1 := Lib.hid o1.len; have HL2 := Lib.hid o2.len
  have HLV := Lib.hid (liveQuorum_any w hE)
  clear hE o0 o1 o2 g0 nn1 nn2
  go_enter Tryz.func4, Tryz.ntmps4
  go_wp2_with fail
  refine HLV.out.mono ?_
  rintro e w1 ⟨rfl, hb1⟩
  have HB1 := Lib.hid hb1; clear hb1 HLV
  have HM := Lib.hid (mine_any A0 n0 c0 l0 w1 (HO0.out.belowMore HB1.out HB1.out.size) z0)
  go_wp2_with fail
  refine HM.out.mono ?_
  rintro e w2 ⟨⟨A, c, rfl, hr2⟩, hb2⟩
  have HB2 := Lib.hid (HB1.out.trans (hb2.mono HB1.out.size)); have HR2 := Lib.hid hr2
  have HV := Lib.hid (vt_sl hr2 HL0.out)
  clear hb2 hr2 HM
  have HC := Lib.hid (quorum_any A n0 c l0 none 0 0 [] w2 HV.out HG.out Sl.nil_ (by omega))
  rw [quorum_nil] at HC
  go_wp2_with fail
  refine HC.out.mono ?_
  rintro e w3 ⟨rfl, hb3⟩
  have HB23 := Lib.hid hb3; clear hb3 HC
  have HC := Lib.hid (quorum_any A n0 c l0 A1 n1 c1 l1 w3 (HV.out.belowMore HB23.out HB23.out.size) HG.out ((HO1.out.belowMore HB2.out HB2.out.size).belowMore HB23.out HB23.out.size) (by omega))
  generalize hq1 : quorumB l0 l1 = q1 at *
  have HQ1 := Lib.hid hq1; clear hq1
  go_wp2_with fail
  refine HC.out.mono ?_
  rintro e w4 ⟨rfl, hb4⟩
  have HB24 := Lib.hid (HB23.out.trans (hb4.mono HB23.out.size)); clear hb4 HC HB23
  have HC := Lib.hid (quorum_any A n0 c l0 A2 n2 c2 l2 w4 (HV.out.belowMore HB24.out HB24.out.size) HG.out ((HO2.out.belowMore HB2.out HB2.out.size).belowMore HB24.out HB24.out.size) (by omega))
  generalize hq2 : quorumB l0 l2 = q2 at *
  have HQ2 := Lib.hid hq2; clear hq2
  go_wp2_with fail
  refine HC.out.mono ?_
  rintro e w5 ⟨rfl, hb5⟩
  have HB25 := Lib.hid (HB24.out.trans (hb5.mono HB24.out.size)); clear hb5 HC HB24
  by_cases hor : q1 = false ∧ q2 = false
  · obtain ⟨rfl, rfl⟩ := hor
    have HBF := Lib.hid (HB2.out.trans (HB25.out.mono HB2.out.size))
    go_wp2_with fail
    go_ret
    exact RetB.mk HBF.out rfl
  · have HBF := Lib.hid (HB2.out.trans (HB25.out.mono HB2.out.size))
    have HQ3 := Lib.hid (show quorumB l0 (l1 ++ l2) = true from by
      by_cases h : q1 = true
      · exact quorum_mono l0 (fun x hx => List.mem_append_left _ hx) (HQ1.out.trans h)
      · have h2 : q2 = true := by
          cases q1 <;> cases q2 <;> simp_all
        exact quorum_mono l0 (fun x hx => List.mem_append_right _ hx) (HQ2.out.trans h2))
    cases q1 with
    | false =>
      cases q2 with
      | false => exact absurd ⟨rfl, rfl⟩ hor
      | true =>
        clear hor
        have HAL := Lib.hid (show Below w5.heap.size w5 (w5.alloc (.cells #[] 3)) from (Below.refl _ w5).alloc (Nat.le_refl _) _)
        have HSL := Lib.hid ((HO1.out.belowMore HBF.out HBF.out.size).belowMore HAL.out HAL.out.size)
        go_wp2_with (at_builtin; refine wpList_appW elemN (by first | rfl | simp [Region.wanted, yielded]) _ _ rfl w5.heap.size (some ⟨w5.heap.size, 0, none⟩) 0 0 [] rfl (own_empty w5) A1 n1 c1 l1 ?hyI1 HSL.out HN1.out (by omega) HAL.out.size ?hkI1)
        (try case hyI1 => rfl)
        case hkI1 =>
        intro A6 c6 w6 hv6 hb6
        have HV6 := Lib.hid (show w6.ownsRow w5.heap.size 3 1 (.slice A6 n1 c6) n1 (l1.flatMap encN) from by simpa using hv6)
        have HB6 := Lib.hid (show Below w5.heap.size w5 w6 from HAL.out.trans hb6)
        clear hv6 hb6
        have HSL2 := Lib.hid ((HO2.out.belowMore HBF.out HBF.out.size).belowMore HB6.out HB6.out.size)
        go_wp2_with (at_builtin; refine wpList_appW elemN (by first | rfl | simp [Region.wanted, yielded]) _ _ rfl w5.heap.size A6 n1 c6 l1 ?hxJ1 HV6.out A2 n2 c2 l2 ?hyJ1 HSL2.out HN2.out (by omega) HB6.out.size ?hkJ1)
        (try case hxJ1 => rfl)
        (try case hyJ1 => rfl)
        case hkJ1 =>
        intro A7 c7 w7 hv7 hb7
        have HS7 := Lib.hid (show Sl w7 w7.heap.size encN 1 A7 (n1 + n2) (l1 ++ l2) from n_sl (by rw [List.flatMap_append]; exact hv7) (by rw [List.length_append, HL1.out, HL2.out]))
        have HB7 := Lib.hid (show Below w5.heap.size w5 w7 from HB6.out.trans hb7)
        clear hv7 hb7
        have HC := Lib.hid (quorum_any A n0 c l0 A7 (n1 + n2) c7 (l1 ++ l2) w7 ((HV.out.belowMore HB25.out HB25.out.size).belowMore HB7.out HB7.out.size) HG.out HS7.out (by omega))
        rw [HQ3.out] at HC
        go_wp2_with fail
        refine HC.out.mono ?_
        rintro e w8 ⟨rfl, hb8⟩
        have HB8 := Lib.hid (HBF.out.trans ((HB7.out.trans (hb8.mono HB7.out.size)).mono HBF.out.size)); clear hb8 HC
        go_wp2_with fail
        go_ret
        exact RetB.mk HB8.out rfl
    | true =>
      cases q2 with
      | false =>
        clear hor
        have HAL := Lib.hid (show Below w5.heap.size w5 (w5.alloc (.cells #[] 3)) from (Below.refl _ w5).alloc (Nat.le_refl _) _)
        have HSL := Lib.hid ((HO1.out.belowMore HBF.out HBF.out.size).belowMore HAL.out HAL.out.size)
        go_wp2_with (at_builtin; refine wpList_appW elemN (by first | rfl | simp [Region.wanted, yielded]) _ _ rfl w5.heap.size (some ⟨w5.heap.size, 0, none⟩) 0 0 [] rfl (own_empty w5) A1 n1 c1 l1 ?hyI2 HSL.out HN1.out (by omega) HAL.out.size ?hkI2)
        (try case hyI2 => rfl)
        case hkI2 =>
        intro A6 c6 w6 hv6 hb6
        have HV6 := Lib.hid (show w6.ownsRow w5.heap.size 3 1 (.slice A6 n1 c6) n1 (l1.flatMap encN) from by simpa using hv6)
        have HB6 := Lib.hid (show Below w5.heap.size w5 w6 from HAL.out.trans hb6)
        clear hv6 hb6
        have HSL2 := Lib.hid ((HO2.out.belowMore HBF.out HBF.out.size).belowMore HB6.out HB6.out.size)
        go_wp2_with (at_builtin; refine wpList_appW elemN (by first | rfl | simp [Region.wanted, yielded]) _ _ rfl w5.heap.size A6 n1 c6 l1 ?hxJ2 HV6.out A2 n2 c2 l2 ?hyJ2 HSL2.out HN2.out (by omega) HB6.out.size ?hkJ2)
        (try case hxJ2 => rfl)
        (try case hyJ2 => rfl)
        case hkJ2 =>
        intro A7 c7 w7 hv7 hb7
        have HS7 := Lib.hid (show Sl w7 w7.heap.size encN 1 A7 (n1 + n2) (l1 ++ l2) from n_sl (by rw [List.flatMap_append]; exact hv7) (by rw [List.length_append, HL1.out, HL2.out]))
        have HB7 := Lib.hid (show Below w5.heap.size w5 w7 from HB6.out.trans hb7)
        clear hv7 hb7
        have HC := Lib.hid (quorum_any A n0 c l0 A7 (n1 + n2) c7 (l1 ++ l2) w7 ((HV.out.belowMore HB25.out HB25.out.size).belowMore HB7.out HB7.out.size) HG.out HS7.out (by omega))
        rw [HQ3.out] at HC
        go_wp2_with fail
        refine HC.out.mono ?_
        rintro e w8 ⟨rfl, hb8⟩
        have HB8 := Lib.hid (HBF.out.trans ((HB7.out.trans (hb8.mono HB7.out.size)).mono HBF.out.size)); clear hb8 HC
        go_wp2_with fail
        go_ret
        exact RetB.mk HB8.out rfl
      | true =>
        clear hor
        have HAL := Lib.hid (show Below w5.heap.size w5 (w5.alloc (.cells #[] 3)) from (Below.refl _ w5).alloc (Nat.le_refl _) _)
        have HSL := Lib.hid ((HO1.out.belowMore HBF.out HBF.out.size).belowMore HAL.out HAL.out.size)
        go_wp2_with (at_builtin; refine wpList_appW elemN (by first | rfl | simp [Region.wanted, yielded]) _ _ rfl w5.heap.size (some ⟨w5.heap.size, 0, none⟩) 0 0 [] rfl (own_empty w5) A1 n1 c1 l1 ?hyI3 HSL.out HN1.out (by omega) HAL.out.size ?hkI3)
        (try case hyI3 => rfl)
        case hkI3 =>
        intro A6 c6 w6 hv6 hb6
        have HV6 := Lib.hid (show w6.ownsRow w5.heap.size 3 1 (.slice A6 n1 c6) n1 (l1.flatMap encN) from by simpa using hv6)
        have HB6 := Lib.hid (show Below w5.heap.size w5 w6 from HAL.out.trans hb6)
        clear hv6 hb6
        have HSL2 := Lib.hid ((HO2.out.belowMore HBF.out HBF.out.size).belowMore HB6.out HB6.out.size)
        go_wp2_with (at_builtin; refine wpList_appW elemN (by first | rfl | simp [Region.wanted, yielded]) _ _ rfl w5.heap.size A6 n1 c6 l1 ?hxJ3 HV6.out A2 n2 c2 l2 ?hyJ3 HSL2.out HN2.out (by omega) HB6.out.size ?hkJ3)
        (try case hxJ3 => rfl)
        (try case hyJ3 => rfl)
        case hkJ3 =>
        intro A7 c7 w7 hv7 hb7
        have HS7 := Lib.hid (show Sl w7 w7.heap.size encN 1 A7 (n1 + n2) (l1 ++ l2) from n_sl (by rw [List.flatMap_append]; exact hv7) (by rw [List.length_append, HL1.out, HL2.out]))
        have HB7 := Lib.hid (show Below w5.heap.size w5 w7 from HB6.out.trans hb7)
        clear hv7 hb7
        have HC := Lib.hid (quorum_any A n0 c l0 A7 (n1 + n2) c7 (l1 ++ l2) w7 ((HV.out.belowMore HB25.out HB25.out.size).belowMore HB7.out HB7.out.size) HG.out HS7.out (by omega))
        rw [HQ3.out] at HC
        go_wp2_with fail
        refine HC.out.mono ?_
        rintro e w8 ⟨rfl, hb8⟩
        have HB8 := Lib.hid (HBF.out.trans ((HB7.out.trans (hb8.mono HB7.out.size)).mono HBF.out.size)); clear hb8 HC
        have HSOME := Lib.hid (mtch_some HQ1.out HQ2.out)
        have HP0 := Lib.hid (HO0.out.belowMore HB8.out HB8.out.size); have HP1 := Lib.hid (HO1.out.belowMore HB8.out HB8.out.size); have HP2 := Lib.hid (HO2.out.belowMore HB8.out HB8.out.size)
        clear HO0 HO1 HO2 HBF HQ3 HV HAL HSL HSL2 HV6 HB6 HS7 HB7
        go_wp2_with fail
        go_loopw [10] (fun i wr => ∃ j q : Nat, i = .int .i64 ↑j ∧ j ≤ n1 ∧ wr = w8.drewN q ∧ ∀ i', i' < j → ∀ k, k < n2 → ¬ Mtch l0 l1 l2 i' k) (fun i _ => n1 - (intOf i).toNat)
        case atStart => exact ⟨0, 0, rfl, Nat.zero_le _, rfl, fun i' hi => absurd hi (by omega)⟩
        case round =>
        obtain ⟨j, q, rfl, hj, rfl, hno⟩ := hrel
        have HNO := Lib.hid hno; clear hno
        by_cases hlt : j < n1
        · obtain ⟨b, off, eb, _, hcb⟩ := HP1.out.cells hlt
          have HCB := Lib.hid (show w8.cell? ⟨b, off + j, none⟩ = some (.int .i64 l1[j]!) by have := hcb 0 _ rfl; simpa using this)
          clear hcb
          subst eb
          generalize hx : l1[j]! = x at *
          have HX := Lib.hid hx; clear hx
          go_wp2_with fail
          obtain ⟨wo, hwo⟩ : ∃ wo : World, wo = w8.drewN q := ⟨_, rfl⟩
          clear hwo wo
          go_loopw [11] (fun i wr => ∃ k q' : Nat, i = .int .i64 ↑k ∧ k ≤ n2 ∧ wr = w8.drewN q' ∧ ∀ k', k' < k → ¬ Mtch l0 l1 l2 j k') (fun i _ => n2 - (intOf i).toNat)
          case atStart => exact ⟨0, q, rfl, Nat.zero_le _, rfl, fun i' hi => absurd hi (by omega)⟩
          case round =>
            obtain ⟨k, q', rfl, hk, rfl, hnk⟩ := hrel
            have HNK := Lib.hid hnk; clear hnk
            by_cases hlk : k < n2
            · obtain ⟨b2, off2, eb2, _, hcb2⟩ := HP2.out.cells hlk
              have ck : w8.cell? ⟨b2, off2 + k, none⟩ = some (.int .i64 l2[k]!) := by have := hcb2 0 _ rfl; simpa using this
              clear hcb2
              subst eb2
              have cj := HCB.out
              have hji : (j : Int) < (n1 : Int) := by omega
              have hj0 : (0 : Int) ≤ (j : Int) := by omega
              have hki : (k : Int) < (n2 : Int) := by omega
              have hk0 : (0 : Int) ≤ (k : Int) := by omega
              have HND := Lib.hid (show Mtch l0 l1 l2 j k ↔ (x = l2[k]! ∧ 0 ≤ x ∧ x < l0.length ∧ 0 < l0[x.toNat]!.2) from by unfold Mtch; rw [HX.out])
              have HGO := Lib.hid (show ¬ Mtch l0 l1 l2 j k → ∀ k', k' < k + 1 → ¬ Mtch l0 l1 l2 j k' from fun h k' hk' => by
                rcases Nat.lt_succ_iff_lt_or_eq.1 hk' with h3 | rfl
                · exact HNK.out k' h3
                · exact h)
              rw [HL0.out] at HND
              generalize l2[k]! = y at *
              by_cases hxy : x = y
              · subst hxy
                have bxy : (x == x) = true := by simp
                by_cases hx0 : 0 ≤ x
                · have b0 : decide (0 ≤ x) = true := decide_eq_true hx0
                  obtain ⟨m, rfl⟩ : ∃ m : Nat, x = (m : Int) := ⟨x.toNat, by omega⟩
                  by_cases hxn : m < n0
                  · have b1 : decide (m < n0) = true := decide_eq_true hxn
                    obtain ⟨b3, off3, eb3, _, hcb3⟩ := HP0.out.cells hxn
                    have cm : w8.cell? ⟨b3, off3 + m * 2 + 1, none⟩ = some (.int .i64 l0[m]!.2) := hcb3 1 _ rfl
                    have hmi : (m : Int) < (n0 : Int) := by omega
                    clear hcb3
                    subst eb3
                    rw [Int.toNat_natCast] at HND
                    generalize l0[m]!.2 = wt at *
                    by_cases hw : 0 < wt
                    · have bw : decide (0 < wt) = true := decide_eq_true hw
                      clear hw
                      go_wp2_with fail
                      go_quiet (fail)
                      go_wp2_with fail
                      go_ret
                      exact RetB.mk (drewN_below (drewN_below HB8.out _) _) rfl
                    · have bw : decide (0 < wt) = false := decide_eq_false hw
                      have HN2' := Lib.hid (HGO.out (fun h => hw (HND.out.1 h).2.2.2))
                      clear hw
                      go_wp2_with fail
                      go_quiet (fail)
                      go_wp2_with fail
                      go_roundw
                      case rel => exact ⟨k + 1, _, by go_num, by omega, rfl, HN2'.out⟩
                      case measure => simp [intOf]; omega
                  · have b1 : decide (m < n0) = false := decide_eq_false hxn
                    have HN2' := Lib.hid (HGO.out (fun h => by have := (HND.out.1 h).2.2.1; omega))
                    clear hxn
                    go_wp2_with fail
                    go_quiet (fail)
                    go_wp2_with fail
                    go_roundw
                    case rel => exact ⟨k + 1, _, by go_num, by omega, rfl, HN2'.out⟩
                    case measure => simp [intOf]; omega
                · have b0 : decide (0 ≤ x) = false := decide_eq_false hx0
                  have HN2' := Lib.hid (HGO.out (fun h => hx0 (HND.out.1 h).2.1))
                  clear hx0
                  go_wp2_with fail
                  go_quiet (fail)
                  go_wp2_with fail
                  go_roundw
                  case rel => exact ⟨k + 1, _, by go_num, by omega, rfl, HN2'.out⟩
                  case measure => simp [intOf]; omega
              · have bxy : (x == y) = false := by simpa using hxy
                have HN2' := Lib.hid (HGO.out (fun h => hxy (HND.out.1 h).1))
                clear hxy
                go_wp2_with fail
                go_quiet (fail)
                go_wp2_with fail
                go_roundw
                case rel => exact ⟨k + 1, _, by go_num, by omega, rfl, HN2'.out⟩
                case measure => simp [intOf]; omega
            · obtain rfl : k = n2 := by omega
              go_wp2_with fail
              go_roundw
              case rel => exact ⟨j + 1, q', by go_num, by omega, rfl, fun i' hi' => by
                rcases Nat.lt_succ_iff_lt_or_eq.1 hi' with h3 | rfl
                · exact HNO.out i' h3
                · exact HNK.out⟩
              case measure => simp [intOf]; omega
        · exfalso
          obtain ⟨i, hi, k, hk, hm⟩ := HSOME.out
          exact HNO.out i (by have := HL1.out; omega) k (by have := HL2.out; omega) hm
end Go.Proofs.YtbpmmmnphpkdjaaGreatDoor
