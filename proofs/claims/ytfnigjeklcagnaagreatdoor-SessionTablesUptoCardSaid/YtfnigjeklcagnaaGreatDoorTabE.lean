/- The walk of a table's Equal. Condition: fewer than 2^20 sessions. -/
import Derived.Test.YtfnigjeklcagnaaGreatDoorTabA
import Derived.Test.YtfnigjeklcagnaaGreatDoorTabC
import Derived.Test.YtfnigjeklcagnaaGreatDoorMapR
namespace Go.Proofs.YtfnigjeklcagnaaGreatDoor
open Go.RowKit Go.MapKept Go.Maps
open Classical in
set_option maxRecDepth 100000 in
set_option maxHeartbeats 2000000 in
theorem eqSes_any (i tm : Int) (A : Option Addr) (n c : Nat) (l : List IdV) (i2 t2 : Int) (A2 : Option Addr) (n2 c2 : Nat) (l2 : List IdV) (w : World) (hz : Sl w w.heap.size encId 2 A n l) (hz2 : Sl w w.heap.size encId 2 A2 n2 l2) (hn : n ≤ 1048576) (hn2 : n2 ≤ 1048576) :
    Calls Tryz.prog 50 #[.agg #[.int .i64 i, .int .i32 tm, .slice A n c], .agg #[.int .i64 i2, .int .i32 t2, .slice A2 n2 c2]] w (RetB w (decide ((i, tm, l) = (i2, t2, l2)))) := by
  have hb1 : Below w.heap.size w (w.alloc (.cells #[.int .i64 i, .int .i32 tm, .slice A n c] 56)) := (Below.refl _ w).alloc (Nat.le_refl _) _
  have hb0 : Below w.heap.size w ((w.alloc (.cells #[.int .i64 i, .int .i32 tm, .slice A n c] 56)).alloc (.cells #[.int .i64 i2, .int .i32 t2, .slice A2 n2 c2] 56)) := hb1.alloc hb1.size _
  by_cases e1 : i = i2
  · subst e1
    by_cases e2 : tm = t2
    · subst e2
      have cE := slEqualId_any A A2 n n2 c c2 l l2 _ w.heap.size (hz.below hb0) (hz2.below hb0) (Nat.le_trans hn (by decide)) (Nat.le_trans hn2 (by decide))
      have hd : decide ((i, tm, l) = (i, tm, l2)) = decide (l = l2) := decide_eq_decide.2 ⟨fun e => by injection e with _ e; injection e, fun e => by rw [e]⟩
      rw [hd]
      generalize decide (l = l2) = b at *
      have HB := Lib.hid hb0
      clear hb0 hb1 hz hz2
      go_enter Tryz.func50, Tryz.ntmps50
      go_wp2_with fail
      refine cE.mono ?_
      rintro e w' ⟨rfl, q, rfl⟩
      go_wp2
      go_ret
      exact RetB.mk (drewN_below HB.out q) rfl
    · have hd : decide ((i, tm, l) = (i, t2, l2)) = false := decide_eq_false fun e => e2 (by injection e with _ e; injection e)
      rw [hd]
      have HB := Lib.hid hb0
      clear hb0 hb1 hz hz2 hd
      go_enter Tryz.func50, Tryz.ntmps50
      go_wp2_with fail
      go_ret
      exact RetB.mk HB.out rfl
  · have hd : decide ((i, tm, l) = (i2, t2, l2)) = false := decide_eq_false fun e => e1 (by injection e)
    rw [hd]
    have HB := Lib.hid hb0
    clear hb0 hb1 hz hz2 hd
    go_enter Tryz.func50, Tryz.ntmps50
    go_wp2_with fail
    go_ret
    exact RetB.mk HB.out rfl
open Classical in
theorem perm_sub {α : Type} : ∀ {T U : List α}, T.Nodup → (∀ p ∈ T, p ∈ U) → U.length ≤ T.length → T.Perm U
  | [], U, _, _, h => by
    have : U = [] := List.length_eq_zero_iff.1 (by simpa using h)
    rw [this]
  | a :: t, U, hn, hs, h => by
    rw [List.nodup_cons] at hn
    have ha : a ∈ U := hs a (List.mem_cons_self ..)
    have hp := List.perm_cons_erase ha
    refine (List.Perm.cons a (perm_sub hn.2 (fun p hp2 => ?_) ?_)).trans hp.symm
    · exact (List.mem_erase_of_ne (show p ≠ a from fun e => hn.1 (e ▸ hp2))).2 (hs p (List.mem_cons_of_mem _ hp2))
    · rw [List.length_erase_of_mem ha]
      rw [List.length_cons] at h
      omega
theorem perm_of {T U : List SesP} (hT : (T.map (·.1)).Nodup) (hl : T.length = U.length) (h : ∀ p ∈ T, p ∈ U) : T.Perm U :=
  perm_sub ((List.pairwise_map.1 hT).imp fun hne e => hne (congrArg (fun p : SesP => p.1) e)) h (by omega)
def EqR (b1 r : Nat) (L : List (Int × Value)) (E1 E2 : List EntV) (w wr : World) : Prop := ∃ left, RgI wr b1 r L left ∧ Below w.heap.size w wr ∧ ∀ e ∈ E1, left e.1.1 = false → toP e ∈ E2.map toP
open Classical in
set_option maxRecDepth 100000 in
set_option maxHeartbeats 2000000 in
theorem equalFunc_any (bt1 bm1 bt2 bm2 : Nat) (E1 E2 : List EntV) (own1 own2 : List Nat) (w : World) (h1 : TabAt w bt1 bm1 E1 own1) (h2 : TabAt w bt2 bm2 E2 own2) :
    Calls Tryz.prog 49 #[.map (some bm1), .map (some bm2), .func (.func 50) #[] #[]] w (RetB w (decide ((E1.map toP).Perm (E2.map toP)))) := by
  obtain ⟨bb, HBB⟩ : ∃ bb, Hid (decide ((E1.map toP).Perm (E2.map toP)) = bb) := ⟨_, Lib.hid rfl⟩
  rw [HBB.out]
  have r1 := h1.map.len Tryz.underlying94 3
  have r2 := h2.map.len Tryz.underlying94 3
  rw [List.length_map] at r1 r2
  have H1 := Lib.hid h1; have H2 := Lib.hid h2
  by_cases hlen : E1.length = E2.length
  · obtain ⟨w', rr, hrg, hb, hsz⟩ := h1.map.range Tryz.underlying94
    have HRG := Lib.hid hrg; have HB := Lib.hid hb
    have hz : ((E1.length : Int) != (E2.length : Int)) = false := by rw [hlen]; simp
    clear h1 h2 hrg hb
    go_enter Tryz.func49, Tryz.ntmps49
    go_wp2_with fail
    go_loopw [7] (fun _ wr => EqR bm1 w.heap.size (E1.map fun e => (e.1.1, entV e)) E1 E2 w wr) (fun _ wr => wr.rangeLeft bm1 w.heap.size)
    case atStart => exact ⟨_, HRG.out, HB.out, fun e _ h => by cases h⟩
    case round =>
      obtain ⟨left, hrg, hb, hall⟩ := hrel
      have HBR := Lib.hid hb; have HALL := Lib.hid hall
      clear hb hall
      rcases hrg.next with ⟨hdone, rn⟩ | ⟨i, v, hm, hli, w2, rn, hrg2, hg2, hs2, hms, ren⟩
      · have HE := Lib.hid (show decide ((E1.map toP).Perm (E2.map toP)) = true from decide_eq_true (perm_of H1.out.one (by rw [List.length_map, List.length_map, hlen]) fun p hp => by
          obtain ⟨e, he, rfl⟩ := List.mem_map.1 hp
          exact HALL.out e he (hdone (e.1.1, entV e) (List.mem_map.2 ⟨e, he, rfl⟩))))
        clear hdone hrg
        go_wp2_with fail
        go_ret
        exact RetB.mk HBR.out (HE.out.symm.trans HBB.out)
      · obtain ⟨e, he, ee⟩ := List.mem_map.1 hm
        injection ee with ee1 ee2
        subst ee1 ee2
        have HRG2 := Lib.hid hrg2
        have hb2 : Below w.heap.size w w2 := HBR.out.grown hg2 HBR.out.size (fun j hj => by injection hj with hj; omega)
        have HB2 := Lib.hid hb2; have HMS := Lib.hid hms; have HE1 := Lib.hid he
        have hS1 := ((H1.out.below hb2).ent e he).ses (H1.out.below hb2).lt
        have HS1 := Lib.hid hS1
        have HIN := Lib.hid (show toP e ∈ E1.map toP from List.mem_map.2 ⟨e, he, rfl⟩)
        obtain ⟨⟨i1, t1, A1, n1, c1⟩, l1⟩ := e
        unfold entV at rn ren
        dsimp only at rn ren
        rcases (H2.out.below hb2).look hS1.1 with ⟨e2, he2, e21, hl⟩ | ⟨hn, hl⟩
        · have HS2 := Lib.hid (((H2.out.below hb2).ent e2 he2).ses (H2.out.below hb2).lt)
          have HIN2 := Lib.hid (show toP e2 ∈ E2.map toP from List.mem_map.2 ⟨e2, he2, rfl⟩)
          have HKEY := Lib.hid e21
          obtain ⟨⟨i2, t2, A2, n2, c2⟩, l2⟩ := e2
          unfold entV at hl
          dsimp only at hl
          have r3 := hl (w2.alloc (.cells #[.int .i64 i1, .int .i32 t1, .slice A1 n1 c1] 56)) (Below.heap_alloc _ _ bm2 (Nat.lt_of_lt_of_le (H2.out.lt bm2 H2.out.bm_) hb2.size))
          clear hl hS1 hb2 hrg hg2 hrg2 hms hm he he2 e21
          have hb3 : Below w2.heap.size w2 ((w2.alloc (.cells #[.int .i64 i1, .int .i32 t1, .slice A1 n1 c1] 56)).alloc (.cells #[.int .i64 i2, .int .i32 t2, .slice A2 n2 c2] 56)) := ((Below.refl _ w2).alloc (Nat.le_refl _) _).alloc (by simp) _
          have HB3 := Lib.hid hb3
          have cE := eqSes_any i1 t1 A1 n1 c1 l1 i2 t2 A2 n2 c2 l2 ((w2.alloc (.cells #[.int .i64 i1, .int .i32 t1, .slice A1 n1 c1] 56)).alloc (.cells #[.int .i64 i2, .int .i32 t2, .slice A2 n2 c2] 56)) (HS1.out.2.2.1.belowMore hb3 hb3.size) (HS2.out.2.2.1.belowMore hb3 hb3.size) HS1.out.2.2.2.2.1 HS2.out.2.2.2.2.1
          clear hb3
          cases hdd : decide ((i1, t1, l1) = (i2, t2, l2))
          case true =>
            rw [hdd] at cE
            have HST := Lib.hid (show ∀ e ∈ E1, (left e.1.1 && decide (e.1.1 ≠ i1)) = false → toP e ∈ E2.map toP from fun e he hf => by
              rw [Bool.and_eq_false_iff] at hf
              rcases hf with hf | hf
              · exact HALL.out e he hf
              · have hk : e.1.1 = i1 := by simpa using hf
                have h3 := fst_inj H1.out.one (show toP e ∈ E1.map toP from List.mem_map.2 ⟨e, he, rfl⟩) HIN.out hk
                rw [h3]
                show ((i1, t1, l1) : SesP) ∈ E2.map toP
                rw [of_decide_eq_true hdd]
                exact HIN2.out)
            clear hdd
            go_wp2_with fail
            refine cE.mono ?_
            rintro e w5 ⟨rfl, hb5⟩
            have hb35 := HB3.out.trans (hb5.mono HB3.out.size)
            have hk1 := hb35.block bm1 (Nat.lt_of_lt_of_le (H1.out.lt bm1 H1.out.bm_) HB2.out.size)
            have hk2 := hb35.block w.heap.size HRG2.out.rlt
            have HRG5 := Lib.hid (HRG2.out.keep hk1 hk2)
            have HM5 := Lib.hid (show w5.rangeLeft bm1 w.heap.size < wr.rangeLeft bm1 w.heap.size by
              have : w5.rangeLeft bm1 w.heap.size = w2.rangeLeft bm1 w.heap.size := by unfold World.rangeLeft; rw [hk1, hk2]
              rw [this]; exact HMS.out)
            have HB5 := Lib.hid (HB2.out.trans (hb35.mono HB2.out.size))
            clear hb5 hb35 hk1 hk2
            go_wp2_with fail
            go_roundw
            case rel => exact ⟨_, HRG5.out, HB5.out, HST.out⟩
            case measure => exact HM5.out
          case false =>
            rw [hdd] at cE
            have HE := Lib.hid (show decide ((E1.map toP).Perm (E2.map toP)) = false from decide_eq_false fun hp => of_decide_eq_false hdd (fst_inj H2.out.one (hp.mem_iff.1 HIN.out) HIN2.out HKEY.out.symm))
            clear hdd
            go_wp2_with fail
            refine cE.mono ?_
            rintro e w5 ⟨rfl, hb5⟩
            have HB5 := Lib.hid (HB2.out.trans ((HB3.out.trans (hb5.mono HB3.out.size)).mono HB2.out.size))
            clear hb5
            go_wp2_with fail
            go_ret
            exact RetB.mk HB5.out (HE.out.symm.trans HBB.out)
        · have HE := Lib.hid (show decide ((E1.map toP).Perm (E2.map toP)) = false from decide_eq_false fun hp => by
            obtain ⟨e, he, ee⟩ := List.mem_map.1 (hp.mem_iff.1 HIN.out)
            exact hn e he (congrArg (fun p : SesP => p.1) ee))
          have r3 := hl (w2.alloc (.cells #[.int .i64 i1, .int .i32 t1, .slice A1 n1 c1] 56)) (Below.heap_alloc _ _ bm2 (Nat.lt_of_lt_of_le (H2.out.lt bm2 H2.out.bm_) hb2.size))
          clear hl hS1 hb2 hrg hg2 hrg2 hms hm he hn
          have HBA := Lib.hid (fun o o' => HB2.out.trans ((((Below.refl _ w2).alloc (Nat.le_refl _) o).alloc (by simp) o').mono HB2.out.size))
          go_wp2_with fail
          go_ret
          exact RetB.mk (HBA.out _ _) (HE.out.symm.trans HBB.out)
  · have HE := Lib.hid (show decide ((E1.map toP).Perm (E2.map toP)) = false from decide_eq_false fun e => hlen (by have := e.length_eq; rwa [List.length_map, List.length_map] at this))
    have hz : ((E1.length : Int) != (E2.length : Int)) = true := bne_iff_ne.2 (by omega)
    clear h1 h2 hlen
    go_enter Tryz.func49, Tryz.ntmps49
    go_wp2_with fail
    go_ret
    exact RetB.mk (Below.refl _ _) (HE.out.symm.trans HBB.out)
open Classical in
set_option maxRecDepth 100000 in
theorem equal_any (bt1 bt2 : Nat) (T U : List SesP) (own1 own2 : List Nat) (w : World) (h1 : Tab w bt1 T own1) (h2 : Tab w bt2 U own2) :
    Calls Tryz.prog 28 #[.pointer (some ⟨bt1, 0, none⟩), .pointer (some ⟨bt2, 0, none⟩)] w (RetB w (decide (T.Perm U))) := by
  obtain ⟨bm1, E1, h1, rfl⟩ := h1
  obtain ⟨bm2, E2, h2, rfl⟩ := h2
  have cE := equalFunc_any bt1 bm1 bt2 bm2 E1 E2 own1 own2 w.drew (h1.below (drew_self w)) (h2.below (drew_self w))
  have k1 : w.cell? ⟨bt1, 0, none⟩ = some (.map (some bm1)) := by rw [cellH h1.cell]; rfl
  have k2 : w.cell? ⟨bt2, 0, none⟩ = some (.map (some bm2)) := by rw [cellH h2.cell]; rfl
  generalize decide ((E1.map toP).Perm (E2.map toP)) = b at *
  clear h1 h2
  go_enter Tryz.func28, Tryz.ntmps28
  go_wp2_with fail
  go_region_with (first | (go_at_call 49; refine cE.mono ?_; rintro e w' ⟨rfl, hb⟩; have HB := Lib.hid ((drew_self w).trans hb); clear hb))
  all_goals (
    go_wp2_with fail
    go_ret
    exact RetB.mk HB.out rfl)
end Go.Proofs.YtfnigjeklcagnaaGreatDoor
