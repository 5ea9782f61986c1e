/- The walk of a table's Clone. No condition. -/
import Derived.Test.YtfnigjeklcagnaaGreatDoorTabE
import Derived.Test.YtfnigjeklcagnaaGreatDoorTabC
import Derived.Test.YtfnigjeklcagnaaGreatDoorOpenS2
import Derived.Deep.RegionWith
namespace Go.Proofs.YtfnigjeklcagnaaGreatDoor
open Go.RowKit Go.MapKept Go.Maps
theorem perm_same {T U : List SesP} (hT : (T.map (·.1)).Nodup) (hU : (U.map (·.1)).Nodup) (h : ∀ p, p ∈ T ↔ p ∈ U) : T.Perm U :=
  (List.perm_ext_iff_of_nodup ((List.pairwise_map.1 hT).imp fun hne e => hne (congrArg (fun p : SesP => p.1) e)) ((List.pairwise_map.1 hU).imp fun hne e => hne (congrArg (fun p : SesP => p.1) e))).2 h
def ClR8 (bm r bu : Nat) (E : List EntV) (w wr : World) : Prop := ∃ (left : Int → Bool) (bmu : Nat) (E2 : List EntV) (ownu : List Nat), RgI wr bm r (E.map fun e => (e.1.1, entV e)) left ∧ TabAt wr bu bmu E2 ownu ∧ r ∉ ownu ∧ (∀ g ∈ ownu, w.heap.size ≤ g) ∧ (∀ p : SesP, p ∈ E2.map toP ↔ p ∈ E.map toP ∧ left p.1 = false) ∧ Below w.heap.size w wr
def ClonePostT (T : List SesP) (w : World) (e : Ending) (w' : World) : Prop := (∃ bu ownu T', e = .returned (.pointer (some ⟨bu, 0, none⟩)) ∧ Tab w' bu T' ownu ∧ T'.Perm T ∧ ∀ g ∈ ownu, w.heap.size ≤ g) ∧ Below w.heap.size w w'
set_option maxRecDepth 100000 in
set_option maxHeartbeats 2000000 in
theorem clone_any (bt : Nat) (T : List SesP) (own : List Nat) (w : World) (h : Tab w bt T own) : Calls Tryz.prog 38 #[.pointer (some ⟨bt, 0, none⟩)] w (ClonePostT T w) := by
  obtain ⟨bm, E, h, rfl⟩ := h
  have k0 : w.cell? ⟨bt, 0, none⟩ = some (.map (some bm)) := by rw [cellH h.cell]; rfl
  have HT := Lib.hid h
  clear h
  go_enter Tryz.func38, Tryz.ntmps38
  go_wp2_with fail
  go_at_call 25
  refine (newTab_any _).mono ?_
  rintro e w1 ⟨⟨bu, ownu, rfl, ⟨bmu, Eu, hU, hUe⟩, hown⟩, hb1⟩
  have hE0 : Eu = [] := List.map_eq_nil_iff.1 hUe
  subst hE0
  have hT1 := HT.out.below hb1
  obtain ⟨w2, rr, hrg, hb2, hsz⟩ := hT1.map.range Tryz.underlying94
  have k1 := keep1 k0 hb1
  have HRG := Lib.hid hrg
  have HU := Lib.hid (hU.below hb2)
  have HRN := Lib.hid (show w1.heap.size ∉ ownu from fun hm => by have := hU.lt _ hm; omega)
  have HO := Lib.hid hown
  have HB2 := Lib.hid (hb1.trans (hb2.mono hb1.size))
  have HS1 := Lib.hid hb1.size
  clear hU hown hb1 hb2 hrg hT1 k0 hUe
  go_wp2_with fail
  go_loopw [4] (fun _ wr => ClR8 bm w1.heap.size bu E w wr) (fun _ wr => wr.rangeLeft bm w1.heap.size)
  case atStart => exact ⟨_, bmu, [], ownu, HRG.out, HU.out, HRN.out, HO.out, (fun p => ⟨(fun h => by cases h), (fun h => by cases h.2)⟩), HB2.out⟩
  case round =>
    obtain ⟨left, bmu2, E2, own2, hrg, hU, hrn, hO, hiff, hb⟩ := hrel
    have HB := Lib.hid hb; have HIF := Lib.hid hiff; have HO2 := Lib.hid hO; have HRN2 := Lib.hid hrn
    clear HRG HU HRN HO HB2
    rcases hrg.next with ⟨hdone, rn⟩ | ⟨i, v, hm, hli, w3, rn, hrg3, hg3, hs3, hms, ren⟩
    · have HC := Lib.hid (show ClonePostT (E.map toP) w (.returned (.pointer (some ⟨bu, 0, none⟩))) wr from ⟨⟨bu, own2, E2.map toP, rfl, ⟨bmu2, E2, hU, rfl⟩, perm_same hU.one HT.out.one (fun p => (hiff p).trans ⟨fun h => h.1, fun h => ⟨h, by
        obtain ⟨e, he, rfl⟩ := List.mem_map.1 h
        exact hdone (e.1.1, entV e) (List.mem_map.2 ⟨e, he, rfl⟩)⟩⟩), hO⟩, hb⟩)
      clear hdone hrg hU hb hiff hO
      go_wp2_with fail
      go_ret
      exact HC.out
    · obtain ⟨e, he, ee⟩ := List.mem_map.1 hm
      injection ee with ee1 ee2
      subst ee1 ee2
      have hb3 : Below w.heap.size w w3 := hb.grown hg3 hb.size (fun j hj => by injection hj with hj; have := HS1.out; omega)
      have hU3 := hU.fr (o := [w1.heap.size]) (Fr.of_grown hg3 (by simp)) (fun g hg hm => hrn (by rw [← List.mem_singleton.1 hm]; exact hg))
      have hent := (HT.out.below hb3).ent e he
      have hses := hent.ses (HT.out.below hb3).lt
      have hnew : ∀ e2 ∈ E2, e2.1.1 ≠ e.1.1 := fun e2 he2 hk => by
        have := ((hiff (toP e2)).1 (List.mem_map.2 ⟨e2, he2, rfl⟩)).2
        have e9 : (toP e2).1 = e.1.1 := hk
        rw [e9, hli] at this
        cases this
      have HNEW := Lib.hid hnew
      have HMEM := Lib.hid (show toP e ∈ E.map toP from List.mem_map.2 ⟨e, he, rfl⟩)
      have h16 := hent.2.2.2.2.1
      have hsm := hent.2.2.2.2.2.1
      have hll := hent.2.2.1
      obtain ⟨⟨i, tm, A, n, c⟩, l⟩ := e
      unfold entV at rn ren
      dsimp only at rn ren hli h16 hsm hll
      subst hll
      have hb4 : Below w3.heap.size w3 (w3.alloc (.cells #[.int .i64 i, .int .i32 tm, .slice A l.length c] 56)).drew := ((Below.refl _ w3).alloc (Nat.le_refl _) _).drew
      have hU4 := hU3.below hb4
      have kbu : (w3.alloc (.cells #[.int .i64 i, .int .i32 tm, .slice A l.length c] 56)).drew.cell? ⟨bu, 0, none⟩ = some (.map (some bmu2)) := by rw [cellH hU4.cell]; rfl
      have kbu0 : (w3.alloc (.cells #[.int .i64 i, .int .i32 tm, .slice A l.length c] 56)).cell? ⟨bu, 0, none⟩ = some (.map (some bmu2)) := kbu
      have HU4 := Lib.hid hU4
      have HIFN := Lib.hid (show ∀ (A9 : Option Addr) (c9 : Nat) (p : SesP), p ∈ (E2 ++ [(((i, tm, A9, l.length, c9), l) : EntV)]).map toP ↔ p ∈ E.map toP ∧ (left p.1 && decide (p.1 ≠ i)) = false from fun A9 c9 p => by
        rw [List.map_append, List.mem_append, hiff p]
        constructor
        · rintro (h | h)
          · exact ⟨h.1, by rw [h.2]; rfl⟩
          · have h2 : p = (i, tm, l) := by simpa [toP] using h
            rw [h2]
            exact ⟨HMEM.out, by simp⟩
        · rintro ⟨h1, h2⟩
          rw [Bool.and_eq_false_iff] at h2
          rcases h2 with h2 | h2
          · exact .inl ⟨h1, h2⟩
          · right
            have h3 : p.1 = i := by simpa using h2
            rw [fst_inj HT.out.one h1 HMEM.out h3]
            simp [toP])
      have HSES := Lib.hid (hses.below hb4)
      have HWI := Lib.hid hses.1; have HWT := Lib.hid hses.2.1
      have HSM := Lib.hid (And.intro h16 hsm)
      have HRG3 := Lib.hid hrg3; have HMS := Lib.hid hms
      have HB4 := Lib.hid (hb3.trans (hb4.mono hb3.size))
      have HS34 := Lib.hid hb4
      clear hrg hU hb hiff hO hrn hm hg3 hs3 hms hb3 hU3 hent hses hnew h16 hsm hb4 hU4 hrg3 he
      go_wp2_with fail
      go_region_with (first
        | (go_at_call 48; refine (sesOwn_any i tm A l.length c l _ HSES.out.2.2.1 HSES.out.2.2.2.1.1 HSES.out.2.2.2.2.1).mono ?_; rintro e w5 ⟨⟨A5, c5, rfl, hr5⟩, hb5⟩; have kb5 := keep1 kbu hb5; obtain ⟨w6, l6, r6, _⟩ := (HU4.out.below hb5).map.update Tryz.underlying94 HWI.out (.agg #[.int .i64 i, .int .i32 tm, .slice A5 l.length c5]); have HF := Lib.hid (HU4.out.ins (z := (i, tm, A5, l.length, c5)) (l := l) hb5 HWI.out HWT.out HNEW.out (A := A5) (c := c5) hr5 HSM.out.1 HSM.out.2 r6); clear hr5 hb5))
      all_goals (
        go_wp2_with fail
        obtain ⟨own3, t1, t2, t3⟩ := HF.out
        have hk1 : w6.heap[bm]? = w3.heap[bm]? := (t3.block bm (Nat.lt_of_lt_of_le (HT.out.lt bm HT.out.bm_) HB4.out.size) (fun hm => by have := HO2.out _ hm; have := HT.out.lt bm HT.out.bm_; omega)).trans (HS34.out.block bm (by have := HB4.out.size; have := HT.out.lt bm HT.out.bm_; have := HRG3.out.rlt; have := HS1.out; omega))
        have hk2 : w6.heap[w1.heap.size]? = w3.heap[w1.heap.size]? := (t3.block w1.heap.size (Nat.lt_of_lt_of_le HRG3.out.rlt HS34.out.size) HRN2.out).trans (HS34.out.block w1.heap.size HRG3.out.rlt)
        go_roundw
        case rel => exact ⟨_, bmu2, _, own3, HRG3.out.keep hk1 hk2, t1, fun hm => (t2 _ hm).elim HRN2.out (fun h => by have := HRG3.out.rlt; have := HS34.out.size; omega), fun g hg => (t2 g hg).elim (HO2.out g) (fun h => Nat.le_trans HB4.out.size h), HIFN.out _ _, HB4.out.trans (t3.below HB4.out.size HO2.out)⟩
        case measure =>
          have : w6.rangeLeft bm w1.heap.size = w3.rangeLeft bm w1.heap.size := by unfold World.rangeLeft; rw [hk1, hk2]
          rw [this]; exact HMS.out)
end Go.Proofs.YtfnigjeklcagnaaGreatDoor
