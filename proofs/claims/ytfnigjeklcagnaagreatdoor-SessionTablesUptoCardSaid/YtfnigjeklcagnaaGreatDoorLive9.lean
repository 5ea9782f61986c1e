/- The walk of arborlaw08.live: the chapter's example comes out. No condition. -/
import Derived.Test.YtfnigjeklcagnaaGreatDoorLive8
import Derived.Test.YtfnigjeklcagnaaGreatDoorLongs
namespace Go.Proofs.YtfnigjeklcagnaaGreatDoor
open Go.RowKit Go.MapKept Go.Maps
theorem Fr.tab {w w' : World} {bt bm : Nat} {l : List (Int × Value)} {own : List Nat} (h : TabIs8 w bt bm l) (hf : Fr own w w') (h1 : bt ∉ own) (h2 : bm ∉ own) : TabIs8 w' bt bm l :=
  ⟨(hf.block bt (Array.getElem?_eq_some_iff.1 h.1).1 h1).trans h.1, h.2.1.fr hf h2, h.2.2⟩
theorem TabIs8.lt {w : World} {bt bm : Nat} {l : List (Int × Value)} (h : TabIs8 w bt bm l) : bt < w.heap.size ∧ bm < w.heap.size := ⟨(Array.getElem?_eq_some_iff.1 h.1).1, h.2.1.lt⟩
theorem Clk.fr {w w' : World} {tick : Int} {K : List KV} {bc : Nat} {own own' : List Nat} (h : Clk w tick K bc own) (hf : Fr own' w w') (hd : ∀ g ∈ own, g ∉ own') : Clk w' tick K bc own := h.of_heap fun g hg => hf.block g (h.lt g hg) (hd g hg)
theorem E_nil {E : List Int} {K : List KV} {n : Int} (h : ∀ i, i ∈ E ↔ i ∈ overK K n) (h0 : overK K n = []) : E = [] := by
  rw [List.eq_nil_iff_forall_not_mem]
  intro i hi
  rw [h, h0] at hi
  cases hi
theorem E_one {E : List Int} {K : List KV} {n x : Int} (h : ∀ i, i ∈ E ↔ i ∈ overK K n) (h0 : overK K n = [x]) (hn : E.Nodup) : E = [x] := by
  have hp : E.Perm [x] := (List.perm_ext_iff_of_nodup hn (by simp)).2 fun i => by rw [h, h0]
  exact List.perm_singleton.1 hp
set_option maxRecDepth 100000 in
set_option maxHeartbeats 2000000 in
theorem live8_any (w : World) : Calls Tryz.prog 8 #[] w fun e w' => e = .returned (.bool true) ∧ Below w.heap.size w w' := by
  go_enter Tryz.func8, Tryz.ntmps8
  go_wp2_with fail
  refine (newTab _).mono ?_
  rintro e w1 ⟨⟨bt, bm, rfl, hT, ht1, ht2⟩, hb1⟩
  have HT := Lib.hid hT; have HB1 := Lib.hid hb1; clear hT hb1
  go_wp2_with fail
  refine (newClock_any _ _).mono ?_
  rintro e w2 ⟨hC, hb2⟩
  rw [if_pos (by decide)] at hC
  obtain ⟨bc, own, rfl, hC, hown⟩ := hC
  have hlt := HT.out.lt
  have HT2 := Lib.hid (Fr.tab HT.out (Fr.of_below (own := []) hb2) (by simp) (by simp))
  have HC := Lib.hid hC
  have HO := Lib.hid (show ∀ g ∈ own, w.heap.size ≤ g ∧ g ∉ [bt, bm] from fun g hg => ⟨Nat.le_trans HB1.out.size (hown g hg), fun hm => by have := hown g hg; simp at hm; omega⟩)
  have HB2 := Lib.hid (HB1.out.trans (hb2.mono HB1.out.size))
  clear hC hown hb2 HT HB1 hlt
  go_wp2_with fail
  go_at_call 16
  refine (no8_any _ _).mono ?_
  rintro e w' ⟨rfl, rfl⟩
  go_wp2_with fail
  go_at_call 26
  refine (openNew bt bm _ HT2.out).mono ?_
  rintro e w3 ⟨rfl, hT3, hf3⟩
  have HT3 := Lib.hid hT3
  have HC3 := Lib.hid (HC.out.fr hf3 fun g hg => (HO.out g hg).2)
  have HB3 := Lib.hid (HB2.out.trans (hf3.below HB2.out.size (by simp; omega)))
  clear hT3 hf3 HC HT2 HB2
  go_wp2_with fail
  go_at_call 26
  refine (openOld bt bm _ HT3.out).mono ?_
  rintro e w4 ⟨rfl, hb4⟩
  have HT4 := Lib.hid (Fr.tab HT3.out (Fr.of_below (own := []) hb4) (by simp) (by simp))
  have HC4 := Lib.hid (HC3.out.below hb4)
  have HB4 := Lib.hid (HB3.out.trans (hb4.mono HB3.out.size))
  clear hb4 HT3 HC3 HB3
  go_wp2_with fail
  go_at_call 10
  refine (touch_any 10 [] bc own 7 10 5 _ HC4.out ⟨by decide, by decide, by decide, by decide⟩ (by decide) (by decide) (by decide) (by decide)).mono ?_
  rintro e w5 ⟨rfl, ⟨own5, hC5, hs5⟩, hf5⟩
  have hK : putK [] 7 (stepK 10 10 5) = [(7, 20)] := by decide
  rw [hK] at hC5
  have hlt4 := HT4.out.lt
  have HT5 := Lib.hid (Fr.tab HT4.out hf5 (fun hm => (HO.out _ hm).2 (by simp)) (fun hm => (HO.out _ hm).2 (by simp)))
  have HC5 := Lib.hid hC5
  have HO5 := Lib.hid (show ∀ g ∈ own5, w.heap.size ≤ g ∧ g ∉ [bt, bm] from fun g hg => (hs5 g hg).elim (fun h => HO.out g h) fun h => ⟨Nat.le_trans HB4.out.size h, fun hm => by simp at hm; omega⟩)
  have HB5 := Lib.hid (HB4.out.trans (hf5.below HB4.out.size (fun g hg => (HO.out g hg).1)))
  clear hC5 hs5 hf5 hK HT4 HC4 HO HB4 hlt4
  go_wp2_with fail
  go_at_call 14
  refine (deadline_any 10 [(7, 20)] bc own5 7 ⟨by decide, by decide⟩ _ HC5.out).mono ?_
  rintro e w' ⟨rfl, rfl⟩
  rw [show getK [(7, 20)] 7 = some 20 from rfl]
  simp only [Option.getD_some, Option.isSome_some]
  go_wp2_with fail
  go_at_call 16
  refine (no8_any _ _).mono ?_
  rintro e w' ⟨rfl, rfl⟩
  go_wp2_with fail
  go_at_call 16
  refine (no8_any _ _).mono ?_
  rintro e w' ⟨rfl, rfl⟩
  go_wp2_with fail
  go_at_call 31
  refine (tabLen bt bm _ _ HT5.out).mono ?_
  rintro e w' ⟨rfl, rfl⟩
  rw [show (([(7, ex7)] : List (Int × Value)).length : Int) = 1 from rfl]
  go_wp2_with fail
  go_at_call 13
  refine (expired_any 10 [(7, 20)] bc own5 19 _ HC5.out (by decide)).mono ?_
  rintro e w6 ⟨⟨E, v, rfl, hr, hE, _⟩, ⟨own6, hC6, hs6⟩, hf6⟩
  have := E_nil hE (by decide)
  subst this
  obtain ⟨A, c, rfl⟩ := own_formI hr
  rw [show lateK [(7, 20)] 19 = [(7, 20)] from by decide] at hC6
  have HC6 := Lib.hid hC6
  have HO6 := Lib.hid (show ∀ g ∈ own6, w.heap.size ≤ g from fun g hg => (hs6 g hg).elim (fun h => (HO5.out g h).1) fun h => Nat.le_trans HB5.out.size h)
  have HB6 := Lib.hid (HB5.out.trans (hf6.below HB5.out.size (fun g hg => (HO5.out g hg).1)))
  clear hr hE hC6 hs6 hf6 HT5 HC5 HO5 HB5
  rw [show (([] : List Int).length) = 0 from rfl]
  go_wp2_with fail
  go_at_call 13
  refine (expired_any 10 [(7, 20)] bc own6 20 _ HC6.out (by decide)).mono ?_
  rintro e w7 ⟨⟨E, v, rfl, hr, hE, hN⟩, _, hf7⟩
  have := E_one hE (show overK [(7, 20)] 20 = [7] by decide) hN
  subst this
  obtain ⟨A, c, rfl⟩ := own_formI hr
  have hs7 := SlI.of_row hr
  have HB7 := Lib.hid (HB6.out.trans (hf7.below HB6.out.size HO6.out))
  have HS := Lib.hid hs7
  clear hs7 hr hE hN hf7 HB6 HO6 HC6
  rw [show (([7] : List Int).length) = 1 from rfl]
  go_wp2_with fail
  have hb8 : Below w.heap.size w (w7.alloc (.cells #[.int .i64 7] 2)) := HB7.out.alloc HB7.out.size _
  have hs8 : SlI (w7.alloc (.cells #[.int .i64 7] 2)) A 1 [7] := HS.out.below ((Below.refl _ w7).alloc (Nat.le_refl _) _)
  have hy8 : SlI (w7.alloc (.cells #[.int .i64 7] 2)) (some ⟨w7.heap.size, 0, none⟩) 1 [7] := ⟨rfl, fun j hj => ⟨w7.heap.size, 0, rfl, by
    have : j = 0 := by omega
    subst this
    simp⟩⟩
  have HB8 := Lib.hid hb8; have HS8 := Lib.hid hs8; have HY8 := Lib.hid hy8
  clear hb8 hs8 hy8 HB7 HS
  go_at_call 19
  refine (sameLongs_any _ _ _ _ _ _ _ _ _ HS8.out HY8.out (by decide)).mono ?_
  rintro e w9 ⟨rfl, q, rfl⟩
  rw [show decide (([7] : List Int) = [7]) = true from rfl]
  have HB9 := Lib.hid (HB8.out.trans ((Fr.drewN [] _ q).below HB8.out.size (by simp)))
  go_wp2_with fail
  go_ret
  exact ⟨rfl, HB9.out⟩
end Go.Proofs.YtfnigjeklcagnaaGreatDoor
