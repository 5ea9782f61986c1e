/- The walk of arborlaw08.SessionOrder. Conditions: at most 2^20 sessions, each of at most 2^20 identities. -/
import Derived.Test.YtfnigjeklcagnaaGreatDoorTabO
import Derived.Test.YtfnigjeklcagnaaGreatDoorTabC
import Derived.Test.YtfnigjeklcagnaaGreatDoorTabL
import Derived.Test.YtfnigjeklcagnaaGreatDoorTabE
import Derived.Test.YtfnigjeklcagnaaGreatDoorOpenS2
import Derived.Test.YtfnigjeklcagnaaGreatDoorLive9
import Derived.Test.YtfnigjeklcagnaaGreatDoorOrdK
import Derived.Deep.RegionWith
namespace Go.Proofs.YtfnigjeklcagnaaGreatDoor
open Go.RowKit Go.MapKept Go.Maps
theorem RowId.ses {w : World} {b n c : Nat} {A : Option Addr} {i tm : Int} {l : List IdV} (h : RowId w b A n c l) (hi : wfI i) (ht : -2147483648 ≤ tm ∧ tm ≤ 2147483647) (hl : l.length = n) (hn : n ≤ 1048576) (hs : SmallI l n 1048576) : SesOk w (i, tm, A, n, c) l 1048576 := by
  refine ⟨hi, ht, Sl.of_own (fun _ => rfl) h hl, ?_, hn, hs⟩
  rcases h.2 with ⟨e, e2⟩ | ⟨g, cap, cur, e, _, _, h3, _⟩
  · injection e with e5 e6 e7
    exact ⟨fun _ => ⟨e2, e7⟩, by simp only; omega⟩
  · injection e with e5 e6 e7
    subst e7
    exact ⟨(fun hh => by rw [show A = some ⟨g, 0, none⟩ from e5] at hh; cases hh), h3⟩
theorem openC_cases (T : List SesP) (s : SesP) : (openC T s = 0 ∧ openT T s = T ++ [s] ∧ rightS s) ∨ (openC T s ≠ 0 ∧ openT T s = T) := by
  unfold openC openT
  by_cases h1 : rightS s
  · rw [if_pos h1, if_pos h1]
    by_cases h2 : s.1 ∈ T.map (·.1)
    · rw [if_pos h2, if_pos h2]; exact .inr ⟨by decide, rfl⟩
    · rw [if_neg h2, if_neg h2]; exact .inl ⟨rfl, rfl, h1⟩
  · rw [if_neg h1, if_neg h1]; exact .inr ⟨by decide, rfl⟩
theorem openC_new {T : List SesP} {s : SesP} (h1 : rightS s) (h2 : s.1 ∉ T.map (·.1)) : openC T s = 0 ∧ openT T s = T ++ [s] := by
  unfold openC openT
  rw [if_pos h1, if_pos h1, if_neg h2, if_neg h2]
  exact ⟨rfl, rfl⟩
theorem rev_step {T : List SesP} {r : Nat} (h : r < T.length) : (T.drop r).reverse = (T.drop (r + 1)).reverse ++ [T[r]!] := by
  rw [List.drop_eq_getElem_cons h, List.reverse_cons, getElem!_pos T r h]
theorem rev_new {T : List SesP} {r : Nat} (h : r < T.length) (hn : (T.map (·.1)).Nodup) : (T[r]!).1 ∉ ((T.drop (r + 1)).reverse).map (·.1) := by
  intro hm
  have h1 : ((T.drop r).map (·.1)).Nodup := hn.sublist ((List.drop_sublist r T).map _)
  rw [List.drop_eq_getElem_cons h, List.map_cons, List.nodup_cons] at h1
  rw [getElem!_pos T r h, List.map_reverse, List.mem_reverse] at hm
  exact h1.1 hm
def UrR (T : List SesP) (bt bu : Nat) (own1 : List Nat) (A1 : Option Addr) (c1 : Nat) (W : List EntV) (w : World) (i : Value) (wr : World) : Prop := ∃ (r : Nat) (ownu : List Nat), i = .int .i64 ((r : Int) - 1) ∧ r ≤ T.length ∧ Tab wr bu (T.drop r).reverse ownu ∧ Tab wr bt T own1 ∧ (∀ g ∈ own1, g ∉ ownu) ∧ (∀ g ∈ ownu, w.heap.size ≤ g) ∧
  wr.ownsRow w.heap.size 56 3 (.slice A1 T.length c1) T.length ((W.map (·.1)).flatMap encS) ∧ Below w.heap.size w wr
theorem list_same {T U : List SesP} {Z1 Z2 : List EntV} (h : T.Perm U) (h1 : (Z1.map toP).Perm T) (h2 : (Z2.map toP).Perm U) (p1 : (Z1.map toP).Pairwise (fun a b => a.1 < b.1)) (p2 : (Z2.map toP).Pairwise (fun a b => a.1 < b.1)) : Z1.map toP = Z2.map toP :=
  strict_ext (R := fun a b : SesP => a.1 < b.1) (fun a b h h' => by omega) _ _ p1 p2 fun x => (h1.mem_iff.trans h.mem_iff).trans h2.mem_iff.symm
theorem Tab.lt {w : World} {bt : Nat} {T : List SesP} {own : List Nat} (h : Tab w bt T own) : ∀ g ∈ own, g < w.heap.size := by
  obtain ⟨bm, E, h, _⟩ := h
  exact h.lt
theorem Tab.one {w : World} {bt : Nat} {T : List SesP} {own : List Nat} (h : Tab w bt T own) : (T.map (·.1)).Nodup := by
  obtain ⟨bm, E, h, rfl⟩ := h
  exact h.one
def OrR (n bt : Nat) (w : World) (v i : Value) (wr : World) : Prop := ∃ (k : Nat) (T : List SesP) (own : List Nat) (W : List EntV) (A : Option Addr) (c : Nat), i = .int .i64 ↑k ∧ k ≤ n ∧ v = .slice A T.length c ∧ Tab wr bt T own ∧ (∀ g ∈ own, w.heap.size ≤ g) ∧
  wr.ownsRow w.heap.size 56 3 (.slice A T.length c) T.length ((W.map (·.1)).flatMap encS) ∧ W.map toP = T ∧ (∀ e ∈ W, SesOk w e.1 e.2 1048576) ∧ (∀ s ∈ T, rightS s) ∧ T.length ≤ k ∧ Below w.heap.size w wr
set_option maxRecDepth 100000 in
set_option maxHeartbeats 4000000 in
theorem sessionOrder_any (A : Option Addr) (n c : Nat) (Z : List EntV) (which : Int) (w : World) (hE : Env w) (hz : ArgS w A n Z) (hn : n ≤ 1048576) (hw : wfI which) :
    Calls Tryz.prog 5 #[.slice A n c, .int .i64 which] w fun e w' => e = .returned (.bool true) ∧ Below w.heap.size w w' := by
  have HZ := Lib.hid hz; have HE := Lib.hid hE; have HWH := Lib.hid hw
  clear hz hE hw
  go_enter Tryz.func5, Tryz.ntmps5
  go_wp2_with fail
  refine (live8_any _).mono ?_
  rintro e w1 ⟨rfl, hb1⟩
  have HB1 := Lib.hid hb1; clear hb1
  go_wp2_with fail
  go_at_call 25
  refine (newTab_any _).mono ?_
  rintro e w2 ⟨⟨bt, own, rfl, hT, hown⟩, hb2⟩
  have HB2 := Lib.hid (HB1.out.trans (hb2.mono HB1.out.size))
  have HT := Lib.hid hT
  have HO := Lib.hid (show ∀ g ∈ own, w.heap.size ≤ g from fun g hg => Nat.le_trans HB1.out.size (hown g hg))
  clear hb2 hT hown HB1
  go_wp2_with fail
  go_loopw [6, 7] (fun v i wr => OrR n bt w v i wr) (fun _ i _ => n - (RowKit.intOf i).toNat)
  case atStart => exact ⟨0, [], own, [], none, 0, rfl, Nat.zero_le _, rfl, HT.out, HO.out, World.ownsRow_nil _ _ _ _, rfl, (fun e he => by cases he), (fun s hs => by cases hs), Nat.le_refl _, HB2.out⟩
  case round =>
    obtain ⟨k, T, own1, W, A1, c1, rfl, hk, rfl, h1, h2, h3, h4, h5, h6, h7, h8⟩ := hrel
    have HT1 := Lib.hid h1; have HO1 := Lib.hid h2; have HR1 := Lib.hid h3; have HW1 := Lib.hid h4; have HS1 := Lib.hid h5; have HRT := Lib.hid h6; have HK1 := Lib.hid h7; have HB := Lib.hid h8
    clear h1 h2 h3 h4 h5 h6 h7 h8 HT HO HB2
    by_cases hkn : k < n
    · have hkn2 : ((k : Nat) : Int) < (n : Int) := by omega
      have hz := HZ.out.below HB.out
      obtain ⟨⟨b, off, hA, v0, v1, v2⟩, hs1, hl1⟩ := HZ.out.1.2 k hkn
      have hok := hz.2 k hkn
      have HOK0 := Lib.hid (HZ.out.2 k hkn)
      subst hA
      clear hz
      generalize Z[k]! = z at *
      obtain ⟨⟨i, tm, A3, n3, c3⟩, l⟩ := z
      dsimp only at v0 v1 v2 hs1 hl1
      have HV := Lib.hid (And.intro v0 (And.intro v1 v2))
      have x0 := keep1 v0 HB.out; have x1 := keep1 v1 HB.out; have x2 := keep1 v2 HB.out
      clear v0 v1 v2
      have HOK := Lib.hid hok
      have hl3 : l.length = n3 := hok.2.2.1.len
      have HL3 := Lib.hid hl3
      clear hok hl3
      go_wp2_with fail
      refine (lawOwn_any i tm A3 n3 c3 l _ HOK.out.2.2.1 HOK.out.2.2.2.1.1 HOK.out.2.2.2.2.1).mono ?_
      rintro e w3 ⟨⟨A4, c4, rfl, hr4⟩, hb3⟩
      have HB3 := Lib.hid (HB.out.trans (hb3.mono HB.out.size))
      have HT3 := Lib.hid (HT1.out.below hb3)
      have HR3 := Lib.hid (own_later HR1.out hb3)
      have HS4 := Lib.hid (hr4.ses HOK.out.1 HOK.out.2.1 HL3.out HOK.out.2.2.2.2.1 HOK.out.2.2.2.2.2)
      have x0 := keep1 x0 hb3; have x1 := keep1 x1 hb3; have x2 := keep1 x2 hb3
      clear hr4 hb3 hs1 hl1
      go_wp2_with fail
      go_at_call 26
      refine (open_any bt T own1 i tm A4 n3 c4 l _ (HE.out.later HB3.out) HT3.out HS4.out).mono ?_
      rintro e w5 ⟨rfl, ⟨own5, hT5, hs5⟩, hf5⟩
      have HT5 := Lib.hid hT5
      have HO5 := Lib.hid (show ∀ g ∈ own5, w.heap.size ≤ g from fun g hg => (hs5 g hg).elim (HO1.out g) (fun h => Nat.le_trans HB3.out.size h))
      have HR5 := Lib.hid (HT3.out.keeps HR3.out hf5)
      have HB5 := Lib.hid (HB3.out.trans (hf5.below HB3.out.size HO1.out))
      have q0 : w5.cell? ⟨b, off + k * 3, none⟩ = some (.int .i64 i) := keep1 HV.out.1 HB5.out
      have q1 : w5.cell? ⟨b, off + k * 3 + 1, none⟩ = some (.int .i32 tm) := keep1 HV.out.2.1 HB5.out
      have q2 : w5.cell? ⟨b, off + k * 3 + 2, none⟩ = some (.slice A3 n3 c3) := keep1 HV.out.2.2 HB5.out
      clear hT5 hs5 hf5 x0 x1 x2 HT3 HR3
      go_wp2_with fail
      go_at_call 16
      refine (no8_any _ _).mono ?_
      rintro e w' ⟨rfl, rfl⟩
      rcases openC_cases T (i, tm, l) with ⟨hc, ht, hrt⟩ | ⟨hc, ht⟩
      · have HT6 := Lib.hid (show Tab w5 bt (T ++ [(i, tm, l)]) own5 by rw [← ht]; exact HT5.out)
        have HRT6 := Lib.hid (show ∀ s ∈ T ++ [((i, tm, l) : SesP)], rightS s from fun s hs => by
          rcases List.mem_append.1 hs with hs | hs
          · exact HRT.out s hs
          · rw [List.mem_singleton.1 hs]; exact hrt)
        rw [hc]
        clear hc ht hrt HT5
        have hb7 : Below w5.heap.size w5 (w5.alloc (.cells #[.int .i64 i, .int .i32 tm, .slice A3 n3 c3] 56)) := (Below.refl _ w5).alloc (Nat.le_refl _) _
        have HR7 := Lib.hid (own_later HR5.out hb7)
        have HT7 := Lib.hid (HT6.out.below hb7)
        have HB7 := Lib.hid (HB5.out.trans (hb7.mono HB5.out.size))
        have HS7 := Lib.hid (show Sl (w5.alloc (.cells #[.int .i64 i, .int .i32 tm, .slice A3 n3 c3] 56)) (w5.alloc (.cells #[.int .i64 i, .int .i32 tm, .slice A3 n3 c3] 56)).heap.size encS 3 (some ⟨w5.heap.size, 0, none⟩) 1 [((i, tm, A3, n3, c3) : SesV)] from
          ⟨rfl, fun _ => ⟨w5.heap.size, 0, rfl, by simp, fun j hj a u hu => by
            have hj0 : j = 0 := by omega
            subst hj0
            rw [cellH (heap_alloc_new w5 (.cells #[.int .i64 i, .int .i32 tm, .slice A3 n3 c3] 56))]
            match a, hu with
            | 0, hu => exact hu
            | 1, hu => exact hu
            | 2, hu => exact hu⟩⟩)
        have hTL : T.length ≤ 1048576 := Nat.le_trans HK1.out (by omega)
        clear hb7
        go_wp2_with (at_builtin; refine wpList_appS elemSes rfl _ _ rfl w.heap.size A1 T.length c1 (W.map (·.1)) ?hx HR7.out ⟨w5.heap.size, 0, none⟩ 1 1 [((i, tm, A3, n3, c3) : SesV)] ?hy HS7.out (by omega) HB7.out.size ?hk)
        (try case hx => rfl)
        (try case hy => rfl)
        case hk =>
          intro A6 c6 w6 hv6 hg6
          have HT8 := Lib.hid (HT7.out.grown HR7.out hg6)
          have HB8 := Lib.hid (HB7.out.trans (own_belowG HR7.out hg6 HB7.out.size))
          have HR8 := Lib.hid (show w6.ownsRow w.heap.size 56 3 (.slice A6 (T ++ [((i, tm, l) : SesP)]).length c6) (T ++ [((i, tm, l) : SesP)]).length (((W ++ [(((i, tm, A3, n3, c3), l) : EntV)]).map (·.1)).flatMap encS) by rw [List.map_append, List.flatMap_append, List.length_append]; simpa using hv6)
          have HS8 := Lib.hid (show ∀ e ∈ W ++ [(((i, tm, A3, n3, c3), l) : EntV)], SesOk w e.1 e.2 1048576 from fun e he => by
            rcases List.mem_append.1 he with he | he
            · exact HS1.out e he
            · rw [List.mem_singleton.1 he]; exact HOK0.out)
          clear hv6 hg6
          go_wp2_with fail
          go_roundw
          case rel => exact ⟨k + 1, T ++ [(i, tm, l)], own5, W ++ [((i, tm, A3, n3, c3), l)], A6, c6, by go_num, by omega, by rw [List.length_append]; rfl, HT8.out, HO5.out, HR8.out, by rw [List.map_append, HW1.out]; rfl, HS8.out, HRT6.out, by rw [List.length_append]; have := HK1.out; simp; omega, HB8.out⟩
          case measure => simp [RowKit.intOf]; omega
      · have HT6 := Lib.hid (show Tab w5 bt T own5 by rw [← ht]; exact HT5.out)
        have hc2 : (openC T (i, tm, l) == 0) = false := beq_eq_false_iff_ne.2 hc
        clear hc ht HT5
        generalize openC T (i, tm, l) = cc at *
        go_wp2_with fail
        go_roundw
        case rel => exact ⟨k + 1, T, own5, W, A1, c1, by go_num, by omega, rfl, HT6.out, HO5.out, HR5.out, HW1.out, HS1.out, HRT.out, by have := HK1.out; omega, HB5.out⟩
        case measure => simp [RowKit.intOf]; omega
    · have hkn2 : ¬ ((k : Nat) : Int) < (n : Int) := by omega
      have HTL := Lib.hid (show T.length ≤ 1048576 from Nat.le_trans HK1.out (by omega))
      go_wp2_with fail
      go_at_call 25
      refine (newTab_any _).mono ?_
      rintro e w3 ⟨⟨bu, ownu, rfl, hT, hown⟩, hb3⟩
      have HB3 := Lib.hid (HB.out.trans (hb3.mono HB.out.size))
      have HU := Lib.hid hT
      have HT3 := Lib.hid (HT1.out.below hb3)
      have HR3 := Lib.hid (own_later HR1.out hb3)
      have HOU := Lib.hid (show ∀ g ∈ ownu, w.heap.size ≤ g from fun g hg => Nat.le_trans HB.out.size (hown g hg))
      have HAP := Lib.hid (show ∀ g ∈ own1, g ∉ ownu from fun g hg hm => by have := HT1.out.lt g hg; have := hown g hm; omega)
      clear hb3 hT hown HT1 HR1
      have hTL := HTL.out
      have HWL := Lib.hid (show W.length = T.length by rw [← HW1.out, List.length_map])
      go_wp2_with fail
      go_loopw [9] (fun i wr => UrR T bt bu own1 A1 c1 W w i wr) (fun i _ => (RowKit.intOf i + 1).toNat)
      case atStart => exact ⟨T.length, ownu, by go_num, Nat.le_refl _, by rw [List.drop_length]; exact HU.out, HT3.out, HAP.out, HOU.out, HR3.out, HB3.out⟩
      case round =>
        obtain ⟨r, ownu2, rfl, hr, h1, h2, h3, h4, h5, h6⟩ := hrel
        have HU2 := Lib.hid h1; have HT2 := Lib.hid h2; have HA2 := Lib.hid h3; have HO2 := Lib.hid h4; have HR2 := Lib.hid h5; have HB2 := Lib.hid h6
        clear h1 h2 h3 h4 h5 h6 HU HT3 HAP HOU HR3 HB3
        by_cases hr0 : 0 < r
        · obtain ⟨r', rfl⟩ : ∃ r', r = r' + 1 := ⟨r - 1, by omega⟩
          have hi : (((r' + 1 : Nat) : Int) - 1) = (r' : Int) := by omega
          rw [hi]
          have hrl : r' < T.length := by omega
          have hri : ((r' : Nat) : Int) < (T.length : Int) := by omega
          have hr00 : (0 : Int) ≤ (r' : Int) := by omega
          obtain ⟨b, off, hA, hbl, hc⟩ := (Sl.of_own (zs := W.map (·.1)) (k := 3) (enc := encS) (fun _ => rfl) HR2.out (by rw [List.length_map]; exact HWL.out)).cells hrl
          have e2 : (W.map (·.1))[r']! = W[r']!.1 := by
            rw [getElem!_pos _ r' (by rw [List.length_map, HWL.out]; exact hrl), getElem!_pos W r' (by rw [HWL.out]; exact hrl), List.getElem_map]
          rw [e2] at hc
          have hmW : W[r']! ∈ W := by rw [getElem!_pos W r' (by rw [HWL.out]; exact hrl)]; exact List.getElem_mem _
          have HOK := Lib.hid ((HS1.out _ hmW).below HB2.out)
          have HP := Lib.hid (show T[r']! = toP W[r']! by
            rw [getElem!_pos T r' hrl, getElem!_pos W r' (by rw [HWL.out]; exact hrl)]
            have := HW1.out
            subst this
            rw [List.getElem_map])
          have HNEW := Lib.hid (rev_new hrl HT2.out.one)
          have HREV := Lib.hid (rev_step hrl)
          have HRS := Lib.hid (show rightS T[r']! from HRT.out _ (by rw [getElem!_pos T r' hrl]; exact List.getElem_mem _))
          subst hA
          have x0 := hc 0 _ rfl; have x1 := hc 1 _ rfl; have x2 := hc 2 _ rfl
          rw [Nat.add_zero] at x0
          clear hc e2 hmW hi
          generalize W[r']! = z at *
          obtain ⟨⟨i, tm, A3, n3, c3⟩, l⟩ := z
          dsimp only at x0 x1 x2
          have hl3 : l.length = n3 := HOK.out.2.2.1.len
          have HL3 := Lib.hid hl3
          clear hl3
          go_wp2_with fail
          refine (lawOwn_any i tm A3 n3 c3 l _ HOK.out.2.2.1 HOK.out.2.2.2.1.1 HOK.out.2.2.2.2.1).mono ?_
          rintro e w4 ⟨⟨A4, c4, rfl, hr4⟩, hb4⟩
          have HB4 := Lib.hid (HB2.out.trans (hb4.mono HB2.out.size))
          have HU4 := Lib.hid (HU2.out.below hb4)
          have HT4 := Lib.hid (HT2.out.below hb4)
          have HR4 := Lib.hid (own_later HR2.out hb4)
          have HS4 := Lib.hid (hr4.ses HOK.out.1 HOK.out.2.1 HL3.out HOK.out.2.2.2.2.1 HOK.out.2.2.2.2.2)
          clear hr4 hb4 x0 x1 x2
          go_wp2_with fail
          go_at_call 26
          refine (open_any bu _ ownu2 i tm A4 n3 c4 l _ (HE.out.later HB4.out) HU4.out HS4.out).mono ?_
          have HNW := Lib.hid (openC_new (T := (T.drop (r' + 1)).reverse) (s := (i, tm, l)) (by have := HRS.out; rw [HP.out] at this; exact this) (by have := HNEW.out; rw [HP.out] at this; exact this))
          rw [HNW.out.1, HNW.out.2]
          rintro e w5 ⟨rfl, ⟨own5, hT5, hs5⟩, hf5⟩
          have HU5 := Lib.hid (show Tab w5 bu (T.drop r').reverse own5 by rw [HREV.out, HP.out]; exact hT5)
          have HT5 := Lib.hid (HT4.out.fr hf5 HA2.out)
          have HA5 := Lib.hid (show ∀ g ∈ own1, g ∉ own5 from fun g hg hm => (hs5 g hm).elim (fun h => HA2.out g hg h) (fun h => by have := HT4.out.lt g hg; omega))
          have HO5 := Lib.hid (show ∀ g ∈ own5, w.heap.size ≤ g from fun g hg => (hs5 g hg).elim (HO2.out g) (fun h => Nat.le_trans HB4.out.size h))
          have HR5 := Lib.hid (HU4.out.keeps HR4.out hf5)
          have HB5 := Lib.hid (HB4.out.trans (hf5.below HB4.out.size HO2.out))
          clear hT5 hs5 hf5
          go_wp2_with fail
          go_at_call 16
          refine (no8_any _ _).mono ?_
          rintro e w' ⟨rfl, rfl⟩
          go_wp2_with fail
          go_roundw
          case rel => exact ⟨r', own5, by go_num, by omega, HU5.out, HT5.out, HA5.out, HO5.out, HR5.out, HB5.out⟩
          case measure => first | (simp [RowKit.intOf]; done) | (simp [RowKit.intOf]; omega)
        · have hr1 : r = 0 := by omega
          subst hr1
          have HU3 := Lib.hid (show Tab wr bu T.reverse ownu2 by have := HU2.out; rwa [List.drop_zero] at this)
          have HPT := Lib.hid (show T.Perm T.reverse from (List.reverse_perm T).symm)
          have cE := equal_any bt bu T T.reverse own1 ownu2 wr HT2.out HU3.out
          rw [decide_eq_true HPT.out] at cE
          have hTU : T.reverse.length = T.length := List.length_reverse
          have HTUL := Lib.hid hTU
          clear hTU
          go_wp2_with fail
          refine cE.mono ?_
          rintro e w4 ⟨rfl, hb4⟩
          have HB4 := Lib.hid (HB2.out.trans (hb4.mono HB2.out.size))
          have HU4 := Lib.hid (HU3.out.below hb4)
          have HT4 := Lib.hid (HT2.out.below hb4)
          have HR4 := Lib.hid (own_later HR2.out hb4)
          clear hb4 cE
          have cE := equal_any bu bt T.reverse T ownu2 own1 w4 HU4.out HT4.out
          rw [decide_eq_true HPT.out.symm] at cE
          go_wp2_with fail
          refine cE.mono ?_
          rintro e w5 ⟨rfl, hb5⟩
          have HB5 := Lib.hid (HB4.out.trans (hb5.mono HB4.out.size))
          have HU5 := Lib.hid (HU4.out.below hb5)
          have HT5 := Lib.hid (HT4.out.below hb5)
          have HR5 := Lib.hid (own_later HR4.out hb5)
          clear hb5 cE
          go_wp2_with fail
          go_at_call 30
          refine (list_any bt T own1 _ HT5.out (Nat.le_trans hTL (by decide))).mono ?_
          rintro e w6 ⟨⟨A7, c7, Z7, rfl, hs7, hp7, hq7, _⟩, hb6⟩
          have HB6 := Lib.hid (HB5.out.trans (hb6.mono HB5.out.size))
          have HU6 := Lib.hid (HU5.out.below hb6)
          have HT6 := Lib.hid (HT5.out.below hb6)
          have HR6 := Lib.hid (own_later HR5.out hb6)
          have HL7 := Lib.hid (And.intro hs7 (And.intro hp7 hq7))
          clear hb6 hs7 hp7 hq7
          go_wp2_with fail
          go_at_call 30
          refine (list_any bu T.reverse ownu2 _ HU6.out (by rw [HTUL.out]; exact Nat.le_trans hTL (by decide))).mono ?_
          rintro e w7 ⟨⟨A8, c8, Z8, rfl, hs8, hp8, hq8, _⟩, hb7⟩
          have HB7 := Lib.hid (HB6.out.trans (hb7.mono HB6.out.size))
          have HU7 := Lib.hid (HU6.out.below hb7)
          have HT7 := Lib.hid (HT6.out.below hb7)
          have HR7 := Lib.hid (own_later HR6.out hb7)
          have HS7 := Lib.hid (HL7.out.1.below hb7)
          have HS8 := Lib.hid hs8
          have HEQ := Lib.hid (list_same HPT.out HL7.out.2.1 hp8 HL7.out.2.2 hq8)
          have HZL := Lib.hid (show Z7.length ≤ 281474976710656 from by
            have := HL7.out.2.1.length_eq
            rw [List.length_map] at this
            omega)
          clear hb7 hs8 hp8 hq8
          have cA := sameAll_any A7 A8 Z7.length Z8.length c7 c8 Z7 Z8 w7 HS7.out HS8.out HZL.out
          rw [decide_eq_true HEQ.out] at cA
          go_wp2_with fail
          refine cA.mono ?_
          rintro e w8 ⟨rfl, hb8⟩
          have HB8 := Lib.hid (HB7.out.trans (hb8.mono HB7.out.size))
          have HU8 := Lib.hid (HU7.out.below hb8)
          have HT8 := Lib.hid (HT7.out.below hb8)
          have HR8 := Lib.hid (own_later HR7.out hb8)
          clear hb8 cA
          go_wp2_with fail
          go_at_call 31
          refine (tabLen_any bt T own1 _ HT8.out).mono ?_
          rintro e w' ⟨rfl, rfl⟩
          by_cases hT0 : T.length = 0
          · have hz0 : ((T.length : Int) == 0) = true := by rw [hT0]; rfl
            go_wp2_with fail
            go_ret
            exact ⟨rfl, HB8.out⟩
          have hz0 : ((T.length : Int) == 0) = false := beq_eq_false_iff_ne.2 (by omega)
          obtain ⟨wh, hwh, hwh0, hwh1⟩ : ∃ wh : Int, (wh = if which < 0 then -(which + 1) else which) ∧ 0 ≤ wh ∧ wh ≤ 9223372036854775807 := by
            have := HWH.out
            unfold wfI at this
            refine ⟨_, rfl, ?_, ?_⟩ <;> split <;> omega
          obtain ⟨j, hj, hjl⟩ : ∃ j : Nat, wh.tmod (T.length : Int) = ↑j ∧ j < T.length := by
            have h1 : wh.tmod (T.length : Int) = wh % (T.length : Int) := Int.tmod_eq_emod_of_nonneg hwh0
            have h2 := Int.emod_nonneg wh (show (T.length : Int) ≠ 0 by omega)
            have h3 := Int.emod_lt_of_pos wh (show (0 : Int) < (T.length : Int) by omega)
            exact ⟨(wh % (T.length : Int)).toNat, by omega, by omega⟩
          have hji : ((j : Nat) : Int) < (T.length : Int) := by omega
          obtain ⟨b, off, hA, hbl, hc⟩ := (Sl.of_own (zs := W.map (·.1)) (k := 3) (enc := encS) (fun _ => rfl) HR8.out (by rw [List.length_map]; exact HWL.out)).cells hjl
          have e2 : (W.map (·.1))[j]! = W[j]!.1 := by
            rw [getElem!_pos _ j (by rw [List.length_map, HWL.out]; exact hjl), getElem!_pos W j (by rw [HWL.out]; exact hjl), List.getElem_map]
          rw [e2] at hc
          have x0 := hc 0 _ rfl
          rw [Nat.add_zero] at x0
          have HWF := Lib.hid (show wfI W[j]!.1.1 from (HS1.out _ (by rw [getElem!_pos W j (by rw [HWL.out]; exact hjl)]; exact List.getElem_mem _)).1)
          have HID := Lib.hid (show W[j]!.1.1 ∈ T.map (·.1) by
            rw [← HW1.out, List.map_map]
            exact List.mem_map.2 ⟨W[j]!, by rw [getElem!_pos W j (by rw [HWL.out]; exact hjl)]; exact List.getElem_mem _, rfl⟩)
          subst hA
          clear hc e2
          generalize W[j]!.1.1 = id at *
          have HIDU := Lib.hid (show id ∈ T.reverse.map (·.1) by rw [List.map_reverse, List.mem_reverse]; exact HID.out)
          have HNO := Lib.hid (show ¬ T.Perm (closeT T.reverse id) from fun h => by
            have h1 : id ∈ (closeT T.reverse id).map (·.1) := (h.map _).mem_iff.1 HID.out
            obtain ⟨x, hx, e⟩ := List.mem_map.1 h1
            have := (List.mem_filter.1 hx).2
            simp [e] at this)
          have HNI := Lib.hid (show id ∉ (closeT T.reverse id).map (·.1) from fun h1 => by
            obtain ⟨x, hx, e⟩ := List.mem_map.1 h1
            have := (List.mem_filter.1 hx).2
            simp [e] at this)
          have cC := close_any bu T.reverse ownu2 id HWF.out _ HU8.out
          unfold closeC at cC
          rw [if_pos HIDU.out] at cC
          have hcase : which < 0 ∨ (¬ which < 0 ∧ which = wh) := by
            by_cases h0 : which < 0
            · exact .inl h0
            · rw [if_neg h0] at hwh; exact .inr ⟨h0, hwh.symm⟩
          rcases hcase with h0 | ⟨h0, rfl⟩
          · rw [if_pos h0] at hwh
            subst hwh
            have f1 : IntKind.i64.wrap (which + 1) = which + 1 := IntWalk.i64_in _ (by have := HWH.out; unfold wfI at this; omega)
            have f2 : IntKind.i64.wrap (-(which + 1)) = -(which + 1) := IntWalk.i64_in _ (by omega)
            go_wp2_with fail
            go_at_call 32
            refine cC.mono ?_
            rintro e w9 ⟨rfl, ⟨own9, hU9, hs9⟩, hf9⟩
            have HU9 := Lib.hid hU9
            have HT9 := Lib.hid (HT8.out.fr hf9 HA2.out)
            have HB9 := Lib.hid (HB8.out.trans (hf9.below HB8.out.size HO2.out))
            clear hU9 hs9 hf9 cC
            go_wp2_with fail
            go_at_call 16
            refine (no8_any _ _).mono ?_
            rintro e w' ⟨rfl, rfl⟩
            have cE := equal_any bt bu T (closeT T.reverse id) own1 own9 w9 HT9.out HU9.out
            rw [decide_eq_false HNO.out] at cE
            go_wp2_with fail
            refine cE.mono ?_
            rintro e wa ⟨rfl, hba⟩
            have HBa := Lib.hid (HB9.out.trans (hba.mono HB9.out.size))
            have HUa := Lib.hid (HU9.out.below hba)
            have HTa := Lib.hid (HT9.out.below hba)
            clear hba cE
            have cE := equal_any bu bt (closeT T.reverse id) T own9 own1 wa HUa.out HTa.out
            rw [decide_eq_false (fun h => HNO.out h.symm)] at cE
            go_wp2_with fail
            refine cE.mono ?_
            rintro e wb ⟨rfl, hbb⟩
            have HBb := Lib.hid (HBa.out.trans (hbb.mono HBa.out.size))
            have HUb := Lib.hid (HUa.out.below hbb)
            clear hbb cE
            go_wp2_with fail
            go_at_call 33
            refine (get_any bu (closeT T.reverse id) own9 id HWF.out _ HUb.out).mono ?_
            rintro e wc ⟨pp, bb, Ac, cc, rfl, _, hor, hbc⟩
            have HBc := Lib.hid (HBb.out.trans (hbc.mono HBb.out.size))
            rcases hor with ⟨_, hm, hi⟩ | ⟨rfl, _, _⟩
            · exact absurd (List.mem_map.2 ⟨pp, hm, hi⟩) HNI.out
            clear hbc
            go_wp2_with fail
            go_ret
            exact ⟨rfl, HBc.out.alloc HBc.out.size _⟩
          · clear hwh
            go_wp2_with fail
            go_at_call 32
            refine cC.mono ?_
            rintro e w9 ⟨rfl, ⟨own9, hU9, hs9⟩, hf9⟩
            have HU9 := Lib.hid hU9
            have HT9 := Lib.hid (HT8.out.fr hf9 HA2.out)
            have HB9 := Lib.hid (HB8.out.trans (hf9.below HB8.out.size HO2.out))
            clear hU9 hs9 hf9 cC
            go_wp2_with fail
            go_at_call 16
            refine (no8_any _ _).mono ?_
            rintro e w' ⟨rfl, rfl⟩
            have cE := equal_any bt bu T (closeT T.reverse id) own1 own9 w9 HT9.out HU9.out
            rw [decide_eq_false HNO.out] at cE
            go_wp2_with fail
            refine cE.mono ?_
            rintro e wa ⟨rfl, hba⟩
            have HBa := Lib.hid (HB9.out.trans (hba.mono HB9.out.size))
            have HUa := Lib.hid (HU9.out.below hba)
            have HTa := Lib.hid (HT9.out.below hba)
            clear hba cE
            have cE := equal_any bu bt (closeT T.reverse id) T own9 own1 wa HUa.out HTa.out
            rw [decide_eq_false (fun h => HNO.out h.symm)] at cE
            go_wp2_with fail
            refine cE.mono ?_
            rintro e wb ⟨rfl, hbb⟩
            have HBb := Lib.hid (HBa.out.trans (hbb.mono HBa.out.size))
            have HUb := Lib.hid (HUa.out.below hbb)
            clear hbb cE
            go_wp2_with fail
            go_at_call 33
            refine (get_any bu (closeT T.reverse id) own9 id HWF.out _ HUb.out).mono ?_
            rintro e wc ⟨pp, bb, Ac, cc, rfl, _, hor, hbc⟩
            have HBc := Lib.hid (HBb.out.trans (hbc.mono HBb.out.size))
            rcases hor with ⟨_, hm, hi⟩ | ⟨rfl, _, _⟩
            · exact absurd (List.mem_map.2 ⟨pp, hm, hi⟩) HNI.out
            clear hbc
            go_wp2_with fail
            go_ret
            exact ⟨rfl, HBc.out.alloc HBc.out.size _⟩
end Go.Proofs.YtfnigjeklcagnaaGreatDoor
