/- The walk of arborlaw08.SessionTables. Conditions: at most 2^20 calls, each session of at most 2^20 identities. -/
import Derived.Test.YtfnigjeklcagnaaGreatDoorTabX
import Derived.Test.YtfnigjeklcagnaaGreatDoorLive9
import Derived.Deep.RegionWith
import Derived.Deep.RegionHeld3
import Derived.Deep.CutRange
import Derived.Deep.CutBlock
namespace Go.Proofs.YtfnigjeklcagnaaGreatDoor
open Go.RowKit Go.MapKept Go.Maps
theorem RefTab.new (w : World) : RefTab (w.alloc (.cells #[.slice none 0 0] 68)) [] w.heap.size [w.heap.size] :=
  ⟨none, 0, [], ⟨by simp, fun g hg => by rw [List.mem_singleton.1 hg]; simp, heap_alloc_new w _, ⟨rfl, .inl ⟨rfl, rfl, rfl⟩⟩, fun z hz => by cases hz⟩, rfl⟩
theorem TbS.new {w w2 : World} {bt : Nat} {own : List Nat} (hT : Tab w2 bt [] own) (hO : ∀ g ∈ own, w.heap.size ≤ g) (hs : w.heap.size ≤ w2.heap.size) :
    TbS w.heap.size w2.heap.size bt bt w2.heap.size [] [] [] [] own [w2.heap.size] own [w2.heap.size] (w2.alloc (.cells #[.slice none 0 0] 68)) := by
  have hb : Below w2.heap.size w2 (w2.alloc (.cells #[.slice none 0 0] 68)) := (Below.refl _ w2).alloc (Nat.le_refl _) _
  have hn : ∀ g ∈ own, g ∉ [w2.heap.size] := fun g hg hm => by have := hT.lt2 g hg; rw [List.mem_singleton.1 hm] at this; omega
  refine ⟨hT.below hb, RefTab.new w2, hT.below hb, RefTab.new w2, ⟨List.Perm.refl _, List.Pairwise.nil⟩, ⟨List.Perm.refl _, List.Pairwise.nil⟩, fun g hg => ⟨hn g hg, hn g hg⟩, fun hm => hn _ hm (by simp), .inl ⟨rfl, rfl, rfl, rfl, rfl, rfl⟩, fun g hg => ?_⟩
  rcases hg with hg | hg | hg | hg
  · exact hO g hg
  · rw [List.mem_singleton.1 hg]; exact hs
  · exact hO g hg
  · rw [List.mem_singleton.1 hg]; exact hs
set_option maxRecDepth 100000 in
set_option maxHeartbeats 4000000 in
theorem sessionTables_any (A : Option Addr) (n c : Nat) (Z : List OpV) (w : World) (hE : Env w) (hz : ArgO w A n Z) (hn : n ≤ 1048576) :
    Calls Tryz.prog 6 #[.slice A n c] w fun e w' => e = .returned (.bool true) ∧ Below w.heap.size w w' := by
  have HZ := Lib.hid hz; have HE := Lib.hid hE
  clear hz hE
  go_enter Tryz.func6, Tryz.ntmps6
  go_wp2_with fail
  go_at_call 25
  refine (newTab_any _).mono ?_
  rintro e w2 ⟨⟨bt, own, rfl, hT, hown⟩, hb2⟩
  have HB2 := Lib.hid hb2
  have HT := Lib.hid hT
  have HO := Lib.hid (show ∀ g ∈ own, w.heap.size ≤ g from hown)
  clear hb2 hT hown
  have HS := Lib.hid (TbS.new HT.out HO.out HB2.out.size)
  have hb3 : Below w.heap.size w (w2.alloc (.cells #[.slice none 0 0] 68)) := HB2.out.alloc HB2.out.size _
  have HB3 := Lib.hid hb3
  clear hb3
  go_wp2_with fail
  refine (live8_any _).mono ?_
  rintro e w4 ⟨rfl, hb4⟩
  have HS4 := Lib.hid (HS.out.below hb4)
  have HB4 := Lib.hid (HB3.out.trans (hb4.mono HB3.out.size))
  clear hb4 HT HO HS HB3
  obtain ⟨rb, hrb⟩ : ∃ rb, rb = w2.heap.size := ⟨_, rfl⟩
  rw [← hrb] at HS4
  rw [← hrb]
  clear hrb HB2
  go_wp2_with fail
  go_loopw [3, 5, 6, 7] (fun s3 s5 s6 i wr => TbR rb n w s3 s5 s6 i wr) (fun _ _ _ i _ => n - (RowKit.intOf i).toNat)
  case atStart => exact ⟨0, rfl, Nat.zero_le _, ⟨_, _, _, _, _, _, _, _, _, _, _, rfl, rfl, rfl, HS4.out, Nat.le_refl _, Nat.le_refl _⟩, HB4.out⟩
  case round =>
    obtain ⟨k, rfl, hk, ⟨bt1, bo, wb, T, R, To, Ro, own1, ro, owno, wo, rfl, rfl, rfl, hs, hR, hRo⟩, hb⟩ := hrel
    clear HS4 HB4
    by_cases hkn : k < n
    · have hkn2 : ((k : Nat) : Int) < (n : Int) := by omega
      obtain ⟨⟨b, off, hA, y0, y1, y2, y3, y4⟩, hwi, hso⟩ := (HZ.out.below hb).2 k hkn
      subst hA
      have hso0 := (HZ.out.2 k hkn).2.2
      have HS := Lib.hid hs; have HB := Lib.hid hb; have HWI := Lib.hid hwi; have HSO := Lib.hid hso; have HSO0 := Lib.hid hso0
      have HR := Lib.hid hR; have HRO := Lib.hid hRo
      have HKM := Lib.hid (show k ≤ 1048576 by omega)
      clear hs hb hwi hso hso0 hR hRo
      generalize Z[k]! = z at *
      obtain ⟨⟨zk, zi, i, tm, A2, n2, c2⟩, l⟩ := z
      dsimp only at y0 y1 y2 y3 y4 HWI HSO HSO0
      obtain ⟨WO, HWO⟩ : ∃ WO : World, Hid (WO = wr.alloc (.cells #[.int .i64 zk, .int .i64 zi, .int .i64 i, .int .i32 tm, .slice A2 n2 c2] 70)) := ⟨_, Lib.hid rfl⟩
      have HBO := Lib.hid (show Below wr.heap.size wr WO from HWO.out ▸ (Below.refl _ wr).alloc (Nat.le_refl _) _)
      have HGO := Lib.hid (show WO.heap[wr.heap.size]? = some (.cells #[.int .i64 zk, .int .i64 zi, .int .i64 i, .int .i32 tm, .slice A2 n2 c2] 70 (0, 0)) from HWO.out ▸ heap_alloc_new wr _)
      have HSW := Lib.hid (HS.out.below HBO.out)
      have HLT := Lib.hid (show ∀ g, AllG own1 ro owno wo g → g < wr.heap.size from HS.out.lt)
      have HBW := Lib.hid (HB.out.trans (HBO.out.mono HB.out.size))
      have HSW2 := Lib.hid (HSO.out.below HBO.out)
      have HSO1 := HWI
      clear HSO HS
      go_upto_block 2 with fail
      rw [← HWO.out]
      clear HWO y0 y1 y2 y3 y4
      have v0 : WO.cell? ⟨wr.heap.size, 0, none⟩ = some (.int .i64 zk) := by rw [cellH HGO.out]; rfl
      have v1 : WO.cell? ⟨wr.heap.size, 1, none⟩ = some (.int .i64 zi) := by rw [cellH HGO.out]; rfl
      have v2 : WO.cell? ⟨wr.heap.size, 2, none⟩ = some (.int .i64 i) := by rw [cellH HGO.out]; rfl
      have v3 : WO.cell? ⟨wr.heap.size, 3, none⟩ = some (.int .i32 tm) := by rw [cellH HGO.out]; rfl
      have v4 : WO.cell? ⟨wr.heap.size, 4, none⟩ = some (.slice A2 n2 c2) := by rw [cellH HGO.out]; rfl
      go_cut [3, 5, 6, 9, 10, 11, 12, 13, 14, 15] from 29 to 163 (fun s3 s5 s6 _ _ _ _ _ _ _ wx => TbE w.heap.size rb (k + 1) s3 s5 s6 wx ∧ Below w.heap.size w wx)
      case first =>
        by_cases h1 : zk = 1
        · subst h1
          go_wp2_with fail
          refine (lawOwn_any i tm A2 n2 c2 l _ HSW2.out.2.2.1 HSW2.out.2.2.2.1.1 HSW2.out.2.2.2.2.1).mono ?_
          rintro e w5 ⟨⟨A5, c5, rfl, hr5⟩, hb5⟩
          obtain ⟨W5, HW5⟩ : ∃ W5 : World, Hid (W5 = w5.alloc (.cells #[.int .i64 i, .int .i32 tm, .slice A5 n2 c5] 56)) := ⟨_, Lib.hid rfl⟩
          have hb6 : Below w5.heap.size w5 W5 := HW5.out ▸ (Below.refl _ w5).alloc (Nat.le_refl _) _
          have hb7 : Below WO.heap.size WO W5.drew := (hb5.trans (hb6.mono hb5.size)).drew
          have HR5 := Lib.hid hr5
          have HB5 := Lib.hid (show Below w5.heap.size w5 W5.drew from hb6.drew)
          have HSZ5 := Lib.hid (show w5.heap.size < W5.drew.heap.size by rw [show W5.drew.heap.size = W5.heap.size from rfl, HW5.out, World.size_alloc]; omega)
          have HNL := Lib.hid (show n2 ≤ 1048576 from HSW2.out.2.2.2.2.1)
          have HOW1 := Lib.hid (show ∀ g ∈ rb :: own1, AllG own1 ro owno wo g from fun g hg => (List.mem_cons.1 hg).elim (fun e => e ▸ .inr (.inl HSW.out.r.rb_)) (fun h => .inl h))
          have HD := Lib.hid (HSW.out.below hb7)
          have HBD := Lib.hid (HBW.out.trans (hb7.mono HBW.out.size))
          have HG5 := Lib.hid (show W5.heap[w5.heap.size]? = some (.cells #[.int .i64 i, .int .i32 tm, .slice A5 n2 c5] 56 (0, 0)) from HW5.out ▸ heap_alloc_new w5 _)
          have HSZ := Lib.hid (And.intro hb5.size hb6.size)
          have hr6 : RowId W5 WO.heap.size A5 n2 c5 l := own_later hr5 hb6
          have HOW := Lib.hid (hr6.ses2 HSW2.out.1 HSW2.out.2.1 HSW2.out.2.2.1.len HSW2.out.2.2.2.2.1 HSW2.out.2.2.2.2.2 |>.below ((Below.refl _ W5).drew))
          have x2 := keep1 v2 hb7; have x3 := keep1 v3 hb7; have x4 := keep1 v4 hb7
          have y2 : W5.drew.cell? ⟨w5.heap.size, 0, none⟩ = some (.int .i64 i) := by rw [World.cell?_drew, cellH HG5.out]; rfl
          have y3 : W5.drew.cell? ⟨w5.heap.size, 1, none⟩ = some (.int .i32 tm) := by rw [World.cell?_drew, cellH HG5.out]; rfl
          have y4 : W5.drew.cell? ⟨w5.heap.size, 2, none⟩ = some (.slice A5 n2 c5) := by rw [World.cell?_drew, cellH HG5.out]; rfl
          clear hr5 hb5 hb6 hb7
          go_wp2_with fail
          rw [← HW5.out]
          clear v0 v1 v2 v3 v4
          have HN := Lib.hid (show ¬ AllG own1 ro owno wo wr.heap.size from fun h => absurd (HLT.out _ h) (Nat.lt_irrefl _))
          have HN2 := Lib.hid (show ¬ AllG own1 ro owno wo w5.heap.size from fun h => by have h1 := HLT.out _ h; have h2 := HBO.out.size; have h3 := HSZ.out.1; omega)
          obtain ⟨cc, HCC⟩ : ∃ cc, Hid (openC T (i, tm, l) = cc) := ⟨_, Lib.hid rfl⟩
          have S0 := And.intro x2 (And.intro x3 (And.intro x4 (And.intro y2 (And.intro y3 y4))))
          clear x2 x3 x4 y2 y3 y4
          go_region_held3 (fun w' => w'.cell? ⟨wr.heap.size, 2, none⟩ = some (.int .i64 i) ∧ w'.cell? ⟨wr.heap.size, 3, none⟩ = some (.int .i32 tm) ∧ w'.cell? ⟨wr.heap.size, 4, none⟩ = some (.slice A2 n2 c2) ∧ w'.cell? ⟨w5.heap.size, 0, none⟩ = some (.int .i64 i) ∧ w'.cell? ⟨w5.heap.size, 1, none⟩ = some (.int .i32 tm) ∧ w'.cell? ⟨w5.heap.size, 2, none⟩ = some (.slice A5 n2 c5))
            ((first | assumption | exact S0))
            (first
            | (go_at_call 26; refine (open_st HD.out HBD.out.size (HE.out.later HBD.out) i tm A5 n2 c5 l HOW.out).mono ?_; rintro e w6 ⟨rfl, h6⟩; have H6 := Lib.hid h6; have S6 := keep6 h6.keep HN.out HN2.out S0; rw [HCC.out]; clear h6)
            | (go_at_call 16; refine (no8_any _ _).mono ?_; rintro e w' ⟨rfl, rfl⟩)
            | (go_at_call 34; refine (refOpen_st H6.out HR.out HRO.out HKM.out A2 n2 c2 (HSO0.out.below (HBD.out.trans H6.out.below))).mono ?_; rintro e w7 ⟨rfl, h7, hb7, hk7, hf7⟩; have HT7 := Lib.hid h7; have HB7 := Lib.hid (HBD.out.trans hb7); have S7 := keep6 hk7 HN.out HN2.out S0; have HF57 := Lib.hid ((Fr.of_below HB5.out).trans hf7 (fun g hg => .inl hg)); have HSZ7 := Lib.hid (Nat.lt_of_lt_of_le HSZ5.out hf7.size); rw [HCC.out]; clear h7 hb7 hk7 hf7))
          all_goals (
            go_wp2_with fail
            obtain ⟨g, hg1, hg2⟩ := own_mk HR5.out HF57.out (fun g' hg' => .inl (by have h1 := HLT.out g' (HOW1.out g' hg'); have h2 := HBO.out.size; omega))
            have HG1 := Lib.hid hg1; have HG2 := Lib.hid hg2
            clear hg1 hg2
            go_loopw [10] (fun i wz => MkR w7 g (n2 * 2) 73 (0 < n2) n2 i wz) (fun i _ => n2 - (RowKit.intOf i).toNat)
            case atStart => exact ⟨0, rfl, Nat.zero_le _, fun h => (HG2.out h).2, Fr.refl _ _⟩
            case round =>
              obtain ⟨j, rfl, hj, hjm, hjf⟩ := hrel
              have hne : w5.heap.size ≠ g := by have h1 := HG1.out; have h2 := HSZ7.out; omega
              have q2 : wr.cell? ⟨w5.heap.size, 2, none⟩ = some (.slice A5 n2 c5) := by rw [hjf.cell HSZ7.out (fun hm => hne (List.mem_singleton.1 hm))]; exact S7.2.2.2.2.2
              by_cases hjn : j < n2
              · have hA7 := (HG2.out (by omega)).1
                subst hA7
                have hm := hjm (by omega)
                have hlz := HNL.out
                obtain ⟨v, hv⟩ := hm.cell (o := j * 2 + 1) (by omega)
                have hfz : ∀ o, _ := fun o => hm.frozen (o := o)
                have HJF := Lib.hid hjf
                have HM := Lib.hid hm
                have hjn2 : (j : Int) < (n2 : Int) := by omega
                clear hjm hjf hm
                go_wp2_with fail
                exact ⟨⟨j + 1, by go_num, by omega, fun _ => HM.out.set _ _, HJF.out.set (List.mem_cons_self ..) _ _⟩, by simp [RowKit.intOf]; omega⟩
              · have hjn2 : ¬ (j : Int) < (n2 : Int) := by omega
                have HJF := Lib.hid hjf
                clear hjm hjf
                go_wp2_with fail
                go_meet
                case rel => exact ⟨HT7.out [g] _ HJF.out (fun g' hg' => by
                  rw [List.mem_singleton.1 hg']
                  exact mark_at HG1.out HSZ.out.2 HLT.out HBO.out.size), HB7.out.trans (HJF.out.below HB7.out.size (fun g' hg' => by
                  rw [List.mem_singleton.1 hg']
                  have h1 := HG1.out; have h2 := HB7.out.size; have h3 := HBW.out.size; omega))⟩)
        by_cases h2 : zk = 2
        · subst h2
          clear h1
          have HN := Lib.hid (show ¬ AllG own1 ro owno wo wr.heap.size from fun h => absurd (HLT.out _ h) (Nat.lt_irrefl _))
          have HD := Lib.hid (HSW.out.below ((Below.refl WO.heap.size WO).drew))
          have HBD := Lib.hid (HBW.out.drew)
          have S0 : WO.drew.cell? ⟨wr.heap.size, 1, none⟩ = some (.int .i64 zi) := by simpa using v1
          obtain ⟨cc, HCC⟩ : ∃ cc, Hid (closeC T zi = cc) := ⟨_, Lib.hid rfl⟩
          go_wp2_with fail
          clear v0 v1 v2 v3 v4
          go_region_held3 (fun w' => w'.cell? ⟨wr.heap.size, 1, none⟩ = some (.int .i64 zi))
            ((first | assumption | exact S0))
            (first
            | (go_at_call 32; refine (close_st HD.out HBD.out.size zi HSO1.out).mono ?_; rintro e w5 ⟨rfl, h5⟩; have H5 := Lib.hid h5; have S5 := h5.keep _ _ S0 HN.out; rw [HCC.out]; clear h5)
            | (go_at_call 16; refine (no8_any _ _).mono ?_; rintro e w' ⟨rfl, rfl⟩)
            | (go_at_call 35; refine (refClose_st H5.out HR.out HRO.out HKM.out).mono ?_; rintro e w6 ⟨rfl, h6, hb6, hk6, hf6⟩; have H6 := Lib.hid (h6 [] _ (Fr.refl _ _) (fun g hg => by cases hg)); have HB6 := Lib.hid hb6; have S6 := hk6 _ _ S0 HN.out; rw [HCC.out]; clear h6 hb6 hk6 hf6))
          all_goals (
            go_wp2_with fail
            go_meet
            case rel => exact ⟨H6.out, HBD.out.trans HB6.out⟩)
        by_cases h3 : zk = 3
        · subst h3
          clear h1 h2
          go_wp2_with fail
          refine (get_st HSW.out.t zi HSO1.out).mono ?_
          rintro e w5 ⟨p, bp, pi, pt, A5, n5, c5, rfl, hp, hn5, hr5, hc5, hb5⟩
          obtain ⟨W5, HW5⟩ : ∃ W5 : World, Hid (W5 = w5.alloc (.cells #[.int .i64 pi, .int .i32 pt, .slice A5 n5 c5] 56)) := ⟨_, Lib.hid rfl⟩
          have hb6 : Below w5.heap.size w5 W5 := HW5.out ▸ (Below.refl _ w5).alloc (Nat.le_refl _) _
          have hb7 : Below WO.heap.size WO W5 := hb5.trans (hb6.mono hb5.size)
          have HP := Lib.hid hp; have HN5 := Lib.hid hn5; have HC5 := Lib.hid hc5
          have HR5 := Lib.hid (show RowId W5 WO.heap.size A5 n5 c5 p.2.2 from own_later hr5 hb6)
          have HR0 := Lib.hid hr5; have HB5 := Lib.hid hb6
          have HSZ5 := Lib.hid (show w5.heap.size < W5.heap.size by rw [HW5.out, World.size_alloc]; omega)
          have HD := Lib.hid (HSW.out.below hb7)
          have HBD := Lib.hid (HBW.out.trans (hb7.mono HBW.out.size))
          have HG5 := Lib.hid (show W5.heap[w5.heap.size]? = some (.cells #[.int .i64 pi, .int .i32 pt, .slice A5 n5 c5] 56 (0, 0)) from HW5.out ▸ heap_alloc_new w5 _)
          have HSZ := Lib.hid (And.intro hb5.size hb6.size)
          have x1 : (w5.alloc (.cells #[.int .i64 pi, .int .i32 pt, .slice A5 n5 c5] 56)).cell? ⟨wr.heap.size, 1, none⟩ = some (.int .i64 zi) := HW5.out ▸ keep1 v1 hb7
          clear hp hn5 hr5 hc5 hb5 hb6 hb7 v0 v1 v2 v3 v4
          go_wp2_with fail
          rw [← HW5.out]
          clear x1
          refine (refGet_st HD.out.r (show R.length ≤ 1048576 by have := HR.out; have := HKM.out; omega) HD.out.tr HP.out HC5.out).mono ?_
          rintro e w6 ⟨A7, n7, c7, rfl, hs7, hb6⟩
          obtain ⟨W6, HW6⟩ : ∃ W6 : World, Hid (W6 = w6.alloc (.cells #[.int .i64 pi, .int .i32 pt, .slice A7 n7 c7] 56)) := ⟨_, Lib.hid rfl⟩
          have hb8 : Below w6.heap.size w6 W6 := HW6.out ▸ (Below.refl _ w6).alloc (Nat.le_refl _) _
          have hb9 : Below W5.heap.size W5 W6 := hb6.trans (hb8.mono hb6.size)
          have HS7 := Lib.hid (hs7.below hb8)
          have HB56 := Lib.hid (HB5.out.trans (hb9.mono HB5.out.size))
          have HSZ6 := Lib.hid (Nat.lt_of_lt_of_le HSZ5.out hb9.size)
          have HB6 := Lib.hid (HBD.out.trans (hb9.mono HBD.out.size))
          have HD6 := Lib.hid (HD.out.below hb9)
          have HR6 := Lib.hid (show RowId W6 WO.heap.size A5 n5 c5 p.2.2 from own_later HR5.out hb9)
          have hg6 : W6.heap[w5.heap.size]? = some (.cells #[.int .i64 pi, .int .i32 pt, .slice A5 n5 c5] 56 (0, 0)) := (hb9.block _ (Array.getElem?_eq_some_iff.1 HG5.out).1).trans HG5.out
          have hg7 : W6.heap[w6.heap.size]? = some (.cells #[.int .i64 pi, .int .i32 pt, .slice A7 n7 c7] 56 (0, 0)) := HW6.out ▸ heap_alloc_new w6 _
          have z0 : W6.cell? ⟨w5.heap.size, 0, none⟩ = some (.int .i64 pi) := by rw [cellH hg6]; rfl
          have z1 : W6.cell? ⟨w5.heap.size, 1, none⟩ = some (.int .i32 pt) := by rw [cellH hg6]; rfl
          have z2 : W6.cell? ⟨w5.heap.size, 2, none⟩ = some (.slice A5 n5 c5) := by rw [cellH hg6]; rfl
          have y0 : W6.cell? ⟨w6.heap.size, 0, none⟩ = some (.int .i64 pi) := by rw [cellH hg7]; rfl
          have y1 : W6.cell? ⟨w6.heap.size, 1, none⟩ = some (.int .i32 pt) := by rw [cellH hg7]; rfl
          have y2 : W6.cell? ⟨w6.heap.size, 2, none⟩ = some (.slice A7 n7 c7) := by rw [cellH hg7]; rfl
          have HG6 := Lib.hid hg6
          rw [HW6.out] at z0 z1 z2 y0 y1 y2
          clear hs7 hb6 hb8 hb9 hg6 hg7
          cases bp
          all_goals (
            go_wp2_with fail
            rw [← HW6.out]
            clear z0 z1 z2 y0 y1 y2
            have CS := sameSes_any pi pt A5 n5 c5 p.2.2 pi pt A7 n7 c7 p.2.2 W6 (Sl.of_own (fun _ => rfl) HR6.out HN5.out) HS7.out.2.2.1 (by have h1 := HS7.out.2.2.1.len; have h2 := HS7.out.2.2.2.2.1; have h3 := HN5.out; simp only at h1 h2 h3; omega)
            rw [decide_eq_true rfl] at CS
            refine CS.mono ?_
            rintro e w8 ⟨rfl, hb8⟩
            clear CS
            have HNL := Lib.hid (show n5 ≤ 1048576 by have h1 := HS7.out.2.2.1.len; have h2 := HS7.out.2.2.2.2.1; have h3 := HN5.out; simp only at h1 h2 h3; omega)
            have HB8 := Lib.hid (HB6.out.trans (hb8.mono HB6.out.size))
            have HD8 := Lib.hid (HD6.out.below hb8)
            have HF58 := Lib.hid (Fr.of_below (own := []) (HB56.out.trans (hb8.mono HB56.out.size)))
            have HSZ8 := Lib.hid (Nat.lt_of_lt_of_le HSZ6.out hb8.size)
            have hg8 : w8.heap[w5.heap.size]? = some (.cells #[.int .i64 pi, .int .i32 pt, .slice A5 n5 c5] 56 (0, 0)) := (hb8.block _ HSZ6.out).trans HG6.out
            have HQ8 := Lib.hid (show w8.cell? ⟨w5.heap.size, 2, none⟩ = some (.slice A5 n5 c5) by rw [cellH hg8]; rfl)
            obtain ⟨g, hg1, hg2⟩ := own_mk HR0.out HF58.out (fun g' hg' => by cases hg')
            have HG1 := Lib.hid hg1; have HG2 := Lib.hid hg2
            clear hg1 hg2 hg8 hb8
            go_wp2_with fail
            go_loopw [15] (fun i wz => MkR w8 g (n5 * 2) 73 (0 < n5) n5 i wz) (fun i _ => n5 - (RowKit.intOf i).toNat)
            case atStart => exact ⟨0, rfl, Nat.zero_le _, fun h => (HG2.out h).2, Fr.refl _ _⟩
            case round =>
              obtain ⟨j, rfl, hj, hjm, hjf⟩ := hrel
              have hne : w5.heap.size ≠ g := by have h1 := HG1.out; have h2 := HSZ8.out; omega
              have q2 : wr.cell? ⟨w5.heap.size, 2, none⟩ = some (.slice A5 n5 c5) := by rw [hjf.cell HSZ8.out (fun hm => hne (List.mem_singleton.1 hm))]; exact HQ8.out
              by_cases hjn : j < n5
              · have hA7 := (HG2.out (by omega)).1
                subst hA7
                have hm := hjm (by omega)
                have hlz := HNL.out
                obtain ⟨v, hv⟩ := hm.cell (o := j * 2) (by omega)
                have hfz : ∀ o, _ := fun o => hm.frozen (o := o)
                have HJF := Lib.hid hjf
                have HM := Lib.hid hm
                have hjn2 : (j : Int) < (n5 : Int) := by omega
                clear hjm hjf hm
                go_wp2_with fail
                exact ⟨⟨j + 1, by go_num, by omega, fun _ => HM.out.set _ _, HJF.out.set (List.mem_cons_self ..) _ _⟩, by simp [RowKit.intOf]; omega⟩
              · have hjn2 : ¬ (j : Int) < (n5 : Int) := by omega
                have HJF := Lib.hid hjf
                clear hjm hjf
                go_wp2_with fail
                go_meet
                case rel => exact ⟨⟨_, _, _, _, _, _, _, _, _, _, _, rfl, rfl, rfl, HD8.out.fr HJF.out (fun g' hg' hm => by
                  rw [List.mem_singleton.1 hm] at hg'
                  have h0 := HD8.out.lt g hg'; have h1 := HG1.out; have h2 := HLT.out g hg'; have h3 := HBO.out.size; omega), by have := HR.out; omega, by have := HRO.out; omega⟩, HB8.out.trans (HJF.out.below HB8.out.size (fun g' hg' => by
                  rw [List.mem_singleton.1 hg']
                  have h1 := HG1.out; have h2 := HB8.out.size; have h3 := HBW.out.size; omega))⟩)
        by_cases h4 : zk = 4
        · subst h4
          clear h1 h2 h3
          obtain ⟨A8, n8, c8, hc8, hs8⟩ := HSW.out.r.share
          have CC := Lib.hid (clone_st HSW.out HBW.out.size (show R.length ≤ k + 1 by have := HR.out; omega) hs8)
          clear hs8
          go_wp2_with fail
          clear v0 v1 v2 v3 v4 hc8
          refine CC.out.mono ?_
          rintro e w5 ⟨bu, rfl, hT, hb5, hq⟩
          have HT5 := Lib.hid hT; have HB5 := Lib.hid (HBW.out.trans (hb5.mono HBW.out.size)); have HQ5 := Lib.hid hq
          clear CC hT hb5 hq
          go_wp2_with fail
          refine (HQ5.out _ (Below.refl _ _)).mono ?_
          rintro e w6 ⟨rfl, hb6⟩
          have HT6 := Lib.hid (HT5.out _ hb6); have HB6 := Lib.hid (HB5.out.trans (hb6.mono HB5.out.size))
          clear hb6 HQ5 HT5
          go_wp2_with fail
          go_meet
          case rel => exact ⟨HT6.out, HB6.out⟩
        have e1 : (zk == 1) = false := by simpa using h1
        have e2 : (zk == 2) = false := by simpa using h2
        have e3 : (zk == 3) = false := by simpa using h3
        have e4 : (zk == 4) = false := by simpa using h4
        clear h1 h2 h3 h4
        go_wp2_with fail
        go_meet
        case rel => exact ⟨⟨_, _, _, _, _, _, _, _, _, _, _, rfl, rfl, rfl, HSW.out, by have := HR.out; omega, by have := HRO.out; omega⟩, HBW.out⟩
      case rest =>
        obtain ⟨⟨bt2, bo2, wb2, T2, R2, To2, Ro2, own2, ro2, owno2, wo2, rfl, rfl, rfl, hs, hR, hRo⟩, hb⟩ := hcut
        have HS2 := Lib.hid hs; have HB2 := Lib.hid hb; have HR2 := Lib.hid hR; have HRO2 := Lib.hid hRo
        have HLT2 := Lib.hid (show ∀ g, AllG own2 ro2 owno2 wo2 g → g < wc.heap.size from hs.lt)
        have HTL := Lib.hid (show T2.length ≤ 2097152 by have := hs.tr.1.length_eq; omega)
        have HBS := Lib.hid (show w.heap.size ≤ wc.heap.size from hb.size)
        clear hs hb hR hRo HSO0 HSW HGO HLT HBW HSW2 HWI HSO1 HBO HB HR HRO v0 v1 v2 v3 v4
        go_wp2_with fail
        go_at_call 30
        refine (list_st HS2.out.t HS2.out.r HS2.out.tr HTL.out).mono ?_
        rintro e w6 ⟨⟨A7, n7, c7, A9, c9, rfl, hq⟩, hb6⟩
        have HS6 := Lib.hid (HS2.out.below hb6)
        have HB6 := Lib.hid (HB2.out.trans (hb6.mono HB2.out.size))
        have HBC := Lib.hid (show wc.heap.size ≤ w6.heap.size from hb6.size)
        have k9 := hq.cell
        have HRW := Lib.hid hq.row
        have HLZ := Lib.hid hq.small
        have K0 := fun d os => cell_regrown k9 d os
        have CA := Lib.hid (fun (d : Nat) (os : Array Obj) => Calls.regrown_of (hq.same (Go.Sort.grow (redrawn w6 d) os) (below_regrown w6 d os)))
        have CN := Lib.hid (fun (d : Nat) (os : Array Obj) => Calls.regrown_of ((hq.len (Go.Sort.grow (redrawn w6 d) os) (HS6.out.t.below (below_regrown w6 d os))).mono fun _ w' h => ⟨h.1, (show Below _ _ w' from h.2 ▸ Below.refl _ _)⟩))
        clear k9 hq hb6
        go_wp2_with fail
        refine wp_region_quiet_below (by kernel_rfl) (by kernel_rfl) ?_
        repeat (go_big_quiet_step ((first | exact CA.out _ _ | exact CN.out _ _)))
        refine wpQuiet_nil ?_
        intro _ hw'
        obtain ⟨⟨dq, osq⟩, hw''⟩ := hw'
        subst hw''
        have HB7 := Lib.hid (below_regrown w6 dq osq)
        generalize Go.Sort.grow (redrawn w6 dq) osq = w7 at *
        have HS7 := Lib.hid (HS6.out.below HB7.out)
        clear K0 CA CN
        all_goals (
          go_wp2_with fail
          obtain ⟨xs, hrw⟩ := HRW.out
          obtain ⟨g, hg1, hg2⟩ := own_mk hrw (own := []) (Fr.of_below HB7.out) (by simp)
          have HG2 := Lib.hid hg2
          have HGB := Lib.hid (show wc.heap.size ≤ g by have := HBC.out; have := HB7.out.size; omega)
          clear hrw hg1 hg2 HRW xs
          go_loopw [17] (fun i wz => MkR w7 g (n7 * 3) 56 (0 < n7) n7 i wz) (fun i _ => n7 - (RowKit.intOf i).toNat)
          case atStart => exact ⟨0, rfl, Nat.zero_le _, fun h => (HG2.out h).2, Fr.refl _ _⟩
          case round =>
            obtain ⟨j, rfl, hj, hjm, hjf⟩ := hrel
            by_cases hjn : j < n7
            · have hA7 := (HG2.out (by omega)).1
              subst hA7
              have hm := hjm (by omega)
              have hlz := HLZ.out
              obtain ⟨v, hv⟩ := hm.cell (o := j * 3) (by omega)
              have hfz : ∀ o, _ := fun o => hm.frozen (o := o)
              have HJF := Lib.hid hjf
              have HM := Lib.hid hm
              have hjn2 : (j : Int) < (n7 : Int) := by omega
              clear hjm hjf hm
              go_wp2_with fail
              exact ⟨⟨j + 1, by go_num, by omega, fun _ => HM.out.set _ _, HJF.out.set (List.mem_cons_self ..) _ _⟩, by simp [RowKit.intOf]; omega⟩
            · have hjn2 : ¬ (j : Int) < (n7 : Int) := by omega
              have HJF := Lib.hid hjf
              clear hjm hjf
              go_wp2_with fail
              have hs7 : w.heap.size ≤ w7.heap.size := Nat.le_trans HB6.out.size HB7.out.size
              refine ⟨⟨k + 1, by go_num, by omega, ⟨bt2, bo2, wb2, T2, R2, To2, Ro2, own2, ro2, owno2, wo2, rfl, rfl, rfl, HS7.out.fr HJF.out (fun g' hg' hm => ?_), HR2.out, HRO2.out⟩, (HB6.out.trans (HB7.out.mono HB6.out.size)).trans (HJF.out.below hs7 (fun g' hm => ?_))⟩, by simp [RowKit.intOf]; omega⟩
              · rw [List.mem_singleton.1 hm] at hg'
                have := HLT2.out g hg'; have := HGB.out; omega
              · rw [List.mem_singleton.1 hm]
                exact Nat.le_trans HBS.out HGB.out)
    · have hkn2 : ¬ ((k : Nat) : Int) < (n : Int) := by omega
      obtain ⟨A9, n9, c9, k9, hol⟩ := oldList_st hs (by omega)
      obtain ⟨bb, heq⟩ := eq_st hs (by omega)
      have HOL := Lib.hid hol; have HB := Lib.hid hb
      have HEQ1 := Lib.hid (fun W hW => (heq W hW).1); have HEQ2 := Lib.hid (fun W hW => (heq W hW).2)
      have HD := Lib.hid ((Below.refl wr.heap.size wr).drew)
      have S0 : wr.drew.cell? ⟨wb, 0, none⟩ = some (.slice A9 n9 c9) := by simpa using k9
      clear hs hb hR hRo hol heq
      cases bb
      all_goals (
        go_wp2_with fail
        clear k9
        go_region_held3 (fun w' => w'.cell? ⟨wb, 0, none⟩ = some (.slice A9 n9 c9))
          ((first | assumption | exact S0))
          (first
          | (go_at_call 30; refine (HOL.out _ HD.out).mono ?_; rintro e w5 ⟨⟨A5, c5, rfl, h5⟩, hb5⟩; have HD5 := Lib.hid (HD.out.trans (hb5.mono HD.out.size)); have HSA := Lib.hid h5; have S5 := keep1 S0 hb5; clear h5 hb5)
          | (go_at_call 29; refine (HSA.out _ (Below.refl _ _)).mono ?_; rintro e w6 ⟨rfl, hb6⟩; have HD6 := Lib.hid (HD5.out.trans (hb6.mono HD5.out.size)); have S6 := keep1 S5 hb6; clear hb6)
          | (go_at_call 39; refine (HEQ2.out _ HD7.out).mono ?_; rintro e w8 ⟨rfl, hb8⟩; have HD8 := Lib.hid (HD7.out.trans (hb8.mono HD7.out.size)); have S8 := keep1 S7 hb8; clear hb8)
          | (go_at_call 28; (with_reducible refine (equalNil_any _ _).mono ?_); rintro e w9 ⟨rfl, rfl⟩)
          | (go_at_call 28; (with_reducible refine (HEQ1.out _ HD6.out).mono ?_); rintro e w7 ⟨rfl, hb7⟩; have HD7 := Lib.hid (HD6.out.trans (hb7.mono HD6.out.size)); have S7 := keep1 S6 hb7; clear hb7))
        go_wp2_with fail
        go_ret
        exact ⟨rfl, HB.out.trans (HD8.out.mono HB.out.size)⟩)
end Go.Proofs.YtfnigjeklcagnaaGreatDoor
