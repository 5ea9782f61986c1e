/- The walk of arborlaw08.SessionAlive. Conditions: the lists have at most 1048576 numbers. -/
import Derived.Test.YtfnigjeklcagnaaDoorLive9
import Derived.Test.YtfnigjeklcagnaaDoorAliveP
namespace Go.Proofs.YtfnigjeklcagnaaDoor
open Go.RowKit Go.MapKept Go.Maps
def AlR (tick timeout : Int) (O : List Int) (n bc : Nat) (w : World) (a i : Value) (wr : World) : Prop := ∃ (k : Nat) (now : Int) (K : List KV) (own : List Nat), i = .int .i64 ↑k ∧ a = .int .i64 now ∧ k ≤ n ∧ (0 ≤ now ∧ now ≤ 576460752303423488) ∧ Clk wr tick K bc own ∧ OkK tick timeout now O K ∧ (∀ g ∈ own, w.heap.size ≤ g) ∧ Below w.heap.size w wr
def AlO (tick timeout now : Int) (O : List Int) (n bc : Nat) (w : World) (i : Value) (wr : World) : Prop := ∃ (k : Nat) (K : List KV) (own : List Nat), i = .int .i64 ↑k ∧ k ≤ n ∧ Clk wr tick K bc own ∧ OkK tick timeout now O K ∧ GotK now timeout K ∧ (∀ g ∈ own, w.heap.size ≤ g) ∧ Below w.heap.size w wr
def AlE (tick : Int) (K : List KV) (bc : Nat) (w : World) (a i : Value) (wr : World) : Prop := ∃ (k : Nat) (own : List Nat), i = .int .i64 ↑k ∧ a = .int .i64 (if k = 0 then 0 else 1) ∧ k ≤ 2 ∧ Clk wr tick (if k = 0 then K else []) bc own ∧ (∀ g ∈ own, w.heap.size ≤ g) ∧ Below w.heap.size w wr
theorem own_step {w wr w' : World} {own own' : List Nat} (h : ∀ g ∈ own, w.heap.size ≤ g) (hs : ∀ g ∈ own', g ∈ own ∨ wr.heap.size ≤ g) (hb : Below w.heap.size w wr) (hf : Fr own wr w') : (∀ g ∈ own', w.heap.size ≤ g) ∧ Below w.heap.size w w' :=
  ⟨fun g hg => (hs g hg).elim (h g) (fun h2 => Nat.le_trans hb.size h2), hb.trans (hf.below hb.size h)⟩
set_option maxRecDepth 100000 in
set_option maxHeartbeats 4000000 in
theorem sessionAlive_any (tick timeout : Int) (A : Option Addr) (n c : Nat) (l : List Int) (A' : Option Addr) (n' c' : Nat) (O : List Int) (w : World) (hto : timeout ≤ 2147483647) (hx : SlI w A n l) (hy : SlI w A' n' O) (hn : n ≤ 1048576) (hn' : n' ≤ 1048576) (wfO : ∀ j, j < n' → wfI O[j]!) :
    Calls Tryd.prog 3 #[.int .i64 tick, .int .i32 timeout, .slice A n c, .slice A' n' c'] w fun e w' => e = .returned (.bool true) ∧ Below w.heap.size w w' := by
  have HX := Lib.hid hx; have HY := Lib.hid hy; have HO := Lib.hid wfO
  clear hx hy wfO
  go_enter Tryd.func3, Tryd.ntmps3
  go_wp2_with fail
  refine (live8_any _).mono ?_
  rintro e w1 ⟨rfl, hb1⟩
  have HB1 := Lib.hid hb1; clear hb1
  by_cases h1 : tick < 1
  · go_wp2_with fail
    go_ret
    exact ⟨rfl, HB1.out⟩
  by_cases h2 : 1073741824 < tick
  · go_wp2_with fail
    go_ret
    exact ⟨rfl, HB1.out⟩
  by_cases h3 : timeout < 1
  · go_wp2_with fail
    go_ret
    exact ⟨rfl, HB1.out⟩
  go_wp2_with fail
  go_at_call 5
  refine (newClock_any _ _).mono ?_
  rintro e w2 ⟨hC, hb2⟩
  rw [if_pos (by omega)] at hC
  obtain ⟨bc, own, rfl, hC, hown⟩ := hC
  have HC := Lib.hid hC
  have HOW := Lib.hid (show ∀ g ∈ own, w.heap.size ≤ g from fun g hg => Nat.le_trans HB1.out.size (hown g hg))
  have HB2 := Lib.hid (HB1.out.trans (hb2.mono HB1.out.size))
  clear hC hown hb2 HB1
  go_wp2_with fail
  go_at_call 6
  refine (no8_any _ _).mono ?_
  rintro e w' ⟨rfl, rfl⟩
  go_wp2_with fail
  go_loopw [11, 12] (fun a i wr => AlR tick timeout O n bc w a i wr) (fun _ i _ => n - (intOf i).toNat)
  case atStart => exact ⟨0, 0, [], own, rfl, rfl, Nat.zero_le _, ⟨by decide, by decide⟩, HC.out, ok_nil _ _ _ _, HOW.out, HB2.out⟩
  case round =>
    obtain ⟨k, now, K, own1, rfl, rfl, hk, ⟨hn0, hn1⟩, hclk, hok, hown1, hbw⟩ := hrel
    have HC1 := Lib.hid hclk; have HK1 := Lib.hid hok; have HO1 := Lib.hid hown1; have HBW := Lib.hid hbw
    clear hclk hok hown1 hbw HC HOW HB2
    by_cases hkn : k < n
    · have hkn2 : ((k : Nat) : Int) < (n : Int) := by omega
      go_wp2_with fail
      go_at_call 7
      refine (touch_any tick K bc own1 1 timeout now _ HC1.out ⟨by decide, by omega, by omega, by omega⟩ (by decide) hto (by omega) (by omega)).mono ?_
      rintro e w3 ⟨rfl, ⟨own3, hC3, hs3⟩, hf3⟩
      have HC3 := Lib.hid hC3
      have HK3 := Lib.hid (ok_put1 HK1.out (show 1 ≤ tick by omega))
      have HG3 := Lib.hid (got_put1 (timeout := timeout) (now := now) K (show 1 ≤ tick by omega))
      have HS3 := Lib.hid (own_step HO1.out hs3 HBW.out hf3)
      clear hC3 hs3 hf3 HC1 HK1 HO1 HBW
      generalize putK K 1 (stepK tick timeout now) = K3 at *
      go_wp2_with fail
      go_at_call 6
      refine (no8_any _ _).mono ?_
      rintro e w' ⟨rfl, rfl⟩
      go_wp2_with fail
      go_loopw [13] (fun i wr => AlO tick timeout now O n' bc w i wr) (fun i _ => n' - (intOf i).toNat)
      case atStart => exact ⟨0, K3, own3, rfl, Nat.zero_le _, HC3.out, HK3.out, HG3.out, HS3.out.1, HS3.out.2⟩
      case round =>
        obtain ⟨j, K4, own4, rfl, hj, hclk, hok, hgot, hown, hbw⟩ := hrel
        have HC4 := Lib.hid hclk; have HK4 := Lib.hid hok; have HG4 := Lib.hid hgot; have HO4 := Lib.hid hown; have HB4 := Lib.hid hbw
        clear hclk hok hown hbw hgot HC3 HK3 HG3 HS3
        by_cases hjn : j < n'
        · have hjn2 : ((j : Nat) : Int) < (n' : Int) := by omega
          obtain ⟨b, off, hA, x0⟩ := (HY.out.below HB4.out).2 j hjn
          subst hA
          have HM := Lib.hid (show O[j]! ∈ O by rw [getElem!_pos O j (by rw [HY.out.1]; exact hjn)]; exact List.getElem_mem _)
          have HW := Lib.hid (HO.out j hjn)
          generalize O[j]! = id at *
          by_cases hid1 : 1 < id
          · go_wp2_with fail
            go_at_call 7
            refine (touch_any tick K4 bc own4 id 1 now _ HC4.out ⟨by omega, by decide, by omega, by omega⟩ HW.out.2 (by decide) (by omega) (by omega)).mono ?_
            rintro e w5 ⟨rfl, ⟨own5, hC5, hs5⟩, hf5⟩
            have HS5 := Lib.hid (own_step HO4.out hs5 HB4.out hf5)
            have HC5 := Lib.hid hC5
            clear hC5 hs5 hf5 x0
            go_wp2_with fail
            go_roundw
            case rel => exact ⟨j + 1, _, own5, by go_num, by omega, HC5.out, ok_putO HK4.out (by omega) (by omega) HM.out, got_putO HG4.out hid1, HS5.out.1, HS5.out.2⟩
            case measure => simp [intOf]; omega
          · go_wp2_with fail
            go_roundw
            case rel => exact ⟨j + 1, K4, own4, by go_num, by omega, HC4.out, HK4.out, HG4.out, HO4.out, HB4.out⟩
            case measure => simp [intOf]; omega
        · obtain ⟨b, off, hA, x0⟩ := (HX.out.below HB4.out).2 k hkn
          subst hA
          have HL := Lib.hid (Nat.le_trans (ok_len HK4.out HC4.out.one) (show O.length + 1 ≤ 2097152 by rw [HY.out.1]; omega))
          obtain ⟨g, hg⟩ : ∃ g, l[k]! = g := ⟨_, rfl⟩
          rw [hg] at x0
          clear hg
          by_cases hg1 : g < 0
          · by_cases hbig : 576460752303423488 < now + timeout
            · go_wp2_with fail
              go_ret
              exact ⟨rfl, HB4.out⟩
            · go_wp2_with fail
              go_at_call 8
              refine (expired_any tick K4 bc own4 (now + timeout) _ HC4.out HL.out).mono ?_
              rintro e w5 ⟨⟨E, v, rfl, hr, hE, hN⟩, ⟨own5, hC5, hs5⟩, hf5⟩
              have hel := Nat.le_trans (exp_len hE hN) HL.out
              have HS5 := Lib.hid (own_step HO4.out hs5 HB4.out hf5)
              have HC5 := Lib.hid hC5
              have HN := Lib.hid (not_told HG4.out HC4.out.one (show now + timeout ≤ now + timeout by omega) hE)
              have HK5 := Lib.hid (ok_late HK4.out (show now ≤ now + timeout by omega))
              obtain ⟨A5, c5, rfl⟩ := own_formI hr
              have HR := Lib.hid (SlI.of_row hr)
              clear hr hE hN hC5 hs5 hf5 x0
              go_wp2_with fail
              go_loopw [16] (fun i wr => ∃ q : Nat, i = .int .i64 ↑q ∧ q ≤ E.length ∧ wr = w5) (fun i _ => E.length - (intOf i).toNat)
              case atStart => exact ⟨0, rfl, Nat.zero_le _, rfl⟩
              case round =>
                obtain ⟨q, rfl, hq, rfl⟩ := hrel
                by_cases hqn : q < E.length
                · have hqn2 : ((q : Nat) : Int) < (E.length : Int) := by omega
                  obtain ⟨b5, off5, hA5, y0⟩ := HR.out.2 q hqn
                  subst hA5
                  have hne : (E[q]! == 1) = false := beq_eq_false_iff_ne.2 (HN.out q hqn)
                  generalize E[q]! = z at *
                  go_wp2_with fail
                  go_roundw
                  case rel => exact ⟨q + 1, by go_num, by omega, by first | rfl | trivial⟩
                  case measure => simp [intOf]; omega
                · have hqn2 : ¬ ((q : Nat) : Int) < (E.length : Int) := by omega
                  go_wp2_with fail
                  go_roundw
                  case rel => exact ⟨k + 1, _, _, own5, by go_num, rfl, by omega, ⟨by omega, by omega⟩, HC5.out, HK5.out, HS5.out.1, HS5.out.2⟩
                  case measure => simp [intOf]; omega
          by_cases hg2 : timeout < g
          · by_cases hbig : 576460752303423488 < now + timeout
            · go_wp2_with fail
              go_ret
              exact ⟨rfl, HB4.out⟩
            · go_wp2_with fail
              go_at_call 8
              refine (expired_any tick K4 bc own4 (now + timeout) _ HC4.out HL.out).mono ?_
              rintro e w5 ⟨⟨E, v, rfl, hr, hE, hN⟩, ⟨own5, hC5, hs5⟩, hf5⟩
              have hel := Nat.le_trans (exp_len hE hN) HL.out
              have HS5 := Lib.hid (own_step HO4.out hs5 HB4.out hf5)
              have HC5 := Lib.hid hC5
              have HN := Lib.hid (not_told HG4.out HC4.out.one (show now + timeout ≤ now + timeout by omega) hE)
              have HK5 := Lib.hid (ok_late HK4.out (show now ≤ now + timeout by omega))
              obtain ⟨A5, c5, rfl⟩ := own_formI hr
              have HR := Lib.hid (SlI.of_row hr)
              clear hr hE hN hC5 hs5 hf5 x0
              go_wp2_with fail
              go_loopw [16] (fun i wr => ∃ q : Nat, i = .int .i64 ↑q ∧ q ≤ E.length ∧ wr = w5) (fun i _ => E.length - (intOf i).toNat)
              case atStart => exact ⟨0, rfl, Nat.zero_le _, rfl⟩
              case round =>
                obtain ⟨q, rfl, hq, rfl⟩ := hrel
                by_cases hqn : q < E.length
                · have hqn2 : ((q : Nat) : Int) < (E.length : Int) := by omega
                  obtain ⟨b5, off5, hA5, y0⟩ := HR.out.2 q hqn
                  subst hA5
                  have hne : (E[q]! == 1) = false := beq_eq_false_iff_ne.2 (HN.out q hqn)
                  generalize E[q]! = z at *
                  go_wp2_with fail
                  go_roundw
                  case rel => exact ⟨q + 1, by go_num, by omega, by first | rfl | trivial⟩
                  case measure => simp [intOf]; omega
                · have hqn2 : ¬ ((q : Nat) : Int) < (E.length : Int) := by omega
                  go_wp2_with fail
                  go_roundw
                  case rel => exact ⟨k + 1, _, _, own5, by go_num, rfl, by omega, ⟨by omega, by omega⟩, HC5.out, HK5.out, HS5.out.1, HS5.out.2⟩
                  case measure => simp [intOf]; omega
          · by_cases hbig : 576460752303423488 < now + g
            · go_wp2_with fail
              go_ret
              exact ⟨rfl, HB4.out⟩
            · go_wp2_with fail
              go_at_call 8
              refine (expired_any tick K4 bc own4 (now + g) _ HC4.out HL.out).mono ?_
              rintro e w5 ⟨⟨E, v, rfl, hr, hE, hN⟩, ⟨own5, hC5, hs5⟩, hf5⟩
              have hel := Nat.le_trans (exp_len hE hN) HL.out
              have HS5 := Lib.hid (own_step HO4.out hs5 HB4.out hf5)
              have HC5 := Lib.hid hC5
              have HN := Lib.hid (not_told HG4.out HC4.out.one (show now + g ≤ now + timeout by omega) hE)
              have HK5 := Lib.hid (ok_late HK4.out (show now ≤ now + g by omega))
              obtain ⟨A5, c5, rfl⟩ := own_formI hr
              have HR := Lib.hid (SlI.of_row hr)
              clear hr hE hN hC5 hs5 hf5 x0
              go_wp2_with fail
              go_loopw [16] (fun i wr => ∃ q : Nat, i = .int .i64 ↑q ∧ q ≤ E.length ∧ wr = w5) (fun i _ => E.length - (intOf i).toNat)
              case atStart => exact ⟨0, rfl, Nat.zero_le _, rfl⟩
              case round =>
                obtain ⟨q, rfl, hq, rfl⟩ := hrel
                by_cases hqn : q < E.length
                · have hqn2 : ((q : Nat) : Int) < (E.length : Int) := by omega
                  obtain ⟨b5, off5, hA5, y0⟩ := HR.out.2 q hqn
                  subst hA5
                  have hne : (E[q]! == 1) = false := beq_eq_false_iff_ne.2 (HN.out q hqn)
                  generalize E[q]! = z at *
                  go_wp2_with fail
                  go_roundw
                  case rel => exact ⟨q + 1, by go_num, by omega, by first | rfl | trivial⟩
                  case measure => simp [intOf]; omega
                · have hqn2 : ¬ ((q : Nat) : Int) < (E.length : Int) := by omega
                  go_wp2_with fail
                  go_roundw
                  case rel => exact ⟨k + 1, _, _, own5, by go_num, rfl, by omega, ⟨by omega, by omega⟩, HC5.out, HK5.out, HS5.out.1, HS5.out.2⟩
                  case measure => simp [intOf]; omega
    · have hkn2 : ¬ ((k : Nat) : Int) < (n : Int) := by omega
      go_wp2_with fail
      go_at_call 7
      refine (touch_any tick K bc own1 1 timeout now _ HC1.out ⟨by decide, by omega, by omega, by omega⟩ (by decide) hto (by omega) (by omega)).mono ?_
      rintro e w3 ⟨rfl, ⟨own3, hC3, hs3⟩, hf3⟩
      have HC3 := Lib.hid hC3
      have HK3 := Lib.hid (ok_put1 HK1.out (show 1 ≤ tick by omega))
      have HG3 := Lib.hid (got_put1 (timeout := timeout) (now := now) K (show 1 ≤ tick by omega))
      have HS3 := Lib.hid (own_step HO1.out hs3 HBW.out hf3)
      clear hC3 hs3 hf3 HC1 HK1 HO1 HBW
      generalize putK K 1 (stepK tick timeout now) = K3 at *
      have HL := Lib.hid (Nat.le_trans (ok_len HK3.out HC3.out.one) (show O.length + 1 ≤ 2097152 by rw [HY.out.1]; omega))
      go_wp2_with fail
      go_at_call 6
      refine (no8_any _ _).mono ?_
      rintro e w' ⟨rfl, rfl⟩
      go_wp2_with fail
      go_loopw [18, 19] (fun a i wr => AlE tick K3 bc w a i wr) (fun _ i _ => 2 - (intOf i).toNat)
      case atStart => exact ⟨0, own3, rfl, rfl, by decide, HC3.out, HS3.out.1, HS3.out.2⟩
      case round =>
        obtain ⟨k, own4, rfl, rfl, hk4, hclk, hown, hbw⟩ := hrel
        have HC4 := Lib.hid hclk; have HO4 := Lib.hid hown; have HB4 := Lib.hid hbw
        clear hclk hown hbw
        by_cases hk2 : k < 2
        · have HLk := Lib.hid (show (if k = 0 then K3 else []).length ≤ 2097152 by split; exact HL.out; decide)
          obtain ⟨Kk, HKk⟩ : ∃ Kk, Hid ((if k = 0 then K3 else []) = Kk) := ⟨_, Lib.hid rfl⟩
          rw [HKk.out] at HC4 HLk
          obtain ⟨t0, HT0⟩ : ∃ t0 : Nat, Hid (t0 ≤ 1 ∧ (if k = 0 then (0 : Int) else 1) = (t0 : Int) ∧ (k = 0 → t0 = 0) ∧ (k ≠ 0 → t0 = 1)) := by
            by_cases h0 : k = 0
            · exact ⟨0, Lib.hid ⟨by decide, by rw [if_pos h0]; rfl, fun _ => rfl, fun h => absurd h0 h⟩⟩
            · exact ⟨1, Lib.hid ⟨by decide, by rw [if_neg h0]; rfl, fun h => absurd h h0, fun _ => rfl⟩⟩
          rw [HT0.out.2.1]
          have ht01 := HT0.out.1
          have hk22 : ((k : Nat) : Int) < 2 := by omega
          go_wp2_with fail
          go_at_call 8
          refine (expired_any tick Kk bc own4 _ _ HC4.out HLk.out).mono ?_
          rintro e w5 ⟨⟨E, v, rfl, hr, hE, hN⟩, ⟨own5, hC5, hs5⟩, hf5⟩
          have HS5 := Lib.hid (own_step HO4.out hs5 HB4.out hf5)
          have HX := Lib.hid (show (t0 + E.count 1 = 1) ∧ Clk w5 tick [] bc own5 from by
            by_cases h0 : k = 0
            · have e1 := HKk.out
              rw [if_pos h0] at e1
              subst e1
              obtain ⟨c1, c2⟩ := told_once HK3.out HG3.out HC4.out.one hE hN
              rw [c2] at hC5
              exact ⟨by rw [c1, HT0.out.2.2.1 h0], hC5⟩
            · have e1 := HKk.out
              rw [if_neg h0] at e1
              subst e1
              have e2 := E_nil hE rfl
              subst e2
              exact ⟨by rw [HT0.out.2.2.2 h0]; rfl, hC5⟩)
          have HEL := Lib.hid (Nat.le_trans (exp_len hE hN) HLk.out)
          obtain ⟨A5, c5, rfl⟩ := own_formI hr
          have HR := Lib.hid (SlI.of_row hr)
          clear hr hE hN hC5 hs5 hf5
          go_wp2_with fail
          go_loopw [18, 21] (fun a i wr => ∃ q : Nat, i = .int .i64 ↑q ∧ a = .int .i64 ↑(t0 + (E.take q).count 1) ∧ q ≤ E.length ∧ wr = w5) (fun _ i _ => E.length - (intOf i).toNat)
          case atStart => exact ⟨0, rfl, by simp, Nat.zero_le _, rfl⟩
          case round =>
            obtain ⟨q, rfl, rfl, hq, rfl⟩ := hrel
            have hcl : (E.take q).count 1 ≤ 2097152 := Nat.le_trans List.count_le_length (by rw [List.length_take]; have := HEL.out; omega)
            by_cases hqn : q < E.length
            · have HCT := Lib.hid (count_take hqn)
              have hqn2 : ((q : Nat) : Int) < (E.length : Int) := by omega
              obtain ⟨b5, off5, hA5, y0⟩ := HR.out.2 q hqn
              subst hA5
              have hel := HEL.out
              obtain ⟨cc, HCC⟩ : ∃ cc, Hid ((E.take q).count 1 = cc) := ⟨_, Lib.hid rfl⟩
              rw [HCC.out] at hcl HCT ⊢
              by_cases hz : E[q]! = 1
              · rw [hz] at y0
                rw [if_pos hz] at HCT
                clear hz
                go_wp2_with fail
                go_roundw
                case rel => exact ⟨q + 1, by go_num, by rw [HCT.out]; go_num, by omega, by first | rfl | trivial⟩
                case measure => simp [intOf]; omega
              · have hne : (E[q]! == 1) = false := beq_eq_false_iff_ne.2 hz
                rw [if_neg hz, Nat.add_zero] at HCT
                clear hz
                generalize E[q]! = z at *
                go_wp2_with fail
                go_roundw
                case rel => exact ⟨q + 1, by go_num, by rw [HCT.out]; go_num, by omega, by first | rfl | trivial⟩
                case measure => simp [intOf]; omega
            · have hqn2 : ¬ ((q : Nat) : Int) < (E.length : Int) := by omega
              have hqe : q = E.length := by omega
              have HE1 := Lib.hid HX.out.1
              rw [hqe, List.take_length]
              rw [HE1.out]
              clear hqe
              go_wp2_with fail
              go_roundw
              case rel => exact ⟨k + 1, own5, by go_num, by rw [if_neg (by omega)]; rfl, by omega, by rw [if_neg (by omega)]; exact HX.out.2, HS5.out.1, HS5.out.2⟩
              case measure => simp [intOf]; omega
        · have hk2' : k = 2 := by omega
          subst hk2'
          rw [if_neg (by decide)] at HC4 ⊢
          go_wp2_with fail
          go_at_call 9
          refine (deadline_any tick [] bc own4 1 ⟨by decide, by decide⟩ _ HC4.out).mono ?_
          rintro e w' ⟨rfl, rfl⟩
          rw [show getK [] 1 = none from rfl]
          simp only [Option.getD_none, Option.isSome_none]
          go_wp2_with fail
          go_at_call 10
          refine (clkLen_any tick [] bc own4 _ HC4.out).mono ?_
          rintro e w' ⟨rfl, rfl⟩
          rw [show (([] : List KV).length : Int) = 0 from rfl]
          go_wp2_with fail
          go_ret
          exact ⟨rfl, HB4.out⟩
end Go.Proofs.YtfnigjeklcagnaaDoor
