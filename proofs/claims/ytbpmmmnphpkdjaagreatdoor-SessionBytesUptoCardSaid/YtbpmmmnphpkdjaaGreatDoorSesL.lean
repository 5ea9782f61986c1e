/- SessionBytes. -/
import Derived.Test.YtbpmmmnphpkdjaaGreatDoorSesT
import Derived.Test.YtbpmmmnphpkdjaaGreatDoorLive9
import Derived.Test.YtbpmmmnphpkdjaaGreatDoorTabS
import Derived.Test.YtbpmmmnphpkdjaaGreatDoorRefS
namespace Go.Proofs.YtbpmmmnphpkdjaaGreatDoor
open Go.RowKit Go.MapKept Go.Maps
theorem SesOk.later8 {w w' : World} {z : SesV} {l : List IdV} {m : Nat} (h : SesOk w z l m) (hb : Below w.heap.size w w') : SesOk w' z l m := ⟨h.1, h.2.1, h.2.2.1.belowMore hb hb.size, h.2.2.2⟩
theorem SesOk.own8 {w w' : World} {i tm : Int} {b n c c' m : Nat} {A A' : Option Addr} {l : List IdV} (h : SesOk w (i, tm, A, n, c) l m) (h' : RowId w' b A' n c' l) : SesOk w' (i, tm, A', n, c') l m := by
  refine ⟨h.1, h.2.1, Sl.of_own (fun _ => rfl) h' h.2.2.1.len, ⟨fun e => ?_, ?_⟩, h.2.2.2.2⟩
  · simp only at e
    subst e
    rcases h' with ⟨_, ⟨e, e2⟩ | ⟨g, cap, cur, e, _⟩⟩
    · injection e with _ e3 e4; exact ⟨e2, e4⟩
    · injection e with e _; cases e
  · rcases h' with ⟨_, ⟨e, e2⟩ | ⟨g, cap, cur, e, _, _, h5, _⟩⟩
    · injection e with _ e3 e4; exact Nat.le_trans (Nat.le_of_eq e2) (Nat.zero_le _)
    · injection e with _ _ e4; rw [← e4] at h5; exact h5
open Classical in
set_option maxRecDepth 100000 in
set_option maxHeartbeats 2000000 in
theorem sessionBytes_any (i tm : Int) (A0 : Option Addr) (n0 c0 : Nat) (l0 : List IdV) (t1 : Int) (A2 : Option Addr) (n2 c2 : Nat) (l2 : Bs) (w : World) (hE : Env w) (o0 : SesOk w (i, tm, A0, n0, c0) l0 1048576) (h1 : -2147483648 ≤ t1 ∧ t1 ≤ 2147483647) (o2 : ArgB w A2 n2 c2 l2) :
    Calls Tryz.prog 11 #[.agg #[.int .i64 i, .int .i32 tm, .slice A0 n0 c0], .int .i32 t1, .slice A2 n2 c2] w fun e w' => e = .returned (.bool true) ∧ Below w.heap.size w w' := by
  have hmf : ∀ (fn : Fn) (first cap : Array Value) (w : World), (Instr.makeFunc fn first cap).run Tryz.prog w = .ok (.func fn first cap) w := fun _ _ _ _ => rfl
  have HE := Lib.hid hE; have HO0 := Lib.hid o0; have HO2 := Lib.hid o2; have H1 := Lib.hid h1
  have hb0 : Below w.heap.size w (w.alloc (.cells #[.int .i64 i, .int .i32 tm, .slice A0 n0 c0] 47)) := (Below.refl _ w).alloc (Nat.le_refl _) _
  have HB0 := Lib.hid hb0
  have HG := Lib.hid (heap_alloc_new w (.cells #[.int .i64 i, .int .i32 tm, .slice A0 n0 c0] 47))
  have HS0 := Lib.hid (show w.heap.size < (w.alloc (.cells #[.int .i64 i, .int .i32 tm, .slice A0 n0 c0] 47)).heap.size by simp)
  clear hE o0 o2 h1 hb0
  go_enter Tryz.func11, Tryz.ntmps11
  go_upto_region 1 with fail
  generalize w.alloc (.cells #[.int .i64 i, .int .i32 tm, .slice A0 n0 c0] 47) = w0 at *
  have x0 : w0.cell? ⟨w.heap.size, 0, none⟩ = some (.int .i64 i) := by rw [cellH HG.out]; rfl
  have x1 : w0.cell? ⟨w.heap.size, 1, none⟩ = some (.int .i32 tm) := by rw [cellH HG.out]; rfl
  have x2 : w0.cell? ⟨w.heap.size, 2, none⟩ = some (.slice A0 n0 c0) := by rw [cellH HG.out]; rfl
  have HOW := Lib.hid (HO0.out.later8 HB0.out)
  have HEW := Lib.hid (HE.out.later HB0.out)
  have HSO := Lib.hid (fun (w' : World) (hb : Below w0.heap.size w0 w') => (And.intro hb (And.intro (keep1 x0 hb) (And.intro (keep1 x1 hb) (keep1 x2 hb)))))
  go_cut [29] from 13 to 29 (fun v wx => v = .bool false ∧ Below w0.heap.size w0 wx)
  case first =>
    by_cases hR : rightS (i, tm, l0)
    all_goals (
      have HR := Lib.hid hR
      have CF := Lib.hid (fun W (h : SesOk W (i, tm, A0, n0, c0) l0 1048576) => by
        have h := refRightS_any i tm A0 n0 c0 l0 W h
        first | rw [decide_eq_true hR] at h | rw [decide_eq_false hR] at h
        exact h)
      have CR := Lib.hid (fun W A3 c3 (hE : Env W) (h : SesOk W (i, tm, A3, n0, c3) l0 1048576) => by
        have h := right_any i tm A3 n0 c3 l0 W hE h
        first | rw [decide_eq_true hR] at h | rw [decide_eq_false hR] at h
        exact h)
      clear hR
      go_region_held3 (fun w' => (Below w0.heap.size w0 w' ∧ w'.cell? ⟨w.heap.size, 0, none⟩ = some (.int .i64 i) ∧ w'.cell? ⟨w.heap.size, 1, none⟩ = some (.int .i32 tm) ∧ w'.cell? ⟨w.heap.size, 2, none⟩ = some (.slice A0 n0 c0)))
        ((first | assumption | exact HSO.out _ (drew_self _)))
        (first
        | (go_at_call 41; refine (clamp_any t1 _).mono ?_; rintro e w' ⟨rfl, rfl⟩)
        | (go_at_call 42; refine (refClamp_any t1 _).mono ?_; rintro e w' ⟨rfl, rfl⟩)
        | (go_at_call 44; have hq := (And.left (by assumption) : Below w0.heap.size w0 _); have hz := HOW.out.later8 hq; refine (lawOwn_any i tm A0 n0 c0 l0 _ hz.2.2.1 hz.2.2.2.1.1 hz.2.2.2.2.1).mono ?_; rintro e w3 ⟨⟨A3, c3, rfl, hr3⟩, hb3⟩; have S3 := HSO.out _ (hq.trans (hb3.mono hq.size)); have HR3 := Lib.hid (hz.own8 hr3); clear hz hr3 hb3 hq)
        | (go_at_call 43; have hq := (And.left (by assumption) : Below w0.heap.size w0 _); refine (CR.out _ A3 c3 (HEW.out.later hq) (by first | exact HR3.out | exact HR3.out.later8 (drew_self _))).mono ?_; rintro e w4 ⟨rfl, hb4⟩; have S4 := HSO.out _ (hq.trans (hb4.mono hq.size)); clear hb4 hq)
        | (go_at_call 46; have hq := (And.left (by assumption) : Below w0.heap.size w0 _); refine (live8_any _).mono ?_; rintro e w6 ⟨rfl, hb6⟩; have S6 := HSO.out _ (hq.trans (hb6.mono hq.size)); clear hb6 hq)
        | (go_at_call 45; have hq := (And.left (by assumption) : Below w0.heap.size w0 _); have hz := HOW.out.later8 hq; refine (CF.out _ hz).mono ?_; rintro e w5 ⟨rfl, hb5⟩; have S5 := HSO.out _ (hq.trans (hb5.mono hq.size)); clear hz hb5 hq)))
    all_goals (
      go_wp2_with fail
      go_meet
      refine ⟨?_, And.left (by assumption)⟩
      first | rfl | simp)
  case rest =>
  obtain ⟨rfl, hq⟩ := hcut
  rename World => wA
  obtain ⟨hq, x0, x1, x2⟩ := HSO.out _ hq
  have HBA := Lib.hid (HB0.out.trans (hq.mono HB0.out.size))
  clear HSO HB0 HG HOW HEW
  have hbw : Below wA.heap.size wA (wA.alloc (.cells #[.slice none 0 0] 109)) := (Below.refl _ wA).alloc (Nat.le_refl _) _
  have HS1 := Lib.hid (show wA.heap.size < (wA.alloc (.cells #[.slice none 0 0] 109)).heap.size by simp)
  have HW1 := Lib.hid (fun w' (hb : Below (wA.alloc (.cells #[.slice none 0 0] 109)).heap.size (wA.alloc (.cells #[.slice none 0 0] 109)) w') => WrB.start hb)
  have z0 := keep1 x0 hbw
  have z1 := keep1 x1 hbw
  have z2 := keep1 x2 hbw
  have HBW := Lib.hid (HBA.out.trans (hbw.mono HBA.out.size))
  have HAS := Lib.hid (Nat.lt_of_lt_of_le HS0.out hq.size)
  clear x0 x1 x2 hbw HBA HS0 hq
  go_wp2_with fail
  generalize wA.alloc (.cells #[.slice none 0 0] 109) = W0 at *
  have hz := HO0.out.later8 HBW.out
  refine (lawOwn_any i tm A0 n0 c0 l0 W0 hz.2.2.1 hz.2.2.2.1.1 hz.2.2.2.2.1).mono ?_
  rintro e w3 ⟨⟨A3, c3, rfl, hr3⟩, hb3⟩
  have HZ3 := Lib.hid (hz.own8 hr3)
  have HWR := Lib.hid (HW1.out w3 hb3)
  have HNE := Lib.hid (show ∀ a, A3 = some a → a.block ≠ wA.heap.size from fun a ha => Nat.ne_of_gt (Nat.lt_of_lt_of_le HS1.out (row_ge hr3 ha)))
  have z0 := keep1 z0 hb3
  have z1 := keep1 z1 hb3
  have z2 := keep1 z2 hb3
  have HB3 := Lib.hid (HBW.out.trans (hb3.mono HBW.out.size))
  have HB3s := Lib.hid (show w.heap.size < w3.heap.size from Nat.lt_of_lt_of_le (Nat.lt_trans HAS.out HS1.out) hb3.size)
  clear hz hr3 hb3 HW1 HBW
  go_wp2_with fail
  refine (sesPut_any wA.heap.size w3.heap.size [] i tm A3 n0 c3 l0 w3 HWR.out HZ3.out.2.2.1 HNE.out (by simp) HZ3.out.2.2.2.2.1 HZ3.out.2.2.2.2.2).mono ?_
  rintro e w4 ⟨rfl, hw, hk⟩
  rw [List.nil_append] at hw
  have HW4 := Lib.hid hw
  have HB4 := Lib.hid (HB3.out.trans (hk.below (Nat.le_of_lt HAS.out) HB3.out.size HB3.out.size))
  have HSL := Lib.hid HZ3.out.bytes8
  have z0 := hk.cell (p := ⟨w.heap.size, 0, none⟩) HB3s.out (Nat.ne_of_lt HAS.out) z0
  have z1 := hk.cell (p := ⟨w.heap.size, 1, none⟩) HB3s.out (Nat.ne_of_lt HAS.out) z1
  have z2 := hk.cell (p := ⟨w.heap.size, 2, none⟩) HB3s.out (Nat.ne_of_lt HAS.out) z2
  clear hw hk HWR HZ3 HNE HB3
  go_upto_region 5 with fail
  go_cut [41] from 36 to 41 (fun v wx => v = .bool false ∧ Below w4.heap.size w4 wx)
  case first =>
    have HSO := Lib.hid (fun (w' : World) (hb : Below w4.heap.size w4 w') => (And.intro hb (And.intro (keep1 z0 hb) (And.intro (keep1 z1 hb) (keep1 z2 hb)))))
    generalize hbl : sesB i tm l0 = bl at *
    go_region_held3 (fun w' => (Below w4.heap.size w4 w' ∧ w'.cell? ⟨w.heap.size, 0, none⟩ = some (.int .i64 i) ∧ w'.cell? ⟨w.heap.size, 1, none⟩ = some (.int .i32 tm) ∧ w'.cell? ⟨w.heap.size, 2, none⟩ = some (.slice A0 n0 c0)))
      ((first | assumption | exact HSO.out _ (drew_self _)))
      (first
      | (go_at_call 49; have hq := (And.left (by assumption) : Below w4.heap.size w4 _); refine (wBytes_any wA.heap.size w3.heap.size bl _ (HW4.out.below hq) HSL.out).mono ?_; rintro e w5 ⟨⟨A5, c5, rfl, hr5⟩, hb5⟩; have S5 := HSO.out _ (hq.trans (hb5.mono hq.size)); have HR5 := Lib.hid (Row8.sl hr5 rfl); clear hr5 hq)
      | (go_at_call 50; have hq := (And.left (by assumption) : Below w4.heap.size w4 _); have hz := HO0.out.later8 (HB4.out.trans (hq.mono HB4.out.size)); refine (refSesPut_any i tm A0 n0 c0 l0 _ hz.2.2.1 hz.2.2.2.2.1 hz.2.2.2.2.2).mono ?_; rw [hbl]; rintro e w6 ⟨⟨A6, c6, rfl, hr6⟩, hb6⟩; have S6 := HSO.out _ (hq.trans (hb6.mono hq.size)); have HR6 := Lib.hid (Row8.sl hr6 rfl); clear hr6 hq hz)
      | (go_at_call 48; have hq := (And.left (by assumption) : Below w4.heap.size w4 _); refine (sameBytes9_any A5 A6 bl.length bl.length c5 c6 bl bl _ _ (by first | exact HR5.out | exact HR5.out.belowMore hb6 hb6.size) (by first | exact HR6.out | exact HR6.out.belowMore hb5 hb5.size) (Nat.le_trans HSL.out (by decide)) (Nat.le_trans HSL.out (by decide))).mono ?_; rw [decide_eq_true rfl]; rintro e w7 ⟨rfl, d7, rfl⟩; have S7 := HSO.out _ (hq.trans ((drewN_self _ d7).mono hq.size)); clear hq))
    all_goals (
      go_wp2_with fail
      go_meet
      exact ⟨rfl, And.left (by assumption)⟩)
  case rest =>
  obtain ⟨rfl, hq⟩ := hcut
  rename World => wB
  have HKB := Lib.hid (show WrB wB wA.heap.size w3.heap.size (sesB i tm l0) ∧ wB.cell? ⟨w.heap.size, 0, none⟩ = some (.int .i64 i) ∧ wB.cell? ⟨w.heap.size, 1, none⟩ = some (.int .i32 tm) ∧ wB.cell? ⟨w.heap.size, 2, none⟩ = some (.slice A0 n0 c0) from ⟨HW4.out.below hq, keep1 z0 hq, keep1 z1 hq, keep1 z2 hq⟩)
  have HB5 := Lib.hid (HB4.out.trans (hq.mono HB4.out.size))
  clear z0 z1 z2 hq HW4 HB4 HB3s HS1
  have hbx : Below wB.heap.size wB (wB.alloc (.cells #[.int .i64 0, .int .i32 0, .slice none 0 0] 116)) := (Below.refl _ wB).alloc (Nat.le_refl _) _
  have HX0 := Lib.hid (show ∃ u1 u2 u3, (wB.alloc (.cells #[.int .i64 0, .int .i32 0, .slice none 0 0] 116)).heap[wB.heap.size]? = some (.cells #[u1, u2, u3] 116 (0, 0)) from ⟨_, _, _, heap_alloc_new wB _⟩)
  have HXl := Lib.hid (show wB.heap.size < (wB.alloc (.cells #[.int .i64 0, .int .i32 0, .slice none 0 0] 116)).heap.size by simp)
  have HBx := Lib.hid hbx
  clear hbx
  go_wp2_with fail
  generalize wB.alloc (.cells #[.int .i64 0, .int .i32 0, .slice none 0 0] 116) = w5 at *
  have HB6 := Lib.hid (HB5.out.trans (HBx.out.mono HB5.out.size))
  refine (read8_any (HO2.out.below HB6.out) (HE.out.later HB6.out).tabs HX0.out HXl.out).mono ?_
  rintro e w6 ⟨q, k, rfl, hf, hr, hx⟩
  have HC6 := Lib.hid (HBx.out.trans (hf.below HBx.out.size (fun g hg => by rw [List.mem_singleton.1 hg]; exact Nat.le_refl _)))
  have HX6 := Lib.hid hx
  have HXl6 := Lib.hid (Nat.lt_of_lt_of_le HXl.out hf.size)
  have HRes := Lib.hid hr
  clear hf hr hx HX0 HXl HBx HB6
  have hbr : Below w6.heap.size w6 (w6.alloc (.cells #[.slice A2 n2 c2, .int .i64 0, .int .i64 0] 121)) := (Below.refl _ w6).alloc (Nat.le_refl _) _
  have HRf := Lib.hid (rf_new (HO2.out.below (HB5.out.trans (HC6.out.mono HB5.out.size))))
  have HC7 := Lib.hid (HC6.out.trans (hbr.mono HC6.out.size))
  have HBr := Lib.hid hbr
  have HWl := Lib.hid (show w6.heap.size < (w6.alloc (.cells #[.slice A2 n2 c2, .int .i64 0, .int .i64 0] 121)).heap.size by simp)
  clear hbr
  go_wp2_with fail
  generalize w6.alloc (.cells #[.slice A2 n2 c2, .int .i64 0, .int .i64 0] 121) = w7 at *
  refine (rfSes_any HRf.out).mono ?_
  rintro e w8 ⟨hf, i9, t9, B9, d9, m9, rfl, hr⟩
  have HRf8 := Lib.hid (show Rf w8 w6.heap.size A2 n2 c2 l2 q k by
    rcases HRes.out with ⟨h1, v, h2, h3⟩ | ⟨h1, h2⟩
    · rw [h2] at hr
      subst h1
      exact hr.2.2.2.2
    · rw [h2] at hr
      exact hr.2)
  have hxl8 : w6.heap.size < w8.heap.size := Nat.lt_of_lt_of_le HWl.out hf.size
  have hC8 : Below wB.heap.size wB w8 := HC7.out.trans (hf.below HC7.out.size (fun g hg => by rw [List.mem_singleton.1 hg]; exact HC6.out.size))
  have hbu : Below w8.heap.size w8 (w8.alloc (.cells #[.int .i64 i9, .int .i32 t9, .slice B9 m9 d9] 47)) := (Below.refl _ w8).alloc (Nat.le_refl _) _
  have HD := Lib.hid (show (k = 0 ∧ ∃ (B : Option Addr) (d : Nat), (w8.alloc (.cells #[.int .i64 i9, .int .i32 t9, .slice B9 m9 d9] 47)).heap[wB.heap.size]? = some (.cells #[.int .i64 i9, .int .i32 t9, .slice B m9 d] 116 (0, 0)) ∧ ∃ z : List IdV, Sl (w8.alloc (.cells #[.int .i64 i9, .int .i32 t9, .slice B9 m9 d9] 47)) (w8.alloc (.cells #[.int .i64 i9, .int .i32 t9, .slice B9 m9 d9] 47)).heap.size encId 2 B m9 z ∧ Sl (w8.alloc (.cells #[.int .i64 i9, .int .i32 t9, .slice B9 m9 d9] 47)) (w8.alloc (.cells #[.int .i64 i9, .int .i32 t9, .slice B9 m9 d9] 47)).heap.size encId 2 B9 m9 z ∧ m9 ≤ 1048576) ∨ k ≠ 0 by
    rcases HRes.out with ⟨h1, v, h2, B, d, h3, h4⟩ | ⟨h1, h2⟩
    · rw [h2] at hr
      obtain ⟨rfl, rfl, rfl, h5, _⟩ := hr
      have hlen := sesP_len h2
      refine .inl ⟨h1, B, d, (hbu.block _ (Nat.lt_trans HXl6.out hxl8)).trans ((hf.block _ (Nat.lt_trans HXl6.out HWl.out) (by simp; have := HXl6.out; omega)).trans ((HBr.out.block _ HXl6.out).trans h3)), v.2.2.map idV, ?_, ?_, by omega⟩
      · have h6 := (h4.below HBr.out).fr hf HBr.out.size (fun g hg => by rw [List.mem_singleton.1 hg]; exact Nat.le_refl _)
        exact (h6.more (Nat.le_of_lt hxl8)).belowMore hbu hbu.size
      · exact (Sl.of_own (enc := encId) (k := 2) (zs := v.2.2.map idV) (fun _ => rfl) h5 (by simp)).belowMore hbu hbu.size
    · exact .inr h1)
  have HC9 := Lib.hid (hC8.trans (hbu.mono hC8.size))
  have y1 := keep1 HRf8.out.c1 hbu
  have y2 := keep1 HRf8.out.c2 hbu
  have hg9 := heap_alloc_new w8 (.cells #[.int .i64 i9, .int .i32 t9, .slice B9 m9 d9] 47)
  have v0 : (w8.alloc (.cells #[.int .i64 i9, .int .i32 t9, .slice B9 m9 d9] 47)).cell? ⟨w8.heap.size, 0, none⟩ = some (.int .i64 i9) := by rw [cellH hg9]; rfl
  have v1 : (w8.alloc (.cells #[.int .i64 i9, .int .i32 t9, .slice B9 m9 d9] 47)).cell? ⟨w8.heap.size, 1, none⟩ = some (.int .i32 t9) := by rw [cellH hg9]; rfl
  have v2 : (w8.alloc (.cells #[.int .i64 i9, .int .i32 t9, .slice B9 m9 d9] 47)).cell? ⟨w8.heap.size, 2, none⟩ = some (.slice B9 m9 d9) := by rw [cellH hg9]; rfl
  have HX9 := Lib.hid (show ∃ u1 u2 u3, (w8.alloc (.cells #[.int .i64 i9, .int .i32 t9, .slice B9 m9 d9] 47)).heap[wB.heap.size]? = some (.cells #[u1, u2, u3] 116 (0, 0)) by
    obtain ⟨u1, u2, u3, h⟩ := HX6.out
    exact ⟨u1, u2, u3, (hbu.block _ (Nat.lt_trans HXl6.out hxl8)).trans ((hf.block _ (Nat.lt_trans HXl6.out HWl.out) (by simp; have := HXl6.out; omega)).trans ((HBr.out.block _ HXl6.out).trans h))⟩)
  have HXl9 := Lib.hid (Nat.lt_of_lt_of_le (Nat.lt_trans HXl6.out hxl8) hbu.size)
  have HBB := Lib.hid HB5.out
  clear hr hf HRf8 hxl8 hC8 hbu hg9 HRes HX6 HXl6 HWl HBr HC6 HC7 HRf
  go_upto_region 11 with fail
  generalize w8.alloc (.cells #[.int .i64 i9, .int .i32 t9, .slice B9 m9 d9] 47) = w9 at *
  go_cut [86] from 56 to 86 (fun v wx => v = .bool false ∧ Below w9.heap.size w9 wx)
  case first =>
    have CN := Lib.hid (fun (d : Nat) (os : Array Obj) => Calls.regrown_of (no8_b k (Go.Sort.grow (redrawn w9 d) os)))
    have D1 := fun d os => cell_regrown y1 d os
    have D2 := fun d os => cell_regrown y2 d os
    have E0 := fun d os => cell_regrown v0 d os
    have E1 := fun d os => cell_regrown v1 d os
    have E2 := fun d os => cell_regrown v2 d os
    rcases HD.out with ⟨rfl, B, d, hxc, z, s1, s2, hm⟩ | hk
    · have CS := Lib.hid (fun (dd : Nat) (os : Array Obj) => by
        have h := Calls.regrown_of (sameSes_any i9 t9 B m9 d z i9 t9 B9 m9 d9 z (Go.Sort.grow (redrawn w9 dd) os) (s1.belowMore (below_regrown w9 dd os) (below_regrown w9 dd os).size) (s2.belowMore (below_regrown w9 dd os) (below_regrown w9 dd os).size) hm)
        rw [decide_eq_true rfl] at h
        exact h)
      have x0 : w9.cell? ⟨wB.heap.size, 0, none⟩ = some (.int .i64 i9) := by rw [cellH hxc]; rfl
      have x1 : w9.cell? ⟨wB.heap.size, 1, none⟩ = some (.int .i32 t9) := by rw [cellH hxc]; rfl
      have x2 : w9.cell? ⟨wB.heap.size, 2, none⟩ = some (.slice B m9 d) := by rw [cellH hxc]; rfl
      have F0 := fun d os => cell_regrown x0 d os
      have F1 := fun d os => cell_regrown x1 d os
      have F2 := fun d os => cell_regrown x2 d os
      clear x0 x1 x2 hxc s1 s2 hm y1 y2 v0 v1 v2
      refine wp_region_quiet_below (by kernel_rfl) (by kernel_rfl) ?_
      repeat (go_big_quiet_step (first | (exact CN.out _ _) | (exact CS.out _ _)))
      refine wpQuiet_nil ?_
      intro _ hw'
      obtain ⟨⟨dq, osq⟩, hw''⟩ := hw'
      subst hw''
      go_wp2_with fail
      go_meet
      exact ⟨rfl, below_regrown w9 dq osq⟩
    · have hk2 : (k == 0) = false := by simpa using hk
      clear y1 y2 v0 v1 v2
      refine wp_region_quiet_below (by kernel_rfl) (by kernel_rfl) ?_
      repeat (go_big_quiet_step (exact CN.out _ _))
      refine wpQuiet_nil ?_
      intro _ hw'
      obtain ⟨⟨dq, osq⟩, hw''⟩ := hw'
      subst hw''
      go_wp2_with fail
      go_meet
      exact ⟨rfl, below_regrown w9 dq osq⟩
  case rest =>
  obtain ⟨rfl, hq⟩ := hcut
  rename World => wC
  have hCC : Below wB.heap.size wB wC := HC9.out.trans (hq.mono HC9.out.size)
  have hBC : Below w.heap.size w wC := HBB.out.trans (hCC.mono HBB.out.size)
  have z0 := keep1 HKB.out.2.1 hCC
  have z1 := keep1 HKB.out.2.2.1 hCC
  have z2 := keep1 HKB.out.2.2.2 hCC
  have hx9 : ∃ u1 u2 u3, wC.heap[wB.heap.size]? = some (.cells #[u1, u2, u3] 116 (0, 0)) := by
    obtain ⟨u1, u2, u3, h⟩ := HX9.out
    exact ⟨u1, u2, u3, (hq.block _ HXl9.out).trans h⟩
  have HXC := Lib.hid hx9
  have HXlC := Lib.hid (Nat.lt_of_lt_of_le HXl9.out hq.size)
  have HCC := Lib.hid hCC
  have HBC := Lib.hid hBC
  clear hx9 hCC hBC hq HX9 HXl9 HC9 y1 y2 v0 v1 v2 HD
  go_wp2_with fail
  have hok := refRightS_any i tm A0 n0 c0 l0 wC (HO0.out.later8 HBC.out)
  by_cases hR : rightS (i, tm, l0)
  · rw [decide_eq_true hR] at hok
    refine hok.mono ?_
    rintro e wD ⟨rfl, hbD⟩
    have z0 := keep1 z0 hbD
    have z1 := keep1 z1 hbD
    have z2 := keep1 z2 hbD
    have HCD := Lib.hid (HCC.out.trans (hbD.mono HCC.out.size))
    have HBD := Lib.hid (HBC.out.trans (hbD.mono HBC.out.size))
    have HXD := Lib.hid (show ∃ u1 u2 u3, wD.heap[wB.heap.size]? = some (.cells #[u1, u2, u3] 116 (0, 0)) by
      obtain ⟨u1, u2, u3, h⟩ := HXC.out
      exact ⟨u1, u2, u3, (hbD.block _ HXlC.out).trans h⟩)
    have HXlD := Lib.hid (Nat.lt_of_lt_of_le HXlC.out hbD.size)
    have HR := Lib.hid hR
    clear hR hok hbD HXC HXlC HCC HBC
    go_wp2_with fail
    refine (wBytes_any wA.heap.size w3.heap.size (sesB i tm l0) wD (HKB.out.1.below HCD.out) HSL.out).mono ?_
    rintro e wE ⟨⟨A5, c5, rfl, hr5⟩, hb5⟩
    have HAE := Lib.hid (Row8.arg hr5 rfl (right_short HR.out))
    have HCE := Lib.hid (HCD.out.trans (hb5.mono HCD.out.size))
    have HBE := Lib.hid (HBD.out.trans (hb5.mono HBD.out.size))
    have HXE := Lib.hid (show ∃ u1 u2 u3, wE.heap[wB.heap.size]? = some (.cells #[u1, u2, u3] 116 (0, 0)) by
      obtain ⟨u1, u2, u3, h⟩ := HXD.out
      exact ⟨u1, u2, u3, (hb5.block _ HXlD.out).trans h⟩)
    have HXlE := Lib.hid (Nat.lt_of_lt_of_le HXlD.out hb5.size)
    clear hr5 hb5 HXD HXlD HCD HBD z0 z1 z2
    go_wp2_with fail
    refine (all8_any HAE.out (HE.out.later HBE.out).tabs HXE.out HXlE.out (right_back HR.out HO0.out.1)).mono ?_
    rintro e wF ⟨rfl, hf, B, d, hxc, s1⟩
    have HCF := Lib.hid (HCE.out.trans (hf.below HCE.out.size (fun g hg => by rw [List.mem_singleton.1 hg]; exact Nat.le_refl _)))
    have HBF := Lib.hid (HBB.out.trans (HCF.out.mono HBB.out.size))
    have z0 := keep1 HKB.out.2.1 HCF.out
    have z1 := keep1 HKB.out.2.2.1 HCF.out
    have z2 := keep1 HKB.out.2.2.2 HCF.out
    have x0 : wF.cell? ⟨wB.heap.size, 0, none⟩ = some (.int .i64 i) := by rw [cellH hxc]; rfl
    have x1 : wF.cell? ⟨wB.heap.size, 1, none⟩ = some (.int .i32 tm) := by rw [cellH hxc]; rfl
    have hln : l0.length = n0 := HO0.out.2.2.1.len
    rw [idV_back, List.length_map, hln] at s1
    have x2 : wF.cell? ⟨wB.heap.size, 2, none⟩ = some (.slice B n0 d) := by rw [cellH hxc, List.length_map, hln]; rfl
    have hok := HO0.out.later8 HBF.out
    have CN := Lib.hid (fun (d : Nat) (os : Array Obj) => Calls.regrown_of (no8_b 0 (Go.Sort.grow (redrawn wF d) os)))
    have CL := Lib.hid (fun (d : Nat) (os : Array Obj) => Calls.regrown_of ((wLen_any wA.heap.size w3.heap.size (sesB i tm l0) (Go.Sort.grow (redrawn wF d) os) (HKB.out.1.below (HCF.out.trans ((below_regrown wF d os).mono HCF.out.size)))).mono fun e w' h => ⟨h.1, by rw [← h.2]; exact Below.refl _ _⟩))
    have CS := Lib.hid (fun (dd : Nat) (os : Array Obj) => by
      have h := Calls.regrown_of (sameSes_any i tm B n0 d l0 i tm A0 n0 c0 l0 (Go.Sort.grow (redrawn wF dd) os) (s1.belowMore (below_regrown wF dd os) (below_regrown wF dd os).size) (hok.2.2.1.belowMore (below_regrown wF dd os) (below_regrown wF dd os).size) hok.2.2.2.2.1)
      rw [decide_eq_true rfl] at h
      exact h)
    have D0 := fun d os => cell_regrown z0 d os
    have D1 := fun d os => cell_regrown z1 d os
    have D2 := fun d os => cell_regrown z2 d os
    have F0 := fun d os => cell_regrown x0 d os
    have F1 := fun d os => cell_regrown x1 d os
    have F2 := fun d os => cell_regrown x2 d os
    clear z0 z1 z2 x0 x1 x2 hok s1 hxc hf hln
    go_upto_region 16 with fail
    refine wp_region_quiet_below (by kernel_rfl) (by kernel_rfl) ?_
    repeat (go_big_quiet_step (first | (exact CN.out _ _) | (exact CL.out _ _) | (exact CS.out _ _)))
    refine wpQuiet_nil ?_
    intro _ hw'
    obtain ⟨⟨dq, osq⟩, hw''⟩ := hw'
    subst hw''
    have HBG := Lib.hid (HBF.out.trans ((below_regrown wF dq osq).mono HBF.out.size))
    clear D0 D1 D2 F0 F1 F2
    go_wp2_with fail
    go_ret
    exact ⟨rfl, HBG.out⟩
  · rw [decide_eq_false hR] at hok
    refine hok.mono ?_
    rintro e wD ⟨rfl, hbD⟩
    have HBD := Lib.hid (HBC.out.trans (hbD.mono HBC.out.size))
    clear hbD hok hR
    go_wp2_with fail
    go_ret
    exact ⟨rfl, HBD.out⟩
end Go.Proofs.YtbpmmmnphpkdjaaGreatDoor
