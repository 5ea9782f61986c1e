/- The walk of utf8.Valid: is a list of bytes UTF-8? Condition: the tables of unicode/utf8 hold what their initialisers lay; at most 2^32 bytes. -/
import Derived.Test.YtbpmmmnphpkdjaaGreatDoorJutB
import Derived.Shelf.Unicode.ValidAny
namespace Go.Proofs.YtbpmmmnphpkdjaaGreatDoor
open Go.RowKit Go.MapKept Go.Maps Go.Lib
/-- a slice value that holds these bytes, without spare room -/
def B8 (w : World) (B : Nat) (v : Value) (t : Bs) : Prop := ∃ A, v = .slice A t.length t.length ∧ Sl w B enc8 1 A t.length t
theorem B8.below {w w' : World} {B : Nat} {v : Value} {t : Bs} (h : B8 w B v t) (hb : Below B w w') : B8 w' B v t := by
  obtain ⟨A, e, hs⟩ := h
  exact ⟨A, e, hs.below hb⟩
theorem B8.form {w : World} {B : Nat} {v : Value} {t : Bs} (h : B8 w B v t) (h0 : 0 < t.length) : ∃ b off, v = .slice (some ⟨b, off, none⟩) t.length t.length ∧ b < B ∧ ∀ j, j < t.length → w.cell? ⟨b, off + j, none⟩ = some (.int .u8 ((t.getD j 0).toNat : Int)) := by
  obtain ⟨A, rfl, hs⟩ := h
  obtain ⟨b, off, rfl, hb, hc⟩ := hs.2 h0
  refine ⟨b, off, rfl, hb, fun j hj => ?_⟩
  have := hc j hj 0 _ rfl
  rw [show t.getD j 0 = t[j]! by rw [getElem!_pos t j hj, List.getD_eq_getElem?_getD, List.getElem?_eq_getElem hj]; rfl]
  simpa using this
theorem B8.drop {w : World} {B b off k : Nat} {t : Bs} (h : B8 w B (.slice (some ⟨b, off, none⟩) t.length t.length) t) (hk : k ≤ t.length) : B8 w B (.slice (if t.length = k then some ⟨b, off, none⟩ else some ⟨b, off + k, none⟩) (t.length - k) (t.length - k)) (t.drop k) := by
  obtain ⟨A, e, hs⟩ := h
  injection e with e _ _
  subst e
  have hl : (t.drop k).length = t.length - k := List.length_drop
  refine ⟨if t.length = k then some ⟨b, off, none⟩ else some ⟨b, off + k, none⟩, by rw [hl], ?_⟩
  rw [hl]
  refine ⟨hl, fun h0 => ?_⟩
  obtain ⟨b2, off2, e, hb, hc⟩ := hs.2 (by omega)
  injection e with e
  injection e with e1 e2 _
  subst e1; subst e2
  rw [if_neg (by omega)]
  refine ⟨_, _, rfl, hb, fun j hj i u hu => ?_⟩
  have e1 : (t.drop k)[j]! = t[k + j]! := by
    rw [getElem!_pos _ j (by rw [hl]; exact hj), getElem!_pos t (k + j) (by omega)]; simp
  have := hc (k + j) (by omega) i u (by rw [← hu, e1])
  rw [← this]; congr 2; omega
theorem slice_fromB (b off n k : Nat) (hk : k ≤ n) (w : World) : (Instr.sliceAt 41 (.slice (some ⟨b, off, none⟩) n n) (some (.int .i64 (k : Int))) none none).run Tryz.prog w = .ok (.slice (if n = k then some ⟨b, off, none⟩ else some ⟨b, off + k, none⟩) (n - k) (n - k)) w := by
  have h0 : (0 : Int) ≤ ↑k := by omega
  have h1 : ((k : Nat) : Int) ≤ ↑n := by omega
  go_simp
def asc8 (t : Bs) (k : Nat) : Prop := ∀ b ∈ t.take k, b.toNat < 128
theorem asc8_add {t : Bs} {a b : Nat} (h : asc8 t a) (k : asc8 (t.drop a) b) : asc8 t (a + b) := by
  unfold asc8 at *
  rw [List.take_add]
  intro x hx
  rcases List.mem_append.1 hx with h' | h'
  · exact h x h'
  · exact k x h'
theorem asc8_skip {t : Bs} {k : Nat} (h : asc8 t k) : validD (t.drop k) = validD t := (validD_ascii k _ h).symm
theorem asc8_one {t : Bs} (h0 : 0 < t.length) (h : (t.getD 0 0).toNat < 128) : asc8 t 1 := by
  unfold asc8
  match t, h0, h with
  | a :: r, _, h => intro x hx; simp at hx; subst hx; simpa using h
def wd8 (t : Bs) : Nat := leNat [t.getD 0 0, t.getD 1 0, t.getD 2 0, t.getD 3 0, t.getD 4 0, t.getD 5 0, t.getD 6 0, t.getD 7 0]
theorem take8L (t : Bs) (h : 8 ≤ t.length) : [t.getD 0 0, t.getD 1 0, t.getD 2 0, t.getD 3 0, t.getD 4 0, t.getD 5 0, t.getD 6 0, t.getD 7 0] = t.take 8 := by
  match t, h with
  | a0 :: a1 :: a2 :: a3 :: a4 :: a5 :: a6 :: a7 :: r, _ => simp
theorem wd8_asc (t : Bs) (h : 8 ≤ t.length) : (wd8 t &&& 9259542123273814144 = 0) ↔ asc8 t 8 := by
  have h8 : (t.take 8).length = 8 := by rw [List.length_take]; omega
  have := leNat_mask (t.take 8)
  rw [h8, maskN8] at this
  unfold wd8
  rw [take8L t h]
  exact this
theorem wd8_lt (t : Bs) : wd8 t < 18446744073709551616 := by
  have h := leNat_lt [t.getD 0 0, t.getD 1 0, t.getD 2 0, t.getD 3 0, t.getD 4 0, t.getD 5 0, t.getD 6 0, t.getD 7 0]
  show leNat _ < _
  simpa using h
set_option maxHeartbeats 8000000 in
set_option maxRecDepth 100000 in
theorem wd8_any {B : Nat} {v : Value} {t : Bs} (w : World) (h : B8 w B v t) (h8 : 8 ≤ t.length) :
    Calls Tryz.prog 263 #[v] w fun e w' => e = .returned (.int .u64 ((wd8 t : Nat) : Int)) ∧ ∃ q, w' = w.drewN q := by
  obtain ⟨b, off, rfl, _, hc⟩ := h.form (by omega)
  clear h
  have c0 := hc 0 (by omega)
  have q0 : (0 : Int) < (t.length : Int) := by omega
  have c1 := hc 1 (by omega)
  have q1 : (1 : Int) < (t.length : Int) := by omega
  have c2 := hc 2 (by omega)
  have q2 : (2 : Int) < (t.length : Int) := by omega
  have c3 := hc 3 (by omega)
  have q3 : (3 : Int) < (t.length : Int) := by omega
  have c4 := hc 4 (by omega)
  have q4 : (4 : Int) < (t.length : Int) := by omega
  have c5 := hc 5 (by omega)
  have q5 : (5 : Int) < (t.length : Int) := by omega
  have c6 := hc 6 (by omega)
  have q6 : (6 : Int) < (t.length : Int) := by omega
  have c7 := hc 7 (by omega)
  have q7 : (7 : Int) < (t.length : Int) := by omega
  clear hc
  rw [Nat.add_zero] at c0
  obtain ⟨x0, hx0⟩ : ∃ x0, t.getD 0 0 = x0 := ⟨_, rfl⟩
  have h0 : x0.toNat < 256 := x0.toNat_lt
  obtain ⟨x1, hx1⟩ : ∃ x1, t.getD 1 0 = x1 := ⟨_, rfl⟩
  have h1 : x1.toNat < 256 := x1.toNat_lt
  obtain ⟨x2, hx2⟩ : ∃ x2, t.getD 2 0 = x2 := ⟨_, rfl⟩
  have h2 : x2.toNat < 256 := x2.toNat_lt
  obtain ⟨x3, hx3⟩ : ∃ x3, t.getD 3 0 = x3 := ⟨_, rfl⟩
  have h3 : x3.toNat < 256 := x3.toNat_lt
  obtain ⟨x4, hx4⟩ : ∃ x4, t.getD 4 0 = x4 := ⟨_, rfl⟩
  have h4 : x4.toNat < 256 := x4.toNat_lt
  obtain ⟨x5, hx5⟩ : ∃ x5, t.getD 5 0 = x5 := ⟨_, rfl⟩
  have h5 : x5.toNat < 256 := x5.toNat_lt
  obtain ⟨x6, hx6⟩ : ∃ x6, t.getD 6 0 = x6 := ⟨_, rfl⟩
  have h6 : x6.toNat < 256 := x6.toNat_lt
  obtain ⟨x7, hx7⟩ : ∃ x7, t.getD 7 0 = x7 := ⟨_, rfl⟩
  have h7 : x7.toNat < 256 := x7.toNat_lt
  unfold wd8
  rw [hx0, hx1, hx2, hx3, hx4, hx5, hx6, hx7]
  rw [hx0] at c0
  rw [hx1] at c1
  rw [hx2] at c2
  rw [hx3] at c3
  rw [hx4] at c4
  rw [hx5] at c5
  rw [hx6] at c6
  rw [hx7] at c7
  have hv : ((leNat [x0, x1, x2, x3, x4, x5, x6, x7] : Nat) : Int) = (x0.toNat : Int) + (x1.toNat : Int) * 256 + (x2.toNat : Int) * 65536 + (x3.toNat : Int) * 16777216 + (x4.toNat : Int) * 4294967296 + (x5.toNat : Int) * 1099511627776 + (x6.toNat : Int) * 281474976710656 + (x7.toNat : Int) * 72057594037927936 := by
    simp only [leNat]
    push_cast
    omega
  clear hx0 hx1 hx2 hx3 hx4 hx5 hx6 hx7
  have HV := Lib.hid hv
  clear hv
  go_enter Tryz.func263, Tryz.ntmps263
  go_wp2
  go_quiet (fail)
  go_wp2
  go_ret
  refine ⟨?_, _, rfl⟩
  simp (disch := omega) only [u64_or8, u64_or16, u64_or24, u64_or32, u64_or40, u64_or48, u64_or56]
  rw [HV.out]
  rfl
theorem wd8_q {B : Nat} {v : Value} {t : Bs} {w : World} (h : B8 w B v t) (h8 : 8 ≤ t.length) (N : Nat) (hN : wd8 t = N) (q : Nat) :
    Calls Tryz.prog 263 #[v] (w.drewN q) fun e w' => e = .returned (.int .u64 (N : Int)) ∧ ∃ n, w' = w.drewN n := by
  refine (wd8_any (w.drewN q) (h.below (drewN_below (Below.refl _ _) q)) h8).mono ?_
  rintro e w' ⟨rfl, n, rfl⟩
  rw [hN]
  exact ⟨rfl, q + n, World.drewN_drewN ..⟩
theorem wd8_0 {B : Nat} {v : Value} {t : Bs} {w : World} (h : B8 w B v t) (h8 : 8 ≤ t.length) (N : Nat) (hN : wd8 t = N) :
    Calls Tryz.prog 263 #[v] w fun e w' => e = .returned (.int .u64 (N : Int)) ∧ ∃ n, w' = w.drewN n := wd8_q h h8 N hN 0
set_option maxHeartbeats 16000000 in
set_option maxRecDepth 1000000 in
theorem valid8_any {B : Nat} {A0 : Option Addr} {n0 c0 : Nat} {s : Bs} (w : World) (h : Sl w B enc8 1 A0 n0 s) (hB : B ≤ w.heap.size) (hc0 : n0 ≤ c0) (hn0 : n0 ≤ 4294967296) (hT : Lib.Utf8Tabs 0 1 w) :
    Calls Tryz.prog 241 #[.slice A0 n0 c0] w fun e w' => e = .returned (.bool (validD s)) ∧ Below w.heap.size w w' := by
  obtain ⟨ANS, hANS⟩ : ∃ ANS, validD s = ANS := ⟨_, rfl⟩
  rw [hANS]
  have H8 := Lib.hid (show B8 w B (.slice A0 n0 n0) s from ⟨A0, by rw [h.len], h.len.symm ▸ h⟩)
  have HL := Lib.hid h.len
  have HANS := Lib.hid hANS
  have hsl0 : ∀ w : World, (Instr.sliceAt 41 (.slice A0 n0 c0) none (some (.int .i64 (n0 : Int))) (some (.int .i64 (n0 : Int)))).run Tryz.prog w = .ok (.slice A0 n0 n0) w := fun w => by
    have h0 : ((n0 : Nat) : Int) ≤ ↑c0 := by omega
    go_simp
  clear h hANS
  go_enter Tryz.func241, Tryz.ntmps241
  go_wp2_with fail
  go_loopg [0] (s.length + 1) (fun gk s0 wx => Below w.heap.size w wx ∧ ∃ t : Bs, B8 wx B s0 t ∧ validD t = ANS ∧ t.length < gk ∧ t.length ≤ 4294967296)
  case atStart => exact ⟨Below.refl _ _, s, H8.out, HANS.out, by omega, by rw [HL.out]; exact hn0⟩
  case round =>
    obtain ⟨hbw, t, h8, hv, hg, hts⟩ := hrel
    have HTr := Lib.hid (Utf8Tabs_below hT hbw)
    have HBW := Lib.hid hbw
    have HV := Lib.hid hv
    have HBs := Lib.hid (show B ≤ wr.heap.size from Nat.le_trans hB hbw.size)
    clear hbw hv
    by_cases h0 : 0 < t.length
    · obtain ⟨g', rfl⟩ : ∃ g', gk = g' + 1 := ⟨gk - 1, by omega⟩
      have h0z : (0 : Int) < (t.length : Int) := by omega
      obtain ⟨b, off, rfl, hbB, hc⟩ := h8.form h0
      have H8 := Lib.hid h8
      clear h8
      obtain ⟨x0, hx0⟩ : ∃ x0, t.getD 0 0 = x0 := ⟨_, rfl⟩
      have hx0lt : x0.toNat < 256 := x0.toNat_lt
      have c0 := hc 0 h0
      rw [Nat.add_zero, hx0] at c0
      have HX0 := Lib.hid hx0
      clear hc hx0
      by_cases hasc : x0.toNat < 128
      · as_aux_lemma =>
        have hascz : (x0.toNat : Int) < 128 := by omega
        have a1 : asc8 t 1 := asc8_one h0 (by rw [HX0.out]; exact hasc)
        obtain ⟨t1, ht1⟩ : ∃ t1, t.drop 1 = t1 := ⟨_, rfl⟩
        have z1 : t1.length + 1 = t.length := by rw [← ht1, List.length_drop]; omega
        have V1 := Lib.hid (show validD t1 = ANS by rw [← ht1, asc8_skip a1]; exact HV.out)
        have hs1 := slice_fromB b off t.length 1 h0
        have hB1 := H8.out.drop h0
        rw [ht1] at hB1
        rw [show ((1 : Nat) : Int) = 1 from rfl] at hs1
        rw [show t.length - 1 = t1.length by omega] at hs1 hB1
        generalize (if t.length = 1 then some (Addr.mk b off none) else some (Addr.mk b (off + 1) none)) = A1 at hs1 hB1
        have HB1 := Lib.hid hB1
        clear a1 hB1 ht1
        by_cases c8 : 8 < t1.length
        · have c8z : (8 : Int) < (t1.length : Int) := by omega
          obtain ⟨b1, off1, e1, hb1B, _⟩ := HB1.out.form (by omega)
          injection e1 with e1 _ _
          subst e1
          obtain ⟨N1, hN1⟩ : ∃ N1, wd8 t1 = N1 := ⟨_, rfl⟩
          have lN1 : N1 < 18446744073709551616 := hN1 ▸ wd8_lt t1
          have CN1 := Lib.hid (wd8_q HB1.out (by omega) N1 hN1)
          have DN1 := Lib.hid (wd8_0 HB1.out (by omega) N1 hN1)
          have kN1 := wd8_asc t1 (by omega)
          rw [hN1] at kN1
          have KN1 := Lib.hid kN1
          clear kN1 hN1
          have hand1 : bits .and .u64 (N1 : Int) 9259542123273814144 = ((N1 &&& 9259542123273814144 : Nat) : Int) := u64_and_nat N1 9259542123273814144 lN1 (by omega)
          have k1 : N1 &&& 9259542123273814144 = 0 → asc8 t1 8 := KN1.out.1
          generalize N1 &&& 9259542123273814144 = Z1 at hand1 k1
          have K1 := Lib.hid k1
          clear k1
          by_cases hz1 : Z1 = 0
          · have hz1b : ((Z1 : Int) == 0) = true := by simp [hz1]
            obtain ⟨t2, ht2⟩ : ∃ t2, t1.drop 8 = t2 := ⟨_, rfl⟩
            have zt2 : t2.length + 8 = t1.length := by rw [← ht2, List.length_drop]; omega
            have st2 := slice_fromB b1 off1 t1.length 8 (by omega)
            have Bt2 := HB1.out.drop (k := 8) (by omega)
            rw [ht2] at Bt2
            rw [show ((8 : Nat) : Int) = 8 from rfl] at st2
            rw [show t1.length - 8 = t2.length by omega] at st2 Bt2
            rw [if_neg (by omega)] at st2 Bt2
            generalize off1 + 8 = off2 at st2 Bt2
            have Ht2 := Lib.hid ht2
            have HBt2 := Lib.hid Bt2
            clear ht2 Bt2
            have V2 := Lib.hid (show validD t2 = ANS by rw [← Ht2.out, asc8_skip (K1.out hz1)]; exact V1.out)
            go_wp2_with (with_reducible refine DN1.out.mono ?_; rintro e W1 ⟨rfl, q1, rfl⟩)
            have HBQ := Lib.hid (drewN_below HBW.out q1)
            have HBt2q := Lib.hid (show B8 (wr.drewN q1) B _ t2 from HBt2.out)
            generalize wr.drewN q1 = wq at HBQ HBt2q ⊢
            clear CN1 DN1 HBt2
            by_cases c16 : 16 < t2.length
            · as_aux_lemma =>
              have c16z : (16 : Int) < (t2.length : Int) := by omega
              obtain ⟨t2b, ht2b⟩ : ∃ t2b, t2.drop 8 = t2b := ⟨_, rfl⟩
              have zt2b : t2b.length + 8 = t2.length := by rw [← ht2b, List.length_drop]; omega
              have st2b := slice_fromB b1 off2 t2.length 8 (by omega)
              have Bt2b := HBt2q.out.drop (k := 8) (by omega)
              rw [ht2b] at Bt2b
              rw [show ((8 : Nat) : Int) = 8 from rfl] at st2b
              rw [show t2.length - 8 = t2b.length by omega] at st2b Bt2b
              rw [if_neg (by omega)] at st2b Bt2b
              generalize off2 + 8 = off2b at st2b Bt2b
              have Ht2b := Lib.hid ht2b
              have HBt2b := Lib.hid Bt2b
              clear ht2b Bt2b
              obtain ⟨N2, hN2⟩ : ∃ N2, wd8 t2 = N2 := ⟨_, rfl⟩
              have lN2 : N2 < 18446744073709551616 := hN2 ▸ wd8_lt t2
              have CN2 := Lib.hid (wd8_q HBt2q.out (by omega) N2 hN2)
              have DN2 := Lib.hid (wd8_0 HBt2q.out (by omega) N2 hN2)
              have kN2 := wd8_asc t2 (by omega)
              rw [hN2] at kN2
              have KN2 := Lib.hid kN2
              clear kN2 hN2
              obtain ⟨N3, hN3⟩ : ∃ N3, wd8 t2b = N3 := ⟨_, rfl⟩
              have lN3 : N3 < 18446744073709551616 := hN3 ▸ wd8_lt t2b
              have CN3 := Lib.hid (wd8_q HBt2b.out (by omega) N3 hN3)
              have DN3 := Lib.hid (wd8_0 HBt2b.out (by omega) N3 hN3)
              have kN3 := wd8_asc t2b (by omega)
              rw [hN3] at kN3
              have KN3 := Lib.hid kN3
              clear kN3 hN3
              have hor2 : bits .or .u64 (N2 : Int) (N3 : Int) = ((N2 ||| N3 : Nat) : Int) := u64_or_nat N2 N3 lN2 lN3
              have lor2 : N2 ||| N3 < 18446744073709551616 := Nat.or_lt_two_pow (n := 64) lN2 lN3
              have hand2 : bits .and .u64 ((N2 ||| N3 : Nat) : Int) 9259542123273814144 = (((N2 ||| N3) &&& 9259542123273814144 : Nat) : Int) := u64_and_nat _ 9259542123273814144 lor2 (by omega)
              have k2 : (N2 ||| N3) &&& 9259542123273814144 = 0 → asc8 t2 16 := fun h0' => by
                obtain ⟨e1, e2⟩ := (Lib.or_mask N2 N3 _).1 h0'
                exact asc8_add (a := 8) (b := 8) (KN2.out.1 e1) (by rw [Ht2b.out]; exact KN3.out.1 e2)
              generalize N2 ||| N3 = O2 at hor2 hand2 k2 lor2
              generalize O2 &&& 9259542123273814144 = Z2 at hand2 k2
              have K2 := Lib.hid k2
              clear k2
              by_cases hz2 : Z2 = 0
              · have hz2b : ((Z2 : Int) == 0) = true := by simp [hz2]
                obtain ⟨t3, ht3⟩ : ∃ t3, t2.drop 16 = t3 := ⟨_, rfl⟩
                have zt3 : t3.length + 16 = t2.length := by rw [← ht3, List.length_drop]; omega
                have st3 := slice_fromB b1 off2 t2.length 16 (by omega)
                have Bt3 := HBt2q.out.drop (k := 16) (by omega)
                rw [ht3] at Bt3
                rw [show ((16 : Nat) : Int) = 16 from rfl] at st3
                rw [show t2.length - 16 = t3.length by omega] at st3 Bt3
                rw [if_neg (by omega)] at st3 Bt3
                generalize off2 + 16 = off3 at st3 Bt3
                have Ht3 := Lib.hid ht3
                have HBt3 := Lib.hid Bt3
                clear ht3 Bt3
                have V3 := Lib.hid (show validD t3 = ANS by rw [← Ht3.out, asc8_skip (K2.out hz2)]; exact V2.out)
                go_quiet (first | (with_reducible exact CN2.out _) | (with_reducible exact CN3.out _))
                have HBR := Lib.hid (drewN_below HBQ.out nq)
                have HBt3q := Lib.hid (show B8 (wq.drewN nq) B _ t3 from HBt3.out)
                generalize wq.drewN nq = wq2 at HBR HBt3q ⊢
                clear CN2 CN3 DN2 DN3 HBt3
                go_wp2_with fail
                go_loopg [0] (t3.length + 1) (fun g2 s0 wx => Below w.heap.size w wx ∧ ∃ u : Bs, B8 wx B s0 u ∧ validD u = ANS ∧ u.length < g2 ∧ u.length ≤ t3.length)
                case atStart => exact ⟨HBR.out, t3, HBt3q.out, V3.out, by omega, Nat.le_refl _⟩
                case round =>
                 as_aux_lemma =>
                  obtain ⟨hbu, u, hu8, vu, hgu, hut⟩ := hrel
                  have HBU := Lib.hid hbu
                  have VU := Lib.hid vu
                  clear hbu vu
                  by_cases c32 : 32 < u.length
                  · obtain ⟨g3, rfl⟩ : ∃ g3, gk = g3 + 1 := ⟨gk - 1, by omega⟩
                    have c32z : (32 : Int) < (u.length : Int) := by omega
                    obtain ⟨bu, offu, rfl, _, _⟩ := hu8.form (by omega)
                    have HU8 := Lib.hid hu8
                    clear hu8
                    obtain ⟨ub, hub⟩ : ∃ ub, u.drop 8 = ub := ⟨_, rfl⟩
                    have zub : ub.length + 8 = u.length := by rw [← hub, List.length_drop]; omega
                    have sub := slice_fromB bu offu u.length 8 (by omega)
                    have Bub := HU8.out.drop (k := 8) (by omega)
                    rw [hub] at Bub
                    rw [show ((8 : Nat) : Int) = 8 from rfl] at sub
                    rw [show u.length - 8 = ub.length by omega] at sub Bub
                    rw [if_neg (by omega)] at sub Bub
                    generalize offu + 8 = offb at sub Bub
                    have Hub := Lib.hid hub
                    have HBub := Lib.hid Bub
                    clear hub Bub
                    obtain ⟨uc, huc⟩ : ∃ uc, u.drop 16 = uc := ⟨_, rfl⟩
                    have zuc : uc.length + 16 = u.length := by rw [← huc, List.length_drop]; omega
                    have suc := slice_fromB bu offu u.length 16 (by omega)
                    have Buc := HU8.out.drop (k := 16) (by omega)
                    rw [huc] at Buc
                    rw [show ((16 : Nat) : Int) = 16 from rfl] at suc
                    rw [show u.length - 16 = uc.length by omega] at suc Buc
                    rw [if_neg (by omega)] at suc Buc
                    generalize offu + 16 = offc at suc Buc
                    have Huc := Lib.hid huc
                    have HBuc := Lib.hid Buc
                    clear huc Buc
                    obtain ⟨ud, hud⟩ : ∃ ud, u.drop 24 = ud := ⟨_, rfl⟩
                    have zud : ud.length + 24 = u.length := by rw [← hud, List.length_drop]; omega
                    have sud := slice_fromB bu offu u.length 24 (by omega)
                    have Bud := HU8.out.drop (k := 24) (by omega)
                    rw [hud] at Bud
                    rw [show ((24 : Nat) : Int) = 24 from rfl] at sud
                    rw [show u.length - 24 = ud.length by omega] at sud Bud
                    rw [if_neg (by omega)] at sud Bud
                    generalize offu + 24 = offd at sud Bud
                    have Hud := Lib.hid hud
                    have HBud := Lib.hid Bud
                    clear hud Bud
                    obtain ⟨u2, hu2⟩ : ∃ u2, u.drop 32 = u2 := ⟨_, rfl⟩
                    have zu2 : u2.length + 32 = u.length := by rw [← hu2, List.length_drop]; omega
                    have su2 := slice_fromB bu offu u.length 32 (by omega)
                    have Bu2 := HU8.out.drop (k := 32) (by omega)
                    rw [hu2] at Bu2
                    rw [show ((32 : Nat) : Int) = 32 from rfl] at su2
                    rw [show u.length - 32 = u2.length by omega] at su2 Bu2
                    rw [if_neg (by omega)] at su2 Bu2
                    generalize offu + 32 = offe at su2 Bu2
                    have Hu2 := Lib.hid hu2
                    have HBu2 := Lib.hid Bu2
                    clear hu2 Bu2
                    obtain ⟨M0, hM0⟩ : ∃ M0, wd8 u = M0 := ⟨_, rfl⟩
                    have lM0 : M0 < 18446744073709551616 := hM0 ▸ wd8_lt u
                    have CM0 := Lib.hid (wd8_q HU8.out (by omega) M0 hM0)
                    have DM0 := Lib.hid (wd8_0 HU8.out (by omega) M0 hM0)
                    have kM0 := wd8_asc u (by omega)
                    rw [hM0] at kM0
                    have KM0 := Lib.hid kM0
                    clear kM0 hM0
                    obtain ⟨M1, hM1⟩ : ∃ M1, wd8 ub = M1 := ⟨_, rfl⟩
                    have lM1 : M1 < 18446744073709551616 := hM1 ▸ wd8_lt ub
                    have CM1 := Lib.hid (wd8_q HBub.out (by omega) M1 hM1)
                    have DM1 := Lib.hid (wd8_0 HBub.out (by omega) M1 hM1)
                    have kM1 := wd8_asc ub (by omega)
                    rw [hM1] at kM1
                    have KM1 := Lib.hid kM1
                    clear kM1 hM1
                    obtain ⟨M2, hM2⟩ : ∃ M2, wd8 uc = M2 := ⟨_, rfl⟩
                    have lM2 : M2 < 18446744073709551616 := hM2 ▸ wd8_lt uc
                    have CM2 := Lib.hid (wd8_q HBuc.out (by omega) M2 hM2)
                    have DM2 := Lib.hid (wd8_0 HBuc.out (by omega) M2 hM2)
                    have kM2 := wd8_asc uc (by omega)
                    rw [hM2] at kM2
                    have KM2 := Lib.hid kM2
                    clear kM2 hM2
                    obtain ⟨M3, hM3⟩ : ∃ M3, wd8 ud = M3 := ⟨_, rfl⟩
                    have lM3 : M3 < 18446744073709551616 := hM3 ▸ wd8_lt ud
                    have CM3 := Lib.hid (wd8_q HBud.out (by omega) M3 hM3)
                    have DM3 := Lib.hid (wd8_0 HBud.out (by omega) M3 hM3)
                    have kM3 := wd8_asc ud (by omega)
                    rw [hM3] at kM3
                    have KM3 := Lib.hid kM3
                    clear kM3 hM3
                    have ho1 : bits .or .u64 (M0 : Int) (M1 : Int) = ((M0 ||| M1 : Nat) : Int) := u64_or_nat M0 M1 lM0 lM1
                    have ho2 : bits .or .u64 (M2 : Int) (M3 : Int) = ((M2 ||| M3 : Nat) : Int) := u64_or_nat M2 M3 lM2 lM3
                    have lo1 : M0 ||| M1 < 18446744073709551616 := Nat.or_lt_two_pow (n := 64) lM0 lM1
                    have lo2 : M2 ||| M3 < 18446744073709551616 := Nat.or_lt_two_pow (n := 64) lM2 lM3
                    have ho3 : bits .or .u64 ((M0 ||| M1 : Nat) : Int) ((M2 ||| M3 : Nat) : Int) = (((M0 ||| M1) ||| (M2 ||| M3) : Nat) : Int) := u64_or_nat _ _ lo1 lo2
                    have lo3 : (M0 ||| M1) ||| (M2 ||| M3) < 18446744073709551616 := Nat.or_lt_two_pow (n := 64) lo1 lo2
                    have hand3 : bits .and .u64 (((M0 ||| M1) ||| (M2 ||| M3) : Nat) : Int) 9259542123273814144 = ((((M0 ||| M1) ||| (M2 ||| M3)) &&& 9259542123273814144 : Nat) : Int) := u64_and_nat _ 9259542123273814144 lo3 (by omega)
                    have k3 : ((M0 ||| M1) ||| (M2 ||| M3)) &&& 9259542123273814144 = 0 → asc8 u 32 := fun h0' => by
                      obtain ⟨e01, e23⟩ := (Lib.or_mask _ _ _).1 h0'
                      obtain ⟨e0, e1⟩ := (Lib.or_mask _ _ _).1 e01
                      obtain ⟨e2, e3⟩ := (Lib.or_mask _ _ _).1 e23
                      have s16 : asc8 u 16 := asc8_add (a := 8) (b := 8) (KM0.out.1 e0) (by rw [Hub.out]; exact KM1.out.1 e1)
                      have s24 : asc8 u 24 := asc8_add (a := 16) (b := 8) s16 (by rw [Huc.out]; exact KM2.out.1 e2)
                      exact asc8_add (a := 24) (b := 8) s24 (by rw [Hud.out]; exact KM3.out.1 e3)
                    generalize M0 ||| M1 = P1 at ho1 ho3 hand3 k3 lo1 lo3
                    generalize M2 ||| M3 = P2 at ho2 ho3 hand3 k3 lo2 lo3
                    generalize P1 ||| P2 = P3 at ho3 hand3 k3 lo3
                    generalize P3 &&& 9259542123273814144 = Z3 at hand3 k3
                    have K3 := Lib.hid k3
                    clear k3
                    by_cases hz3 : Z3 = 0
                    · have hz3b : ((Z3 : Int) == 0) = true := by simp [hz3]
                      have VU2 := Lib.hid (show validD u2 = ANS by rw [← Hu2.out, asc8_skip (K3.out hz3)]; exact VU.out)
                      go_wp2_with fail
                      go_quiet (first | (with_reducible exact CM0.out _) | (with_reducible exact CM1.out _) | (with_reducible exact CM2.out _) | (with_reducible exact CM3.out _))
                      go_wp2
                      go_roundg g3
                      case measure => omega
                      case rel => exact ⟨drewN_below HBU.out nq, u2, HBu2.out, VU2.out, by omega, by omega⟩
                    · have hz3b : ((Z3 : Int) == 0) = false := by simp; omega
                      go_wp2_with fail
                      go_quiet (first | (with_reducible exact CM0.out _) | (with_reducible exact CM1.out _) | (with_reducible exact CM2.out _) | (with_reducible exact CM3.out _))
                      go_wp2
                      go_roundg g'
                      case measure => omega
                      case rel => exact ⟨drewN_below HBU.out nq, u, HU8.out, VU.out, by omega, by omega⟩
                  · have c32z : ¬ ((32 : Int) < (u.length : Int)) := by omega
                    have c32b : decide ((32 : Int) < (u.length : Int)) = false := decide_eq_false c32z
                    obtain ⟨Au, rfl, hsu⟩ := hu8
                    have HSU := Lib.hid hsu
                    clear hsu
                    go_wp2_with fail
                    go_quiet (fail)
                    go_wp2
                    go_roundg g'
                    case measure => omega
                    case rel => exact ⟨drewN_below HBU.out nq, u, ⟨Au, rfl, HSU.out⟩, VU.out, by omega, by omega⟩
              · have hz2b : ((Z2 : Int) == 0) = false := by simp; omega
                go_quiet (first | (with_reducible exact CN2.out _) | (with_reducible exact CN3.out _))
                go_wp2
                go_roundg g'
                case measure => omega
                case rel => exact ⟨drewN_below HBQ.out nq, t2, HBt2q.out, V2.out, by omega, by omega⟩
            · have c16z : ¬ ((16 : Int) < (t2.length : Int)) := by omega
              have c16b : decide ((16 : Int) < (t2.length : Int)) = false := decide_eq_false c16z
              go_quiet (fail)
              go_wp2
              go_roundg g'
              case measure => omega
              case rel => exact ⟨drewN_below HBQ.out nq, t2, HBt2q.out, V2.out, by omega, by omega⟩
          · have hz1b : ((Z1 : Int) == 0) = false := by simp; omega
            go_wp2_with (with_reducible refine DN1.out.mono ?_; rintro e W1 ⟨rfl, q1, rfl⟩)
            go_roundg g'
            case measure => omega
            case rel => exact ⟨drewN_below HBW.out q1, t1, HB1.out, V1.out, by omega, by omega⟩
        · have c8z : ¬ ((8 : Int) < (t1.length : Int)) := by omega
          go_wp2
          go_roundg g'
          case measure => omega
          case rel => exact ⟨HBW.out, t1, HB1.out, V1.out, by omega, by omega⟩
      · as_aux_lemma =>
        have hge : 128 ≤ x0.toNat := by omega
        have hascz : ¬ ((x0.toNat : Int) < 128) := by omega
        obtain ⟨x1, hx1⟩ : ∃ x1, t.getD 1 0 = x1 := ⟨_, rfl⟩
        obtain ⟨x2, hx2⟩ : ∃ x2, t.getD 2 0 = x2 := ⟨_, rfl⟩
        obtain ⟨x3, hx3⟩ : ∃ x3, t.getD 3 0 = x3 := ⟨_, rfl⟩
        have l1 := x1.toNat_lt; have l2 := x2.toNat_lt; have l3 := x3.toNat_lt
        have hne : t ≠ [] := fun h => by rw [h] at h0; simp at h0
        have hlead := Lib.validD_lead t hne (by rw [HX0.out]; exact hge)
        rw [HX0.out, hx1, hx2, hx3, HV.out] at hlead
        have hc0 := HTr.out.1 x0.toNat hx0lt
        have hXlt : Lib.firstT x0.toNat < 256 := by rcases Lib.firstT_cases x0.toNat with h | h | h | h | h | h | h | h | h <;> omega
        obtain ⟨X, hX⟩ : ∃ X, Lib.firstT x0.toNat = X := ⟨_, rfl⟩
        rw [hX] at hc0 hXlt hlead
        have h7 := and7 ⟨X, hXlt⟩
        simp only at h7
        have ha0 : wr.cell? ⟨1, X / 16 * 2, none⟩ = some (.int .u8 (Lib.accLo (X / 16))) := by rw [Nat.mul_comm]; exact (HTr.out.2 (X / 16) (by omega)).1
        have ha1 : wr.cell? ⟨1, X / 16 * 2 + 1, none⟩ = some (.int .u8 (Lib.accHi (X / 16))) := by rw [Nat.mul_comm]; exact (HTr.out.2 (X / 16) (by omega)).2
        obtain ⟨LO, hLO⟩ : ∃ LO, Lib.accLo (X / 16) = LO := ⟨_, rfl⟩
        obtain ⟨HI, hHI⟩ : ∃ HI, Lib.accHi (X / 16) = HI := ⟨_, rfl⟩
        rw [hLO] at ha0 hlead
        rw [hHI] at ha1 hlead
        obtain ⟨SZ, hSZ⟩ : ∃ SZ, X % 8 = SZ := ⟨_, rfl⟩
        rw [hSZ] at hlead
        have HWA := Lib.hid (HBW.out.alloc HBW.out.size (.cells #[.int .u8 (LO : Int), .int .u8 (HI : Int)] 257))
        have HCA := Lib.hid (H8.out.below ((Below.refl B wr).alloc HBs.out (.cells #[.int .u8 (LO : Int), .int .u8 (HI : Int)] 257)))
        have HG := Lib.hid (heap_alloc_new wr (.cells #[.int .u8 (LO : Int), .int .u8 (HI : Int)] 257))
        have HX1 := Lib.hid hx1; have HX2 := Lib.hid hx2; have HX3 := Lib.hid hx3
        clear hX hLO hHI hne hx1 hx2 hx3
        by_cases s2 : SZ = 2
        · as_aux_lemma =>
          subst s2
          have hSZz : (X : Int) % 8 = 2 := by omega
          simp only [Lib.checkN, Nat.reduceEqDiff, if_true, if_false] at hlead
          have HLD := Lib.hid hlead
          clear hlead
          go_upto_region 18 with fail
          generalize wr.alloc (.cells #[.int .u8 (LO : Int), .int .u8 (HI : Int)] 257) = W at HWA HCA HG ⊢
          obtain ⟨b', off', e', hbB', hcA⟩ := HCA.out.form h0
          injection e' with e' _ _
          injection e' with e'
          injection e' with e1 e2 _
          subst e1; subst e2
          have k0 : W.cell? ⟨wr.heap.size, 0, none⟩ = some (.int .u8 (LO : Int)) := by rw [cellH HG.out]; rfl
          have k1 : W.cell? ⟨wr.heap.size, 1, none⟩ = some (.int .u8 (HI : Int)) := by rw [cellH HG.out]; rfl
          have HCC := Lib.hid hcA
          clear hcA
          go_cut [103] from 85 to 103 (fun c wx => c = .bool (decide (t.length < 2 ∨ x1.toNat < LO ∨ HI < x1.toNat)) ∧ ∃ q, wx = W.drewN q)
          case first =>
            by_cases q0 : t.length < 2
            · have q0z : (t.length : Int) < 2 := by omega
              go_quiet (fail)
              go_wp2
              go_meet
              exact ⟨congrArg Value.bool (decide_eq_true (p := t.length < 2 ∨ x1.toNat < LO ∨ HI < x1.toNat) (by omega)).symm, nq, rfl⟩
            · have q0z : ¬ ((t.length : Int) < 2) := by omega
              have hz1 : (1 : Int) < (t.length : Int) := by omega
              have y1 := HCC.out 1 (by omega)
              rw [HX1.out] at y1
              by_cases q1 : x1.toNat < LO
              · have q1z : (x1.toNat : Int) < (LO : Int) := by omega
                go_quiet (fail)
                go_wp2
                go_meet
                exact ⟨congrArg Value.bool (decide_eq_true (p := t.length < 2 ∨ x1.toNat < LO ∨ HI < x1.toNat) (by omega)).symm, nq, rfl⟩
              · have q1z : ¬ ((x1.toNat : Int) < (LO : Int)) := by omega
                by_cases q2 : HI < x1.toNat
                · have q2z : (HI : Int) < (x1.toNat : Int) := by omega
                  go_quiet (fail)
                  go_wp2
                  go_meet
                  exact ⟨congrArg Value.bool (decide_eq_true (p := t.length < 2 ∨ x1.toNat < LO ∨ HI < x1.toNat) (by omega)).symm, nq, rfl⟩
                · have q2z : ¬ ((HI : Int) < (x1.toNat : Int)) := by omega
                  go_quiet (fail)
                  go_wp2
                  go_meet
                  exact ⟨congrArg Value.bool (decide_eq_false (p := t.length < 2 ∨ x1.toNat < LO ∨ HI < x1.toNat) (by omega)).symm, nq, rfl⟩
          case rest =>
            obtain ⟨rfl, q, rfl⟩ := hcut
            by_cases hb : t.length < 2 ∨ x1.toNat < LO ∨ HI < x1.toNat
            · have hbd : decide (t.length < 2 ∨ x1.toNat < LO ∨ HI < x1.toNat) = true := decide_eq_true hb
              have hl2 := HLD.out
              rw [if_pos hb] at hl2
              have HL2 := Lib.hid hl2
              clear hl2
              go_wp2
              all_goals (go_ret; exact ⟨by rw [HL2.out]; rfl, drewN_below HWA.out q⟩)
            · have hbd : decide (t.length < 2 ∨ x1.toNat < LO ∨ HI < x1.toNat) = false := decide_eq_false hb
              have hl2 := HLD.out
              rw [if_neg hb] at hl2
              have HL2 := Lib.hid hl2
              clear hl2
              have hsl := slice_fromB b off t.length 2 (by omega)
              have hBd := HCA.out.drop (k := 2) (by omega)
              rw [show ((2 : Nat) : Int) = 2 from rfl] at hsl
              generalize (if t.length = 2 then some (Addr.mk b off none) else some (Addr.mk b (off + 2) none)) = A2 at hsl hBd
              have hlz : (t.drop 2).length = t.length - 2 := List.length_drop
              have HBD := Lib.hid hBd
              clear hBd
              go_wp2
              go_roundg g'
              case measure => omega
              case rel => exact ⟨drewN_below HWA.out q, _, HBD.out, HL2.out.symm, by omega, by omega⟩
        by_cases s3 : SZ = 3
        · as_aux_lemma =>
          subst s3
          have hSZz : (X : Int) % 8 = 3 := by omega
          simp only [Lib.checkN, Nat.reduceEqDiff, if_true, if_false] at hlead
          have HLD := Lib.hid hlead
          clear hlead
          go_upto_region 22 with fail
          generalize wr.alloc (.cells #[.int .u8 (LO : Int), .int .u8 (HI : Int)] 257) = W at HWA HCA HG ⊢
          obtain ⟨b', off', e', hbB', hcA⟩ := HCA.out.form h0
          injection e' with e' _ _
          injection e' with e'
          injection e' with e1 e2 _
          subst e1; subst e2
          have k0 : W.cell? ⟨wr.heap.size, 0, none⟩ = some (.int .u8 (LO : Int)) := by rw [cellH HG.out]; rfl
          have k1 : W.cell? ⟨wr.heap.size, 1, none⟩ = some (.int .u8 (HI : Int)) := by rw [cellH HG.out]; rfl
          have HCC := Lib.hid hcA
          clear hcA
          go_cut [138] from 108 to 138 (fun c wx => c = .bool (decide (t.length < 3 ∨ x1.toNat < LO ∨ HI < x1.toNat ∨ x2.toNat < 128 ∨ 191 < x2.toNat)) ∧ ∃ q, wx = W.drewN q)
          case first =>
            by_cases q0 : t.length < 3
            · have q0z : (t.length : Int) < 3 := by omega
              go_quiet (fail)
              go_wp2
              go_meet
              exact ⟨congrArg Value.bool (decide_eq_true (p := t.length < 3 ∨ x1.toNat < LO ∨ HI < x1.toNat ∨ x2.toNat < 128 ∨ 191 < x2.toNat) (by omega)).symm, nq, rfl⟩
            · have q0z : ¬ ((t.length : Int) < 3) := by omega
              have hz1 : (1 : Int) < (t.length : Int) := by omega
              have y1 := HCC.out 1 (by omega)
              rw [HX1.out] at y1
              have hz2 : (2 : Int) < (t.length : Int) := by omega
              have y2 := HCC.out 2 (by omega)
              rw [HX2.out] at y2
              by_cases q1 : x1.toNat < LO
              · have q1z : (x1.toNat : Int) < (LO : Int) := by omega
                go_quiet (fail)
                go_wp2
                go_meet
                exact ⟨congrArg Value.bool (decide_eq_true (p := t.length < 3 ∨ x1.toNat < LO ∨ HI < x1.toNat ∨ x2.toNat < 128 ∨ 191 < x2.toNat) (by omega)).symm, nq, rfl⟩
              · have q1z : ¬ ((x1.toNat : Int) < (LO : Int)) := by omega
                by_cases q2 : HI < x1.toNat
                · have q2z : (HI : Int) < (x1.toNat : Int) := by omega
                  go_quiet (fail)
                  go_wp2
                  go_meet
                  exact ⟨congrArg Value.bool (decide_eq_true (p := t.length < 3 ∨ x1.toNat < LO ∨ HI < x1.toNat ∨ x2.toNat < 128 ∨ 191 < x2.toNat) (by omega)).symm, nq, rfl⟩
                · have q2z : ¬ ((HI : Int) < (x1.toNat : Int)) := by omega
                  by_cases q3 : x2.toNat < 128
                  · have q3z : (x2.toNat : Int) < 128 := by omega
                    go_quiet (fail)
                    go_wp2
                    go_meet
                    exact ⟨congrArg Value.bool (decide_eq_true (p := t.length < 3 ∨ x1.toNat < LO ∨ HI < x1.toNat ∨ x2.toNat < 128 ∨ 191 < x2.toNat) (by omega)).symm, nq, rfl⟩
                  · have q3z : ¬ ((x2.toNat : Int) < 128) := by omega
                    by_cases q4 : 191 < x2.toNat
                    · have q4z : (191 : Int) < (x2.toNat : Int) := by omega
                      go_quiet (fail)
                      go_wp2
                      go_meet
                      exact ⟨congrArg Value.bool (decide_eq_true (p := t.length < 3 ∨ x1.toNat < LO ∨ HI < x1.toNat ∨ x2.toNat < 128 ∨ 191 < x2.toNat) (by omega)).symm, nq, rfl⟩
                    · have q4z : ¬ ((191 : Int) < (x2.toNat : Int)) := by omega
                      go_quiet (fail)
                      go_wp2
                      go_meet
                      exact ⟨congrArg Value.bool (decide_eq_false (p := t.length < 3 ∨ x1.toNat < LO ∨ HI < x1.toNat ∨ x2.toNat < 128 ∨ 191 < x2.toNat) (by omega)).symm, nq, rfl⟩
          case rest =>
            obtain ⟨rfl, q, rfl⟩ := hcut
            by_cases hb : t.length < 3 ∨ x1.toNat < LO ∨ HI < x1.toNat ∨ x2.toNat < 128 ∨ 191 < x2.toNat
            · have hbd : decide (t.length < 3 ∨ x1.toNat < LO ∨ HI < x1.toNat ∨ x2.toNat < 128 ∨ 191 < x2.toNat) = true := decide_eq_true hb
              have hl2 := HLD.out
              rw [if_pos hb] at hl2
              have HL2 := Lib.hid hl2
              clear hl2
              go_wp2
              all_goals (go_ret; exact ⟨by rw [HL2.out]; rfl, drewN_below HWA.out q⟩)
            · have hbd : decide (t.length < 3 ∨ x1.toNat < LO ∨ HI < x1.toNat ∨ x2.toNat < 128 ∨ 191 < x2.toNat) = false := decide_eq_false hb
              have hl2 := HLD.out
              rw [if_neg hb] at hl2
              have HL2 := Lib.hid hl2
              clear hl2
              have hsl := slice_fromB b off t.length 3 (by omega)
              have hBd := HCA.out.drop (k := 3) (by omega)
              rw [show ((3 : Nat) : Int) = 3 from rfl] at hsl
              generalize (if t.length = 3 then some (Addr.mk b off none) else some (Addr.mk b (off + 3) none)) = A2 at hsl hBd
              have hlz : (t.drop 3).length = t.length - 3 := List.length_drop
              have HBD := Lib.hid hBd
              clear hBd
              go_wp2
              go_roundg g'
              case measure => omega
              case rel => exact ⟨drewN_below HWA.out q, _, HBD.out, HL2.out.symm, by omega, by omega⟩
        by_cases s4 : SZ = 4
        · as_aux_lemma =>
          subst s4
          have hSZz : (X : Int) % 8 = 4 := by omega
          simp only [Lib.checkN, Nat.reduceEqDiff, if_true, if_false] at hlead
          have HLD := Lib.hid hlead
          clear hlead
          go_upto_region 26 with fail
          generalize wr.alloc (.cells #[.int .u8 (LO : Int), .int .u8 (HI : Int)] 257) = W at HWA HCA HG ⊢
          obtain ⟨b', off', e', hbB', hcA⟩ := HCA.out.form h0
          injection e' with e' _ _
          injection e' with e'
          injection e' with e1 e2 _
          subst e1; subst e2
          have k0 : W.cell? ⟨wr.heap.size, 0, none⟩ = some (.int .u8 (LO : Int)) := by rw [cellH HG.out]; rfl
          have k1 : W.cell? ⟨wr.heap.size, 1, none⟩ = some (.int .u8 (HI : Int)) := by rw [cellH HG.out]; rfl
          have HCC := Lib.hid hcA
          clear hcA
          go_cut [185] from 143 to 185 (fun c wx => c = .bool (decide (t.length < 4 ∨ x1.toNat < LO ∨ HI < x1.toNat ∨ x2.toNat < 128 ∨ 191 < x2.toNat ∨ x3.toNat < 128 ∨ 191 < x3.toNat)) ∧ ∃ q, wx = W.drewN q)
          case first =>
            by_cases q0 : t.length < 4
            · have q0z : (t.length : Int) < 4 := by omega
              go_quiet (fail)
              go_wp2
              go_meet
              exact ⟨congrArg Value.bool (decide_eq_true (p := t.length < 4 ∨ x1.toNat < LO ∨ HI < x1.toNat ∨ x2.toNat < 128 ∨ 191 < x2.toNat ∨ x3.toNat < 128 ∨ 191 < x3.toNat) (by omega)).symm, nq, rfl⟩
            · have q0z : ¬ ((t.length : Int) < 4) := by omega
              have hz1 : (1 : Int) < (t.length : Int) := by omega
              have y1 := HCC.out 1 (by omega)
              rw [HX1.out] at y1
              have hz2 : (2 : Int) < (t.length : Int) := by omega
              have y2 := HCC.out 2 (by omega)
              rw [HX2.out] at y2
              have hz3 : (3 : Int) < (t.length : Int) := by omega
              have y3 := HCC.out 3 (by omega)
              rw [HX3.out] at y3
              by_cases q1 : x1.toNat < LO
              · have q1z : (x1.toNat : Int) < (LO : Int) := by omega
                go_quiet (fail)
                go_wp2
                go_meet
                exact ⟨congrArg Value.bool (decide_eq_true (p := t.length < 4 ∨ x1.toNat < LO ∨ HI < x1.toNat ∨ x2.toNat < 128 ∨ 191 < x2.toNat ∨ x3.toNat < 128 ∨ 191 < x3.toNat) (by omega)).symm, nq, rfl⟩
              · have q1z : ¬ ((x1.toNat : Int) < (LO : Int)) := by omega
                by_cases q2 : HI < x1.toNat
                · have q2z : (HI : Int) < (x1.toNat : Int) := by omega
                  go_quiet (fail)
                  go_wp2
                  go_meet
                  exact ⟨congrArg Value.bool (decide_eq_true (p := t.length < 4 ∨ x1.toNat < LO ∨ HI < x1.toNat ∨ x2.toNat < 128 ∨ 191 < x2.toNat ∨ x3.toNat < 128 ∨ 191 < x3.toNat) (by omega)).symm, nq, rfl⟩
                · have q2z : ¬ ((HI : Int) < (x1.toNat : Int)) := by omega
                  by_cases q3 : x2.toNat < 128
                  · have q3z : (x2.toNat : Int) < 128 := by omega
                    go_quiet (fail)
                    go_wp2
                    go_meet
                    exact ⟨congrArg Value.bool (decide_eq_true (p := t.length < 4 ∨ x1.toNat < LO ∨ HI < x1.toNat ∨ x2.toNat < 128 ∨ 191 < x2.toNat ∨ x3.toNat < 128 ∨ 191 < x3.toNat) (by omega)).symm, nq, rfl⟩
                  · have q3z : ¬ ((x2.toNat : Int) < 128) := by omega
                    by_cases q4 : 191 < x2.toNat
                    · have q4z : (191 : Int) < (x2.toNat : Int) := by omega
                      go_quiet (fail)
                      go_wp2
                      go_meet
                      exact ⟨congrArg Value.bool (decide_eq_true (p := t.length < 4 ∨ x1.toNat < LO ∨ HI < x1.toNat ∨ x2.toNat < 128 ∨ 191 < x2.toNat ∨ x3.toNat < 128 ∨ 191 < x3.toNat) (by omega)).symm, nq, rfl⟩
                    · have q4z : ¬ ((191 : Int) < (x2.toNat : Int)) := by omega
                      by_cases q5 : x3.toNat < 128
                      · have q5z : (x3.toNat : Int) < 128 := by omega
                        go_quiet (fail)
                        go_wp2
                        go_meet
                        exact ⟨congrArg Value.bool (decide_eq_true (p := t.length < 4 ∨ x1.toNat < LO ∨ HI < x1.toNat ∨ x2.toNat < 128 ∨ 191 < x2.toNat ∨ x3.toNat < 128 ∨ 191 < x3.toNat) (by omega)).symm, nq, rfl⟩
                      · have q5z : ¬ ((x3.toNat : Int) < 128) := by omega
                        by_cases q6 : 191 < x3.toNat
                        · have q6z : (191 : Int) < (x3.toNat : Int) := by omega
                          go_quiet (fail)
                          go_wp2
                          go_meet
                          exact ⟨congrArg Value.bool (decide_eq_true (p := t.length < 4 ∨ x1.toNat < LO ∨ HI < x1.toNat ∨ x2.toNat < 128 ∨ 191 < x2.toNat ∨ x3.toNat < 128 ∨ 191 < x3.toNat) (by omega)).symm, nq, rfl⟩
                        · have q6z : ¬ ((191 : Int) < (x3.toNat : Int)) := by omega
                          go_quiet (fail)
                          go_wp2
                          go_meet
                          exact ⟨congrArg Value.bool (decide_eq_false (p := t.length < 4 ∨ x1.toNat < LO ∨ HI < x1.toNat ∨ x2.toNat < 128 ∨ 191 < x2.toNat ∨ x3.toNat < 128 ∨ 191 < x3.toNat) (by omega)).symm, nq, rfl⟩
          case rest =>
            obtain ⟨rfl, q, rfl⟩ := hcut
            by_cases hb : t.length < 4 ∨ x1.toNat < LO ∨ HI < x1.toNat ∨ x2.toNat < 128 ∨ 191 < x2.toNat ∨ x3.toNat < 128 ∨ 191 < x3.toNat
            · have hbd : decide (t.length < 4 ∨ x1.toNat < LO ∨ HI < x1.toNat ∨ x2.toNat < 128 ∨ 191 < x2.toNat ∨ x3.toNat < 128 ∨ 191 < x3.toNat) = true := decide_eq_true hb
              have hl2 := HLD.out
              rw [if_pos hb] at hl2
              have HL2 := Lib.hid hl2
              clear hl2
              go_wp2
              all_goals (go_ret; exact ⟨by rw [HL2.out]; rfl, drewN_below HWA.out q⟩)
            · have hbd : decide (t.length < 4 ∨ x1.toNat < LO ∨ HI < x1.toNat ∨ x2.toNat < 128 ∨ 191 < x2.toNat ∨ x3.toNat < 128 ∨ 191 < x3.toNat) = false := decide_eq_false hb
              have hl2 := HLD.out
              rw [if_neg hb] at hl2
              have HL2 := Lib.hid hl2
              clear hl2
              have hsl := slice_fromB b off t.length 4 (by omega)
              have hBd := HCA.out.drop (k := 4) (by omega)
              rw [show ((4 : Nat) : Int) = 4 from rfl] at hsl
              generalize (if t.length = 4 then some (Addr.mk b off none) else some (Addr.mk b (off + 4) none)) = A2 at hsl hBd
              have hlz : (t.drop 4).length = t.length - 4 := List.length_drop
              have HBD := Lib.hid hBd
              clear hBd
              go_wp2
              go_roundg g'
              case measure => omega
              case rel => exact ⟨drewN_below HWA.out q, _, HBD.out, HL2.out.symm, by omega, by omega⟩
        · have e2 : ¬ ((X : Int) % 8 = 2) := by omega
          have e3 : ¬ ((X : Int) % 8 = 3) := by omega
          have e4 : ¬ ((X : Int) % 8 = 4) := by omega
          have e2b : (((X : Int) % 8) == 2) = false := by simp; omega
          have e3b : (((X : Int) % 8) == 3) = false := by simp; omega
          have e4b : (((X : Int) % 8) == 4) = false := by simp; omega
          simp only [Lib.checkN, s2, s3, s4, if_false] at hlead
          have HLD := Lib.hid hlead
          clear hlead
          go_wp2
          all_goals (go_ret; exact ⟨by rw [HLD.out]; rfl, HWA.out⟩)
    · have h0z : ¬ ((0 : Int) < (t.length : Int)) := by omega
      have ht0 : t = [] := List.eq_nil_of_length_eq_zero (by omega)
      obtain ⟨At, rfl, _⟩ := h8
      have HE := Lib.hid (show true = ANS by have := HV.out; rw [ht0, Lib.validD_nil] at this; exact this)
      go_wp2
      go_ret
      exact ⟨by rw [HE.out]; rfl, HBW.out⟩
end Go.Proofs.YtbpmmmnphpkdjaaGreatDoor
