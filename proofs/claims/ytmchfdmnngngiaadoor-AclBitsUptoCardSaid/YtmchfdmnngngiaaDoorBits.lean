/- The walks of arborlaw06.decimal, address, AclBits. -/
import Derived.Test.YtmchfdmnngngiaaDoorApp7
import Derived.Test.YtmchfdmnngngiaaDoorBitsP
import Derived.Laws.BitsAllLaws
namespace Go.Proofs.YtmchfdmnngngiaaDoor
open Go.RowKit
/-- a call that ends in a text, and leaves all that lay -/
def RetT (w : World) (s : ByteArray) (e : Ending) (w' : World) : Prop := e = .returned (.string s) ∧ Below w.heap.size w w'
theorem RetT.mk {w w' : World} {a b : ByteArray} (h : Below w.heap.size w w') (e : b = a) : RetT w a (.returned (.string b)) w' := ⟨by rw [e], h⟩
theorem conv_one (w : World) (c : Int) (h0 : 0 ≤ c) (h1 : c < 256) (src dst e : TypeId) (hs : Tryd.prog.underlying src = some (.slice e)) (he : Tryd.prog.underlying e = some (.int .u8)) (hd : Tryd.prog.underlying dst = some .string) :
    (convert src dst (.slice (some ⟨w.heap.size, 0, none⟩) 1 1)).run Tryd.prog (w.alloc (.cells #[.int .u8 c] e)) = .ok (.string ⟨#[c.toNat.toUInt8]⟩) (w.alloc (.cells #[.int .u8 c] e)) := by
  refine (run_convert_bytes_back (P := Tryd.prog) _ src dst e ⟨w.heap.size, 0, none⟩ 1 [c.toNat.toUInt8] hs he hd ?_)
  intro j hj
  have hj0 : j = 0 := by simpa using hj
  subst hj0
  have hc : ((c.toNat.toUInt8).toNat : Int) = c := by simp; omega
  show World.cell? _ _ = some (.int .u8 ((c.toNat.toUInt8).toNat : Int))
  rw [hc]
  have hb : (w.alloc (.cells #[.int .u8 c] e)).heap[w.heap.size]? = some (.cells #[.int .u8 c] e (0, 0)) := (MapKept.heap_alloc w _).1
  show (w.alloc (.cells #[.int .u8 c] e)).cell? ⟨w.heap.size, 0 + 0, none⟩ = _
  rw [Lib.cell_of_heap hb]; rfl

theorem str_app (a b : List UInt8) : (⟨a.toArray⟩ : ByteArray) ++ (⟨b.toArray⟩ : ByteArray) = ⟨(a ++ b).toArray⟩ := by
  apply ByteArray.ext; simp
def dS (n : Nat) : ByteArray := ⟨(dec3 n).toArray⟩
set_option maxRecDepth 100000 in
theorem decimal1_any (n : Nat) (hn : n < 10) (w : World) : Calls Tryd.prog 25 #[.int .i64 n] w (RetT w (dS n)) := by
  have H := Lib.hid (show (⟨#[((48 : Int) + n).toNat.toUInt8]⟩ : ByteArray) = dS n from by
    unfold dS dec3; rw [if_pos hn]
    rw [show ((48 : Int) + n).toNat = 48 + n by omega])
  go_enter Tryd.func25, Tryd.ntmps25
  go_wp2_with fail
  rw [conv_one w (48 + n) (by omega) (by omega) _ _ _ Tryd.underlying72 Tryd.underlying5 Tryd.underlying9]
  simp only [Result.andThen]
  rw [Oper.upon_value]
  go_wp2
  go_ret
  exact RetT.mk ((Below.refl _ w).alloc (Nat.le_refl _) _) H.out
theorem dS_two {n : Nat} (h1 : ¬ n < 10) (h2 : n < 100) : dS (n / 10) ++ dS (n % 10) = dS n := by
  unfold dS dec3
  rw [if_neg h1, if_pos h2, if_pos (by omega), if_pos (by omega), str_app]
  rfl
theorem dS_three {n : Nat} (h1 : ¬ n < 100) (h2 : n < 1000) : dS (n / 10) ++ dS (n % 10) = dS n := by
  unfold dS dec3
  rw [if_neg (show ¬ n < 10 by omega), if_neg h1, if_neg (show ¬ n / 10 < 10 by omega), if_pos (show n / 10 < 100 by omega), if_pos (show n % 10 < 10 by omega), str_app]
  rfl
theorem dS_size (n : Nat) : (dS n).size ≤ 3 := by
  show (dec3 n).toArray.size ≤ 3
  unfold dec3; split
  · simp
  · split <;> simp
set_option maxRecDepth 100000 in
theorem decimal_step (n : Nat) (hn : ¬ n < 10) (hm : n < 1000) (ht : dS (n / 10) ++ dS (n % 10) = dS n) (hr : ∀ W, Calls Tryd.prog 25 #[.int .i64 ((n / 10 : Nat) : Int)] W (RetT W (dS (n / 10)))) (w : World) : Calls Tryd.prog 25 #[.int .i64 n] w (RetT w (dS n)) := by
  have hr2 := fun W => decimal1_any (n % 10) (Nat.mod_lt _ (by decide)) W
  have HT := Lib.hid ht; clear ht
  have q1 : (n : Int).tdiv 10 = ((n / 10 : Nat) : Int) := by rw [Int.tdiv_eq_ediv_of_nonneg (by omega)]; rfl
  have q2 : (n : Int).tmod 10 = ((n % 10 : Nat) : Int) := by rw [Int.tmod_eq_emod_of_nonneg (by omega)]; rfl
  have s1 := dS_size (n / 10)
  have s2 := dS_size (n % 10)
  have hsz : ¬ 9223372036854775807 < (dS (n / 10)).size + (dS (n % 10)).size := by omega
  generalize dS (n / 10) = x at *
  generalize dS (n % 10) = y at *
  generalize hk1 : n / 10 = k1 at *
  generalize hk2 : n % 10 = k2 at *
  go_enter Tryd.func25, Tryd.ntmps25
  go_wp2_with fail
  refine (hr _).mono ?_
  rintro e w1 ⟨rfl, hb1⟩
  have HB1 := Lib.hid hb1; clear hb1
  go_wp2_with fail
  refine (hr2 _).mono ?_
  rintro e w2 ⟨rfl, hb2⟩
  have HB2 := Lib.hid (HB1.out.trans (hb2.mono HB1.out.size)); clear hb2
  go_wp2_with fail
  go_ret
  exact RetT.mk HB2.out HT.out
theorem lawDec_any (n : Nat) (hn : n < 1000) (w : World) : Calls Tryd.prog 25 #[.int .i64 n] w (RetT w (dS n)) := by
  by_cases h1 : n < 10
  · exact decimal1_any n h1 w
  · by_cases h2 : n < 100
    · exact decimal_step n h1 hn (dS_two h1 h2) (fun W => decimal1_any (n / 10) (by omega) W) w
    · exact decimal_step n h1 hn (dS_three h2 hn) (fun W => decimal_step (n / 10) (by omega) (by omega) (dS_two (by omega) (by omega)) (fun W => decimal1_any (n / 10 / 10) (by omega) W) W) w
theorem and255 (a : Nat) (ha : a < 4294967296) : bits .and .u32 (a : Int) 255 = ((a % 256 : Nat) : Int) := by
  rw [show (255 : Int) = ((255 : Nat) : Int) from rfl, u32_and_nat a 255 ha (by decide), show (255 : Nat) = 2 ^ 8 - 1 from rfl, Nat.and_two_pow_sub_one_eq_mod]
theorem adrS_is (x : Nat) : (⟨#[]⟩ : ByteArray) ++ dS (x / 16777216) ++ (⟨#[46]⟩ : ByteArray) ++ dS (x / 65536 % 256) ++ (⟨#[46]⟩ : ByteArray) ++ dS (x / 256 % 256) ++ (⟨#[46]⟩ : ByteArray) ++ dS (x % 256) = adrS x := by
  unfold dS adrS addrT
  apply ByteArray.ext
  simp
theorem app_size (a b : ByteArray) : (a ++ b).size = a.size + b.size := ByteArray.size_append
set_option maxRecDepth 100000 in
set_option maxHeartbeats 1000000 in
theorem address_any6 (x : Nat) (hx : x < 4294967296) (w : World) : Calls Tryd.prog 24 #[.int .u32 x] w (RetT w (adrS x)) := by
  have H := Lib.hid (adrS_is x)
  have f1 : bits .and .u32 ((x : Int) / 16777216) 255 = ((x / 16777216 : Nat) : Int) := (and255 (x / 16777216) (by omega)).trans (by rw [Nat.mod_eq_of_lt (by omega)])
  have f2 : bits .and .u32 ((x : Int) / 65536) 255 = ((x / 65536 % 256 : Nat) : Int) := and255 (x / 65536) (by omega)
  have f3 : bits .and .u32 ((x : Int) / 256) 255 = ((x / 256 % 256 : Nat) : Int) := and255 (x / 256) (by omega)
  have f4 : bits .and .u32 (x : Int) 255 = ((x % 256 : Nat) : Int) := and255 x hx
  have g1 : x / 16777216 < 256 := by omega
  have g2 : x / 65536 % 256 < 256 := by omega
  have g3 : x / 256 % 256 < 256 := by omega
  have g4 : x % 256 < 256 := by omega
  have s1 := dS_size (x / 16777216)
  have s2 := dS_size (x / 65536 % 256)
  have s3 := dS_size (x / 256 % 256)
  have s4 := dS_size (x % 256)
  have c1 := fun W => lawDec_any (x / 16777216) (by omega) W
  have c2 := fun W => lawDec_any (x / 65536 % 256) (by omega) W
  have c3 := fun W => lawDec_any (x / 256 % 256) (by omega) W
  have c4 := fun W => lawDec_any (x % 256) (by omega) W
  generalize x / 16777216 = a1 at *
  generalize x / 65536 % 256 = a2 at *
  generalize x / 256 % 256 = a3 at *
  generalize x % 256 = a4 at *
  generalize dS a1 = d1 at *
  generalize dS a2 = d2 at *
  generalize dS a3 = d3 at *
  generalize dS a4 = d4 at *
  go_enter Tryd.func24, Tryd.ntmps24
  go_wp2_with fail
  refine wp_loop_rounds 5 ?_
  rw [rounds_succ]
  go_wp2_with fail
  refine (c1 _).mono ?_
  rintro e w1 ⟨rfl, hb1⟩
  have HB1 := Lib.hid hb1; clear hb1
  go_wp2_with fail
  rw [rounds_succ]
  go_wp2_with fail
  refine (c2 _).mono ?_
  rintro e w2 ⟨rfl, hb2⟩
  have HB2 := Lib.hid (HB1.out.trans (hb2.mono HB1.out.size)); clear hb2
  go_wp2_with fail
  rw [rounds_succ]
  go_wp2_with fail
  refine (c3 _).mono ?_
  rintro e w3 ⟨rfl, hb3⟩
  have HB3 := Lib.hid (HB2.out.trans (hb3.mono HB2.out.size)); clear hb3
  go_wp2_with fail
  rw [rounds_succ]
  go_wp2_with fail
  refine (c4 _).mono ?_
  rintro e w4 ⟨rfl, hb4⟩
  have HB4 := Lib.hid (HB3.out.trans (hb4.mono HB3.out.size)); clear hb4
  go_wp2_with fail
  rw [rounds_succ]
  go_wp2_with fail
  go_ret
  exact RetT.mk HB4.out H.out

theorem netS_is (x n : Nat) : adrS x ++ (⟨#[47]⟩ : ByteArray) ++ dS n = netS x n := by
  unfold dS adrS netS
  apply ByteArray.ext
  simp
theorem adrS_size (x : Nat) : (adrS x).size ≤ 15 := by
  rw [← adrS_is x]
  have := dS_size (x / 16777216)
  have := dS_size (x / 65536 % 256)
  have := dS_size (x / 256 % 256)
  have := dS_size (x % 256)
  simp only [app_size]
  have h1 : (⟨#[46]⟩ : ByteArray).size = 1 := rfl
  have h0 : (⟨#[]⟩ : ByteArray).size = 0 := rfl
  omega
theorem netS_size (x n : Nat) : (netS x n).size ≤ 19 := by
  rw [← netS_is x n]
  have := dS_size n
  have := adrS_size x
  simp only [app_size]
  have h1 : (⟨#[47]⟩ : ByteArray).size = 1 := rfl
  omega
theorem small_oneA {a : AclV} (h : a.2.1.size ≤ 1048576 ∧ a.2.2.size ≤ 1048576) : SmallA [a] 1 := fun j hj => by
  have : j = 0 := by omega
  subst this
  exact ⟨Nat.le_trans h.1 (by decide), Nat.le_trans h.2 (by decide)⟩
theorem small_oneI {a : IdV} (h : a.1.size ≤ 1048576 ∧ a.2.size ≤ 1048576) : SmallI [a] 1 := fun j hj => by
  have : j = 0 := by omega
  subst this
  exact ⟨Nat.le_trans h.1 (by decide), Nat.le_trans h.2 (by decide)⟩
theorem sc_other {w : World} {a b : Addr} {v u : Value} (h : w.cell? b = some u) (hne : a ≠ b) : (w.setCell a v).cell? b = some u := by
  rw [World.cell?_setCell_other (h := hne)]; exact h
theorem sc_same {w : World} {a : Addr} {v u : Value} (h : w.cell? a = some u) : (w.setCell a v).cell? a = some v := by
  rw [World.cell?_setCell_same (h := h)]
theorem hit_comm (a b : Int) : hit a b = hit b a := by unfold hit; rw [BitVec.and_comm]
theorem want_is (x y n : Nat) (hx : x < 4294967296) (hy : y < 4294967296) (hn : n ≤ 32) : ((n : Int) == 0 || (x : Int) / 2 ^ (32 - n) == (y : Int) / 2 ^ (32 - n)) = decide (topB (x : Int) (n : Int) = topB (y : Int) (n : Int)) := by
  have e : ((32 : Int) - (n : Int)).toNat = 32 - n := by omega
  by_cases h : n = 0
  · subst h
    rw [decide_eq_true (topB_zero x y hx hy)]
    rfl
  · unfold topB
    rw [e]
    have h0 : ((n : Int) == 0) = false := by simp; omega
    rw [h0, Bool.false_or]
    exact Bool.eq_iff_iff.2 (by simp)
theorem turn_mod33 (k : Int) (hk : 0 ≤ k) : ∃ m : Nat, k.tmod 33 = (m : Int) ∧ (m : Int) ≤ 32 := by
  rw [Int.tmod_eq_emod_of_nonneg hk]
  exact ⟨(k % 33).toNat, by omega, by omega⟩
set_option maxRecDepth 100000 in
set_option maxHeartbeats 2000000 in
theorem aclBits_any (x y : Nat) (hx : x < 4294967296) (hy : y < 4294967296) (k p : Int) (w : World) (hE : Env w) (hk0 : -9223372036854775808 ≤ k) (hk1 : k ≤ 9223372036854775807) :
    Calls Tryd.prog 9 #[.int .u32 x, .int .u32 y, .int .i64 k, .int .i32 p] w (RetB w true) := by
  have HE := Lib.hid hE; clear hE
  obtain ⟨k1, hk2, hk3, hkk⟩ : ∃ k1 : Int, 0 ≤ k1 ∧ k1 ≤ 9223372036854775807 ∧ k1 = if k < 0 then -(k + 1) else k := ⟨_, by split <;> omega, by split <;> omega, rfl⟩
  obtain ⟨n, hm1, hm2⟩ : ∃ m : Nat, k1.tmod 33 = (m : Int) ∧ (m : Int) ≤ 32 := turn_mod33 k1 hk2
  have hn : n ≤ 32 := by omega
  have cX := fun W => address_any6 x hx W
  have cY := fun W => address_any6 y hy W
  have cN := fun W => lawDec_any n (by omega) W
  have hNS := netS_is x n
  have s1 := adrS_size x
  have s2 := adrS_size y
  have s3 := dS_size n
  have s4 := netS_size x n
  have hb47 : (⟨#[47]⟩ : ByteArray).size = 1 := rfl
  obtain ⟨wb, HWB⟩ : ∃ b, Hid (decide (topB (x : Int) (n : Int) = topB (y : Int) (n : Int)) = b) := ⟨_, Lib.hid rfl⟩
  obtain ⟨hb, HHB⟩ : ∃ b, Hid (hit 31 p = b) := ⟨_, Lib.hid rfl⟩
  obtain ⟨eb, HEB⟩ : ∃ b, Hid (decide (x = y) = b) := ⟨_, Lib.hid rfl⟩
  have hW : ((n : Int) == 0 || (x : Int) / 2 ^ (32 - n) == (y : Int) / 2 ^ (32 - n)) = wb := (want_is x y n hx hy hn).trans HWB.out
  have hH : (bits .and .i32 p 31 != 0) = hb := (hit_bits p 31).trans ((hit_comm p 31).trans HHB.out)
  have hQ : ((x : Int) == (y : Int)) = eb := by rw [← HEB.out]; by_cases h : x = y <;> simp [h] <;> omega
  have cM : ∀ (W : World) (a b c d : Nat), Env W → W.cell? ⟨a, 0, none⟩ = some (.int .i32 31) → W.cell? ⟨a, 1, none⟩ = some (.string ⟨#[105, 112]⟩) → W.cell? ⟨a, 2, none⟩ = some (.string (netS x n)) → W.cell? ⟨b, 0, none⟩ = some (.string ⟨#[105, 112]⟩) → W.cell? ⟨b, 1, none⟩ = some (.string (adrS y)) →
      Calls Tryd.prog 12 #[.slice (some ⟨a, 0, none⟩) 1 c, .int .i32 p, .slice (some ⟨b, 0, none⟩) 1 d] W (RetB W (wb && hb)) := fun W a b c d hW0 h0 h1 h2 h3 h4 => by
    rw [← HWB.out, ← HHB.out, ← may_net x y n p hx hy hn]
    exact may_any _ 1 c [(31, sIp, netS x n)] _ _ 1 d [(sIp, adrS y)] _ hW0 (sl_acl h0 h1 h2) (by decide) (sl_id h3 h4) (by decide) (small_oneA ⟨by show (2 : Nat) ≤ _; decide, Nat.le_trans s4 (by decide)⟩) (small_oneI ⟨by show (2 : Nat) ≤ _; decide, Nat.le_trans s2 (by decide)⟩)
  have cA : ∀ (W : World) (a b c d : Nat), Env W → W.cell? ⟨a, 0, none⟩ = some (.int .i32 31) → W.cell? ⟨a, 1, none⟩ = some (.string ⟨#[105, 112]⟩) → W.cell? ⟨a, 2, none⟩ = some (.string (adrS x)) → W.cell? ⟨b, 0, none⟩ = some (.string ⟨#[105, 112]⟩) → W.cell? ⟨b, 1, none⟩ = some (.string (adrS y)) →
      Calls Tryd.prog 12 #[.slice (some ⟨a, 0, none⟩) 1 c, .int .i32 p, .slice (some ⟨b, 0, none⟩) 1 d] W (RetB W (eb && hb)) := fun W a b c d hW0 h0 h1 h2 h3 h4 => by
    rw [← HEB.out, ← HHB.out, ← may_alone x y p hx hy]
    exact may_any _ 1 c [(31, sIp, adrS x)] _ _ 1 d [(sIp, adrS y)] _ hW0 (sl_acl h0 h1 h2) (by decide) (sl_id h3 h4) (by decide) (small_oneA ⟨by show (2 : Nat) ≤ _; decide, Nat.le_trans s1 (by decide)⟩) (small_oneI ⟨by show (2 : Nat) ≤ _; decide, Nat.le_trans s2 (by decide)⟩)
  have hw1 : n = 0 → wb = true := fun h => by subst h; rw [← HWB.out]; exact decide_eq_true (topB_zero x y hx hy)
  have hw2 : n ≠ 0 → ((x : Int) / 2 ^ (32 - n) == (y : Int) / 2 ^ (32 - n)) = wb := fun h => by rw [show ((n : Int) == 0) = false from by simp; omega, Bool.false_or] at hW; exact hW
  clear hW
  have HW1 := Lib.hid hw1
  have HW2 := Lib.hid hw2
  clear hw1 hw2 HWB HHB HEB
  have hz : ((n : Int) == 0) = decide (n = 0) := by by_cases h : n = 0 <;> simp [h]
  have hcs : (n = 0 ∧ ((n : Int) == 0) = true ∧ wb = true) ∨ (n ≠ 0 ∧ ((n : Int) == 0) = false ∧ ((x : Int) / 2 ^ (32 - n) == (y : Int) / 2 ^ (32 - n)) = wb) := by
    by_cases h : n = 0
    · exact .inl ⟨h, by rw [hz, decide_eq_true h], HW1.out h⟩
    · exact .inr ⟨h, by rw [hz, decide_eq_false h], HW2.out h⟩
  clear hz
  have HM := Lib.hid cM
  have HA := Lib.hid cA
  have HCX := Lib.hid cX
  have HCY := Lib.hid cY
  have HCN := Lib.hid cN
  have HS := Lib.hid (And.intro s1 (And.intro s2 s4))
  clear cM cA cX cY cN HW1 HW2 s2 s4
  generalize netS x n = nt at *
  rcases hcs with ⟨h0, hz, rfl⟩ | ⟨_, hz, hW⟩
  · subst h0
    replace hm1 : k1.tmod 33 = 0 := hm1
    have HC0 := Lib.hid (show ∀ W, Calls Tryd.prog 25 #[.int .i64 0] W (RetT W (dS 0)) from HCN.out)
    clear HCN hz hm2 hn
    rename Hid (∀ W, Calls Tryd.prog 25 #[.int .i64 0] W (RetT W (dS 0))) => HCN
    by_cases hneg : k < 0
    all_goals (
      first | rw [if_pos hneg] at hkk | rw [if_neg hneg] at hkk
      subst hkk
      go_enter Tryd.func9, Tryd.ntmps9
      go_wp2_with fail
      go_at_call 11
      refine (live_any _ HE.out).mono ?_
      rintro e w1 ⟨rfl, hb1⟩
      have HB1 := Lib.hid hb1; clear hb1
      go_wp2_with fail
      go_at_call 24
      refine (HCX.out _).mono ?_
      rintro e w2 ⟨rfl, hb2⟩
      have HB2 := Lib.hid (HB1.out.trans (hb2.mono HB1.out.size)); clear hb2
      go_wp2_with fail
      go_at_call 25
      refine (HCN.out _).mono ?_
      rintro e w3 ⟨rfl, hb3⟩
      have HB3 := Lib.hid (HB2.out.trans (hb3.mono HB2.out.size)); clear hb3
      go_wp2_with fail
      have y0 : (w3.alloc (.cells #[.int .i32 31, .string ⟨#[105, 112]⟩, .string nt] 42)).cell? ⟨w3.heap.size, 0, none⟩ = some (.int .i32 31) := by simp
      have y1 : (w3.alloc (.cells #[.int .i32 31, .string ⟨#[105, 112]⟩, .string nt] 42)).cell? ⟨w3.heap.size, 1, none⟩ = some (.string ⟨#[105, 112]⟩) := by simp
      have y2 : (w3.alloc (.cells #[.int .i32 31, .string ⟨#[105, 112]⟩, .string nt] 42)).cell? ⟨w3.heap.size, 2, none⟩ = some (.string nt) := by simp
      have yf : (w3.alloc (.cells #[.int .i32 31, .string ⟨#[105, 112]⟩, .string nt] 42)).frozen? ⟨w3.heap.size, 2, none⟩ = false := by simp
      have HBW := Lib.hid (HB3.out.alloc HB3.out.size (.cells #[.int .i32 31, .string ⟨#[105, 112]⟩, .string nt] 42))
      have hyl : w3.heap.size < (w3.alloc (.cells #[.int .i32 31, .string ⟨#[105, 112]⟩, .string nt] 42)).heap.size := by simp
      have HL := Lib.hid HB3.out.size
      generalize w3.alloc (.cells #[.int .i32 31, .string ⟨#[105, 112]⟩, .string nt] 42) = W3 at *
      generalize w3.heap.size = L at *
      go_at_call 24
      refine (HCY.out _).mono ?_
      rintro e w4 ⟨rfl, hb4⟩
      have y0 := keep1 y0 hb4
      have y1 := keep1 y1 hb4
      have y2 := keep1 y2 hb4
      have yf := ((bcell hb4).2 _ _ hyl).trans yf
      have hyl := Nat.lt_of_lt_of_le hyl hb4.size
      have HB4 := Lib.hid (HBW.out.trans (hb4.mono HBW.out.size)); clear hb4
      go_wp2_with fail
      go_at_call 12
      have v0 : (w4.alloc (.cells #[.string ⟨#[105, 112]⟩, .string (adrS y)] 27)).cell? ⟨w4.heap.size, 0, none⟩ = some (.string ⟨#[105, 112]⟩) := by simp
      have v1 : (w4.alloc (.cells #[.string ⟨#[105, 112]⟩, .string (adrS y)] 27)).cell? ⟨w4.heap.size, 1, none⟩ = some (.string (adrS y)) := by simp
      have hba : Below w4.heap.size w4 (w4.alloc (.cells #[.string ⟨#[105, 112]⟩, .string (adrS y)] 27)) := (Below.refl _ _).alloc (Nat.le_refl _) _
      have y0 := keep1 y0 hba
      have y1 := keep1 y1 hba
      have y2 := keep1 y2 hba
      have yf := ((bcell hba).2 _ _ hyl).trans yf
      have hlm : L ≠ w4.heap.size := by omega
      have hyl5 := Nat.lt_of_lt_of_le hyl hba.size
      clear hyl
      have HBA := Lib.hid (HB4.out.trans (hba.mono HB4.out.size))
      generalize w4.alloc (.cells #[.string ⟨#[105, 112]⟩, .string (adrS y)] 27) = W5 at *
      generalize w4.heap.size = M at *
      refine (HM.out _ _ _ _ _ (HE.out.later HBA.out) y0 y1 y2 v0 v1).mono ?_
      rintro e w5 ⟨rfl, hb5⟩
      have y0 := keep1 y0 hb5
      have y1 := keep1 y1 hb5
      have y2 := keep1 y2 hb5
      have v0 := keep1 v0 hb5
      have v1 := keep1 v1 hb5
      have yf := ((bcell hb5).2 _ _ hyl5).trans yf
      have hyl6 := Nat.lt_of_lt_of_le hyl5 hb5.size
      clear hyl5
      have HB5 := Lib.hid (HBA.out.trans (hb5.mono HBA.out.size)); clear hb5
      go_wp2_with fail
      go_at_call 24
      refine (HCX.out _).mono ?_
      rintro e w6 ⟨rfl, hb6⟩
      have y0 := keep1 y0 hb6
      have y1 := keep1 y1 hb6
      have y2 := keep1 y2 hb6
      have v0 := keep1 v0 hb6
      have v1 := keep1 v1 hb6
      have yf := ((bcell hb6).2 _ _ hyl6).trans yf
      clear hyl6
      have HB6 := Lib.hid (HB5.out.trans (hb6.mono HB5.out.size)); clear hb6
      go_wp2_with fail
      go_at_call 12
      have q0 : (w6.setCell ⟨L, 2, none⟩ (.string (adrS x))).cell? ⟨L, 0, none⟩ = some (.int .i32 31) := sc_other y0 (fun e => by injection e with _ e; cases e)
      have q1 : (w6.setCell ⟨L, 2, none⟩ (.string (adrS x))).cell? ⟨L, 1, none⟩ = some (.string ⟨#[105, 112]⟩) := sc_other y1 (fun e => by injection e with _ e; cases e)
      have q2 : (w6.setCell ⟨L, 2, none⟩ (.string (adrS x))).cell? ⟨L, 2, none⟩ = some (.string (adrS x)) := sc_same y2
      have q3 : (w6.setCell ⟨L, 2, none⟩ (.string (adrS x))).cell? ⟨M, 0, none⟩ = some (.string ⟨#[105, 112]⟩) := sc_other v0 (fun e => by injection e with e; exact hlm e)
      have q4 : (w6.setCell ⟨L, 2, none⟩ (.string (adrS x))).cell? ⟨M, 1, none⟩ = some (.string (adrS y)) := sc_other v1 (fun e => by injection e with e; exact hlm e)
      have HB7 := Lib.hid (HB6.out.setCell (p := ⟨L, 2, none⟩) HL.out (.string (adrS x)))
      refine (HA.out _ _ _ _ _ (HE.out.later HB7.out) q0 q1 q2 q3 q4).mono ?_
      rintro e w8 ⟨rfl, hb8⟩
      have HB8 := Lib.hid (HB7.out.trans (hb8.mono HB7.out.size)); clear hb8
      clear q0 q1 q2 q3 q4 y0 y1 y2 v0 v1 yf
      cases eb <;> cases hb <;> (try cases wb)
      all_goals (
        go_wp2_with fail
        go_ret
        exact RetB.mk HB8.out (by first | rfl | (simp; done))))
  · by_cases hneg : k < 0
    all_goals (
      first | rw [if_pos hneg] at hkk | rw [if_neg hneg] at hkk
      subst hkk
      go_enter Tryd.func9, Tryd.ntmps9
      go_wp2_with fail
      go_at_call 11
      refine (live_any _ HE.out).mono ?_
      rintro e w1 ⟨rfl, hb1⟩
      have HB1 := Lib.hid hb1; clear hb1
      go_wp2_with fail
      go_at_call 24
      refine (HCX.out _).mono ?_
      rintro e w2 ⟨rfl, hb2⟩
      have HB2 := Lib.hid (HB1.out.trans (hb2.mono HB1.out.size)); clear hb2
      go_wp2_with fail
      go_at_call 25
      refine (HCN.out _).mono ?_
      rintro e w3 ⟨rfl, hb3⟩
      have HB3 := Lib.hid (HB2.out.trans (hb3.mono HB2.out.size)); clear hb3
      go_wp2_with fail
      have y0 : (w3.alloc (.cells #[.int .i32 31, .string ⟨#[105, 112]⟩, .string nt] 42)).cell? ⟨w3.heap.size, 0, none⟩ = some (.int .i32 31) := by simp
      have y1 : (w3.alloc (.cells #[.int .i32 31, .string ⟨#[105, 112]⟩, .string nt] 42)).cell? ⟨w3.heap.size, 1, none⟩ = some (.string ⟨#[105, 112]⟩) := by simp
      have y2 : (w3.alloc (.cells #[.int .i32 31, .string ⟨#[105, 112]⟩, .string nt] 42)).cell? ⟨w3.heap.size, 2, none⟩ = some (.string nt) := by simp
      have yf : (w3.alloc (.cells #[.int .i32 31, .string ⟨#[105, 112]⟩, .string nt] 42)).frozen? ⟨w3.heap.size, 2, none⟩ = false := by simp
      have HBW := Lib.hid (HB3.out.alloc HB3.out.size (.cells #[.int .i32 31, .string ⟨#[105, 112]⟩, .string nt] 42))
      have hyl : w3.heap.size < (w3.alloc (.cells #[.int .i32 31, .string ⟨#[105, 112]⟩, .string nt] 42)).heap.size := by simp
      have HL := Lib.hid HB3.out.size
      generalize w3.alloc (.cells #[.int .i32 31, .string ⟨#[105, 112]⟩, .string nt] 42) = W3 at *
      generalize w3.heap.size = L at *
      go_at_call 24
      refine (HCY.out _).mono ?_
      rintro e w4 ⟨rfl, hb4⟩
      have y0 := keep1 y0 hb4
      have y1 := keep1 y1 hb4
      have y2 := keep1 y2 hb4
      have yf := ((bcell hb4).2 _ _ hyl).trans yf
      have hyl := Nat.lt_of_lt_of_le hyl hb4.size
      have HB4 := Lib.hid (HBW.out.trans (hb4.mono HBW.out.size)); clear hb4
      go_wp2_with fail
      go_at_call 12
      have v0 : (w4.alloc (.cells #[.string ⟨#[105, 112]⟩, .string (adrS y)] 27)).cell? ⟨w4.heap.size, 0, none⟩ = some (.string ⟨#[105, 112]⟩) := by simp
      have v1 : (w4.alloc (.cells #[.string ⟨#[105, 112]⟩, .string (adrS y)] 27)).cell? ⟨w4.heap.size, 1, none⟩ = some (.string (adrS y)) := by simp
      have hba : Below w4.heap.size w4 (w4.alloc (.cells #[.string ⟨#[105, 112]⟩, .string (adrS y)] 27)) := (Below.refl _ _).alloc (Nat.le_refl _) _
      have y0 := keep1 y0 hba
      have y1 := keep1 y1 hba
      have y2 := keep1 y2 hba
      have yf := ((bcell hba).2 _ _ hyl).trans yf
      have hlm : L ≠ w4.heap.size := by omega
      have hyl5 := Nat.lt_of_lt_of_le hyl hba.size
      clear hyl
      have HBA := Lib.hid (HB4.out.trans (hba.mono HB4.out.size))
      generalize w4.alloc (.cells #[.string ⟨#[105, 112]⟩, .string (adrS y)] 27) = W5 at *
      generalize w4.heap.size = M at *
      refine (HM.out _ _ _ _ _ (HE.out.later HBA.out) y0 y1 y2 v0 v1).mono ?_
      rintro e w5 ⟨rfl, hb5⟩
      have y0 := keep1 y0 hb5
      have y1 := keep1 y1 hb5
      have y2 := keep1 y2 hb5
      have v0 := keep1 v0 hb5
      have v1 := keep1 v1 hb5
      have yf := ((bcell hb5).2 _ _ hyl5).trans yf
      have hyl6 := Nat.lt_of_lt_of_le hyl5 hb5.size
      clear hyl5
      have HB5 := Lib.hid (HBA.out.trans (hb5.mono HBA.out.size)); clear hb5
      go_wp2_with fail
      go_at_call 24
      refine (HCX.out _).mono ?_
      rintro e w6 ⟨rfl, hb6⟩
      have y0 := keep1 y0 hb6
      have y1 := keep1 y1 hb6
      have y2 := keep1 y2 hb6
      have v0 := keep1 v0 hb6
      have v1 := keep1 v1 hb6
      have yf := ((bcell hb6).2 _ _ hyl6).trans yf
      clear hyl6
      have HB6 := Lib.hid (HB5.out.trans (hb6.mono HB5.out.size)); clear hb6
      go_wp2_with fail
      go_at_call 12
      have q0 : (w6.setCell ⟨L, 2, none⟩ (.string (adrS x))).cell? ⟨L, 0, none⟩ = some (.int .i32 31) := sc_other y0 (fun e => by injection e with _ e; cases e)
      have q1 : (w6.setCell ⟨L, 2, none⟩ (.string (adrS x))).cell? ⟨L, 1, none⟩ = some (.string ⟨#[105, 112]⟩) := sc_other y1 (fun e => by injection e with _ e; cases e)
      have q2 : (w6.setCell ⟨L, 2, none⟩ (.string (adrS x))).cell? ⟨L, 2, none⟩ = some (.string (adrS x)) := sc_same y2
      have q3 : (w6.setCell ⟨L, 2, none⟩ (.string (adrS x))).cell? ⟨M, 0, none⟩ = some (.string ⟨#[105, 112]⟩) := sc_other v0 (fun e => by injection e with e; exact hlm e)
      have q4 : (w6.setCell ⟨L, 2, none⟩ (.string (adrS x))).cell? ⟨M, 1, none⟩ = some (.string (adrS y)) := sc_other v1 (fun e => by injection e with e; exact hlm e)
      have HB7 := Lib.hid (HB6.out.setCell (p := ⟨L, 2, none⟩) HL.out (.string (adrS x)))
      refine (HA.out _ _ _ _ _ (HE.out.later HB7.out) q0 q1 q2 q3 q4).mono ?_
      rintro e w8 ⟨rfl, hb8⟩
      have HB8 := Lib.hid (HB7.out.trans (hb8.mono HB7.out.size)); clear hb8
      clear q0 q1 q2 q3 q4 y0 y1 y2 v0 v1 yf
      cases eb <;> cases hb <;> (try cases wb)
      all_goals (
        go_wp2_with fail
        go_ret
        exact RetB.mk HB8.out (by first | rfl | (simp; done))))
end Go.Proofs.YtmchfdmnngngiaaDoor
