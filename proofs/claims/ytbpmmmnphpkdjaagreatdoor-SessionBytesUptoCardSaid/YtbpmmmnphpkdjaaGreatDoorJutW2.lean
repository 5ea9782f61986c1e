/- The walks of a Writer's put and number. Condition: fewer than 2^46 bytes. The walks of a Writer's Int, Long, Count, Buffer, Text; a copy of bytes; Bytes, Len. Condition: fewer than 2^46 bytes. -/
import Derived.Test.YtbpmmmnphpkdjaaGreatDoorJutB
import Derived.Lib.AppendStr
import Derived.Lib.ConvBytes
namespace Go.Proofs.YtbpmmmnphpkdjaaGreatDoor
open Go.RowKit Go.MapKept Go.Maps
set_option maxRecDepth 100000 in
theorem wPut_any (wb base : Nat) (l l' : Bs) (A' : Option Addr) (m c' : Nat) (w : World) (h : WrB w wb base l) (hs : Sl w w.heap.size enc8 1 A' m l') (hA : A' = none → m = 0 ∧ c' = 0) (hn : l.length + m ≤ 140737488355328) :
    Calls Tryz.prog 159 #[.pointer (some ⟨wb, 0, none⟩), .slice A' m c'] w (WrPost (l ++ l') wb base w) := by
  obtain ⟨A, c, hcell, hrow⟩ := h.row
  have k0 : w.cell? ⟨wb, 0, none⟩ = some (.slice A l.length c) := by rw [cellH hcell]; rfl
  have HW := Lib.hid h; have HS := Lib.hid hs; have HA := Lib.hid hA; have HC := Lib.hid hcell; have HR := Lib.hid hrow
  have HL := Lib.hid hs.len
  clear h hs hA hcell hrow
  go_enter Tryz.func159, Tryz.ntmps159
  go_wp2_with (at_builtin; refine wpList_app8 rfl _ _ rfl base A l.length c l ?hx HR.out A' m c' l' ?hy HS.out HA.out hn HW.out.size ?hk)
  (try case hx => rfl)
  (try case hy => rfl)
  case hk =>
    intro A2 c2 w1 hr hg
    rw [show l.length + m = (l ++ l').length by rw [List.length_append, HL.out], ← List.flatMap_append] at hr
    rw [show l.length + m = (l ++ l').length by rw [List.length_append, HL.out]]
    obtain ⟨hc1, hw2, hk2⟩ := HW.out.put HC.out HR.out hg hr
    rw [List.length_append] at hw2 hk2
    have HW2 := Lib.hid hw2; have HK2 := Lib.hid hk2
    have k1 : w1.cell? ⟨wb, 0, none⟩ = some (.slice A l.length c) := by rw [cellH hc1]; rfl
    have f1 : w1.frozen? ⟨wb, 0, none⟩ = false := by simp [World.frozen?, hc1]
    clear hr hg hc1 hw2 hk2 k0
    go_wp2_with fail
    refine bodyPost_ret (results_none rfl _ _ _) rfl ?_
    exact ⟨rfl, HW2.out, HK2.out⟩
theorem beB_at (x : Nat) : ∀ (n j : Nat), j < n → (beB x n)[j]! = UInt8.ofNat (x / 256 ^ (n - 1 - j))
  | n + 1, 0, _ => by simp [beB]
  | n + 1, j + 1, h => by
    rw [beB]
    have := beB_at x n j (by omega)
    simp only [List.getElem!_cons_succ]
    rw [this]
    congr 3
    omega
theorem beB_step (x : Nat) {n r : Nat} (h1 : 1 ≤ r) (h2 : r ≤ n) : (beB x n).take (n - (r - 1)) = (beB x n).take (n - r) ++ [UInt8.ofNat (x / 256 ^ (r - 1))] := by
  have hl := beB_len x n
  rw [show n - (r - 1) = n - r + 1 by omega, List.take_succ_eq_append_getElem (by omega)]
  congr 2
  have := beB_at x n (n - r) (by omega)
  rw [getElem!_pos _ _ (by omega)] at this
  rw [this]
  congr 3
  omega
theorem byte_of (x r : Nat) : ((UInt8.ofNat (x / 256 ^ (r - 1))).toNat : Int) = (x : Int) / 2 ^ (8 * (r - 1)) % 256 := by
  have h : (256 : Nat) ^ (r - 1) = 2 ^ (8 * (r - 1)) := by rw [Nat.pow_mul]
  rw [UInt8.toNat_ofNat', h]
  simp
/-- the bytes of a number, some of them written -/
def NmR (wb base nb x : Nat) (l : Bs) (w : World) (i : Value) (wr : World) : Prop := ∃ r : Nat, i = .int .i64 ((r : Int) - 1) ∧ r ≤ nb ∧ WrB wr wb base (l ++ (beB x nb).take (nb - r)) ∧ Kw wb base w wr
set_option maxRecDepth 100000 in
theorem number_any (wb base nb x : Nat) (l : Bs) (w : World) (h : WrB w wb base l) (hn : l.length ≤ 70368744177664) (hb : nb = 4 ∨ nb = 8) :
    Calls Tryz.prog 127 #[.pointer (some ⟨wb, 0, none⟩), .int .u64 (x : Int), .int .i64 (nb : Int)] w (WrPost (l ++ beB x nb) wb base w) := by
  have HW := Lib.hid h
  have hb8 : nb ≤ 8 := by omega
  clear h hb
  go_enter Tryz.func127, Tryz.ntmps127
  go_wp2_with fail
  go_loopw [6] (fun i wr => NmR wb base nb x l w i wr) (fun i _ => (RowKit.intOf i + 1).toNat)
  case atStart => exact ⟨nb, rfl, Nat.le_refl _, by rw [Nat.sub_self, List.take_zero, List.append_nil]; exact HW.out, Kw.refl⟩
  case round =>
    obtain ⟨r, rfl, hr, hw, hk⟩ := hrel
    have HW1 := Lib.hid hw; have HK := Lib.hid hk
    clear hw hk
    by_cases h0 : 1 ≤ r
    · have h1 : ((r : Int) - 1) ≥ 0 := by omega
      have hb1 : Below wr.heap.size wr (wr.alloc (.cells #[.int .u8 ((x : Int) / 2 ^ (8 * (r - 1)) % 256)] 5)) := (Below.refl _ wr).alloc (Nat.le_refl _) _
      have HW2 := Lib.hid (HW1.out.below hb1)
      have HK2 := Lib.hid (HK.out.trans (Kw.of_below hb1))
      have HS2 := Lib.hid (show Sl (wr.alloc (.cells #[.int .u8 ((x : Int) / 2 ^ (8 * (r - 1)) % 256)] 5)) (wr.alloc (.cells #[.int .u8 ((x : Int) / 2 ^ (8 * (r - 1)) % 256)] 5)).heap.size enc8 1 (some ⟨wr.heap.size, 0, none⟩) 1 [UInt8.ofNat (x / 256 ^ (r - 1))] from
        ⟨rfl, fun _ => ⟨wr.heap.size, 0, rfl, by simp, fun j hj a u hu => by
          have hj0 : j = 0 := by omega
          subst hj0
          rw [cellH (heap_alloc_new wr _), ← byte_of x r]
          match a, hu with
          | 0, hu => exact hu⟩⟩)
      have HL := Lib.hid (show (l ++ (beB x nb).take (nb - r)).length + 1 ≤ 140737488355328 by
        rw [List.length_append, List.length_take, beB_len]; omega)
      have HT := Lib.hid (beB_step x h0 hr)
      clear hb1
      go_wp2_with fail
      refine (wPut_any wb base _ _ _ _ _ _ HW2.out HS2.out (fun h => by cases h) HL.out).mono ?_
      rintro e w3 ⟨rfl, hw3, hk3⟩
      have HW3 := Lib.hid (show WrB w3 wb base (l ++ (beB x nb).take (nb - (r - 1))) by rw [HT.out, ← List.append_assoc]; exact hw3)
      have HK3 := Lib.hid (HK2.out.trans hk3)
      clear hw3 hk3
      go_wp2_with fail
      go_roundw
      case rel => exact ⟨r - 1, by go_num, by omega, HW3.out, HK3.out⟩
      case measure => simp [RowKit.intOf]; omega
    · have h1 : ¬ ((r : Int) - 1) ≥ 0 := by omega
      have hr0 : r = 0 := by omega
      subst hr0
      have HW3 := Lib.hid (show WrB wr wb base (l ++ beB x nb) by
        have := HW1.out
        rwa [Nat.sub_zero, List.take_of_length_le (by rw [beB_len]; exact Nat.le_refl _)] at this)
      go_wp2_with fail
      refine bodyPost_ret (results_none rfl _ _ _) rfl ?_
      exact ⟨rfl, HW3.out, HK.out⟩
end Go.Proofs.YtbpmmmnphpkdjaaGreatDoor
namespace Go.Proofs.YtbpmmmnphpkdjaaGreatDoor
open Go.RowKit Go.MapKept Go.Maps
def m32 (n : Int) : Nat := (n % 4294967296).toNat
def m64 (n : Int) : Nat := (n % 18446744073709551616).toNat
theorem m32_cast (n : Int) : ((m32 n : Nat) : Int) = n % 4294967296 := Int.toNat_of_nonneg (Int.emod_nonneg _ (by decide))
theorem m64_cast (n : Int) : ((m64 n : Nat) : Int) = n % 18446744073709551616 := Int.toNat_of_nonneg (Int.emod_nonneg _ (by decide))
set_option maxRecDepth 100000 in
theorem wInt_any (wb base : Nat) (l : Bs) (n : Int) (w : World) (h : WrB w wb base l) (hn : l.length ≤ 70368744177664) :
    Calls Tryz.prog 95 #[.pointer (some ⟨wb, 0, none⟩), .int .i32 n] w (WrPost (l ++ beB (m32 n) 4) wb base w) := by
  have HC := Lib.hid (number_any wb base 4 (m32 n) l w h hn (.inl rfl))
  rw [m32_cast] at HC
  clear h
  go_enter Tryz.func95, Tryz.ntmps95
  go_wp2_with fail
  refine HC.out.mono ?_
  rintro e w1 ⟨rfl, hw, hk⟩
  go_wp2_with fail
  refine bodyPost_ret (results_none rfl _ _ _) rfl ?_
  exact ⟨rfl, hw, hk⟩
set_option maxRecDepth 100000 in
theorem wLong_any (wb base : Nat) (l : Bs) (n : Int) (w : World) (h : WrB w wb base l) (hn : l.length ≤ 70368744177664) :
    Calls Tryz.prog 94 #[.pointer (some ⟨wb, 0, none⟩), .int .i64 n] w (WrPost (l ++ beB (m64 n) 8) wb base w) := by
  have HC := Lib.hid (number_any wb base 8 (m64 n) l w h hn (.inr rfl))
  rw [m64_cast] at HC
  clear h
  go_enter Tryz.func94, Tryz.ntmps94
  go_wp2_with fail
  refine HC.out.mono ?_
  rintro e w1 ⟨rfl, hw, hk⟩
  go_wp2_with fail
  refine bodyPost_ret (results_none rfl _ _ _) rfl ?_
  exact ⟨rfl, hw, hk⟩
set_option maxRecDepth 100000 in
theorem wCount_any (wb base : Nat) (l : Bs) (n : Nat) (w : World) (h : WrB w wb base l) (hn : l.length ≤ 70368744177664) (hm : n ≤ 1073741824) :
    Calls Tryz.prog 160 #[.pointer (some ⟨wb, 0, none⟩), .int .i64 (n : Int)] w (WrPost (l ++ beB n 4) wb base w) := by
  have HC := Lib.hid (wInt_any wb base l (n : Int) w h hn)
  rw [show m32 (n : Int) = n by unfold m32; omega] at HC
  clear h
  go_enter Tryz.func160, Tryz.ntmps160
  go_wp2_with fail
  refine HC.out.mono ?_
  rintro e w1 ⟨rfl, hw, hk⟩
  go_wp2_with fail
  refine bodyPost_ret (results_none rfl _ _ _) rfl ?_
  exact ⟨rfl, hw, hk⟩
/-- bytes that a Writer's writes leave as they are -/
def SlK (wb base : Nat) (w : World) (A : Option Addr) (m : Nat) (l : Bs) : Prop := ∀ W, Kw wb base w W → Sl W W.heap.size enc8 1 A m l
set_option maxRecDepth 100000 in
theorem wBuffer_any (wb base : Nat) (l l' : Bs) (A' : Option Addr) (m c' : Nat) (w : World) (h : WrB w wb base l) (hs : SlK wb base w A' m l') (hA : A' = none → m = 0 ∧ c' = 0) (hn : l.length ≤ 70368744177664) (hm : m ≤ 1073741824) :
    Calls Tryz.prog 200 #[.pointer (some ⟨wb, 0, none⟩), .slice A' m c'] w (WrPost (l ++ (beB m 4 ++ l')) wb base w) := by
  have HC := Lib.hid (wCount_any wb base l m w h hn hm)
  have HS := Lib.hid hs
  clear h hs
  go_enter Tryz.func200, Tryz.ntmps200
  go_wp2_with fail
  refine HC.out.mono ?_
  rintro e w1 ⟨rfl, hw, hk⟩
  have HK := Lib.hid hk
  have hP := wPut_any wb base (l ++ beB m 4) l' A' m c' w1 hw (HS.out _ hk) hA (by rw [List.length_append, beB_len]; omega)
  rw [List.append_assoc] at hP
  have HP := Lib.hid hP
  clear hw hk hP
  go_wp2_with fail
  refine HP.out.mono ?_
  rintro e w2 ⟨rfl, hw, hk⟩
  have HK2 := Lib.hid (HK.out.trans hk); have HW2 := Lib.hid hw
  clear hw hk
  go_wp2_with fail
  refine bodyPost_ret (results_none rfl _ _ _) rfl ?_
  exact ⟨rfl, HW2.out, HK2.out⟩
set_option maxRecDepth 100000 in
theorem wText_any (wb base : Nat) (l : Bs) (s : ByteArray) (w : World) (h : WrB w wb base l) (hn : l.length ≤ 70368744177664) (hm : s.size ≤ 1073741824) :
    Calls Tryz.prog 161 #[.pointer (some ⟨wb, 0, none⟩), .string s] w (WrPost (l ++ (beB s.size 4 ++ s.data.toList)) wb base w) := by
  have hrun := Lib.run_convert_string_bytes w 9 41 5 s Tryz.underlying9 Tryz.underlying41 Tryz.underlying5
  have hb1 : Below w.heap.size w (Lib.bytesWorld w 5 s) := ⟨rfl, rfl, rfl, by rw [Lib.bytesWorld_size]; omega, fun k hk => Lib.bytesWorld_at_old w 5 s k hk⟩
  have hlt := Nat.lt_of_lt_of_le h.lt h.size
  have HW := Lib.hid (h.below hb1)
  have HK := Lib.hid (Kw.of_below (wb := wb) (base := base) hb1)
  have HS := Lib.hid (show SlK wb base (Lib.bytesWorld w 5 s) (some ⟨w.heap.size, 0, none⟩) s.size s.data.toList from fun W hW =>
    ⟨by simp, fun _ => ⟨w.heap.size, 0, rfl, Nat.lt_of_lt_of_le (by rw [Lib.bytesWorld_size]; omega) hW.size, fun j hj a u hu => by
      have h1 := hW.other w.heap.size _ (Lib.bytesWorld_at_new w 5 s) (fun cs e => by injection e with _ _ e; simp at e) (by omega)
      have h2 := Lib.bytesWorld_cell w 5 s j hj
      rw [cellH (Lib.bytesWorld_at_new w 5 s)] at h2
      match a, hu with
      | 0, hu =>
        rw [cellH h1]
        simp only [Nat.mul_one, Nat.add_zero, Nat.zero_add]
        rw [h2, ← hu]
        simp only [enc8, List.getElem?_cons_zero]
        rw [getElem!_pos _ j (by simpa using hj)]
        simp [List.getD, hj]⟩⟩)
  generalize Lib.bytesWorld w 5 s = W1 at *
  clear h hb1
  go_enter Tryz.func161, Tryz.ntmps161
  go_wp2_with fail
  refine (wBuffer_any wb base l _ _ _ _ W1 HW.out HS.out (fun h => by cases h) hn hm).mono ?_
  rintro e w2 ⟨rfl, hw, hk⟩
  have HK2 := Lib.hid (HK.out.trans hk); have HW2 := Lib.hid hw
  clear hw hk
  go_wp2_with fail
  refine bodyPost_ret (results_none rfl _ _ _) rfl ?_
  exact ⟨rfl, HW2.out, HK2.out⟩
theorem eqBytesSome (a : Addr) (n c : Nat) (w : World) : (binOp .eql 41 (.slice (some a) n c) (.slice none 0 0)).run Tryz.prog w = .ok (.bool false) w := by kernel_rfl
/-- bytes in a row that the call made -/
def Row8 (w : World) (base : Nat) (A : Option Addr) (n c : Nat) (l : Bs) : Prop := w.ownsRow base 5 1 (.slice A n c) n (l.flatMap enc8)
theorem Row8.nil_cap {w : World} {base n c : Nat} {l : Bs} (h : Row8 w base none n c l) : n = 0 ∧ c = 0 := by
  rcases h.2 with ⟨e, e2⟩ | ⟨g, cap, cur, e, _⟩
  · injection e with e e5 e6
    exact ⟨e2, e6⟩
  · injection e with e; cases e
theorem Row8.sl {w : World} {base n c : Nat} {A : Option Addr} {l : Bs} (h : Row8 w base A n c l) (hl : l.length = n) : Sl w w.heap.size enc8 1 A n l := Sl.of_own enc8_len h hl
def Clone8 (n : Nat) (l : Bs) (w : World) (e : Ending) (w' : World) : Prop := (∃ A c, e = .returned (.slice A n c) ∧ Row8 w' w.heap.size A n c l) ∧ Below w.heap.size w w'
theorem eqBytesNil (w : World) : (binOp .eql 41 (.slice none 0 0) (.slice none 0 0)).run Tryz.prog w = .ok (.bool true) w := by kernel_rfl
set_option maxRecDepth 100000 in
theorem clone8_nil (w : World) : Calls Tryz.prog 97 #[.slice none 0 0] w fun e w' => e = .returned (.slice none 0 0) ∧ w' = w := by
  have hq := eqBytesNil
  go_enter Tryz.func97, Tryz.ntmps97
  go_wp2_with fail
  go_ret
  exact ⟨rfl, rfl⟩
set_option maxRecDepth 100000 in
theorem clone8_any (A : Option Addr) (n c : Nat) (l : Bs) (w : World) (hz : Sl w w.heap.size enc8 1 A n l) (hA : A = none → n = 0 ∧ c = 0) (hn : n ≤ 140737488355328) :
    Calls Tryz.prog 97 #[.slice A n c] w (Clone8 n l w) := by
  cases A with
  | none =>
    obtain ⟨rfl, rfl⟩ := hA rfl
    have hl : l = [] := List.length_eq_zero_iff.1 hz.len
    subst hl
    refine (clone8_nil w).mono ?_
    rintro e w' ⟨rfl, rfl⟩
    exact ⟨⟨none, 0, rfl, World.ownsRow_nil _ _ _ _⟩, Below.refl _ _⟩
  | some a =>
    have hb0 : Below w.heap.size w (w.alloc (.cells #[] 5)) := (Below.refl _ w).alloc (Nat.le_refl _) _
    have HS := Lib.hid (hz.belowMore hb0 hb0.size)
    have HB := Lib.hid hb0
    have hq := eqBytesSome a n c
    have HOW := Lib.hid (own_empty (T := 5) (k := 1) w)
    clear hz hA hb0
    go_enter Tryz.func97, Tryz.ntmps97
    go_wp2_with (at_builtin; refine wpList_app8 rfl _ _ rfl w.heap.size (some ⟨w.heap.size, 0, none⟩) 0 0 [] ?hx HOW.out (some a) n c l ?hy HS.out (fun e => by cases e) (by omega) HB.out.size ?hk)
    (try case hx => rfl)
    (try case hy => rfl)
    case hk =>
      intro A2 c2 w2 hv2 hg2
      have hb2 := own_belowG HOW.out hg2 HB.out.size
      have HV2 := Lib.hid hv2; have HB2 := Lib.hid (HB.out.trans hb2)
      clear hv2 hg2 hb2
      go_wp2_with fail
      go_ret
      exact ⟨⟨A2, c2, by simp, by unfold Row8; simpa using HV2.out⟩, HB2.out⟩
set_option maxRecDepth 100000 in
theorem wBytes_any (wb base : Nat) (l : Bs) (w : World) (h : WrB w wb base l) (hn : l.length ≤ 70368744177664) :
    Calls Tryz.prog 49 #[.pointer (some ⟨wb, 0, none⟩)] w (Clone8 l.length l w) := by
  obtain ⟨A, c, hcell, hrow⟩ := h.row
  have k0 : w.cell? ⟨wb, 0, none⟩ = some (.slice A l.length c) := by rw [cellH hcell]; rfl
  have HC := Lib.hid (clone8_any A l.length c l w (Row8.sl hrow rfl) (fun e => Row8.nil_cap (e ▸ hrow)) (by omega))
  clear h hcell hrow
  go_enter Tryz.func49, Tryz.ntmps49
  go_wp2_with fail
  refine HC.out.mono ?_
  rintro e w1 ⟨⟨A1, c1, rfl, hr⟩, hb⟩
  have HR := Lib.hid hr; have HB := Lib.hid hb
  clear hr hb
  go_wp2_with fail
  go_ret
  exact ⟨⟨A1, c1, rfl, HR.out⟩, HB.out⟩
set_option maxRecDepth 100000 in
theorem wLen_any (wb base : Nat) (l : Bs) (w : World) (h : WrB w wb base l) :
    Calls Tryz.prog 57 #[.pointer (some ⟨wb, 0, none⟩)] w fun e w' => e = .returned (.int .i64 (l.length : Int)) ∧ w = w' := by
  obtain ⟨A, c, hcell, hrow⟩ := h.row
  have k0 : w.cell? ⟨wb, 0, none⟩ = some (.slice A l.length c) := by rw [cellH hcell]; rfl
  clear h hcell hrow
  go_enter Tryz.func57, Tryz.ntmps57
  go_wp2_with fail
  go_ret
  exact ⟨rfl, rfl⟩
end Go.Proofs.YtbpmmmnphpkdjaaGreatDoor
