/- The walks of a Writer's Int, Long, Count, Buffer, Text; a copy of bytes; Bytes, Len. Condition: fewer than 2^46 bytes. -/
import Derived.Test.YtibklpbnjpefnaaGreatDoorJutW
import Derived.Lib.AppendStr
import Derived.Lib.ConvBytes
namespace Go.Proofs.YtibklpbnjpefnaaGreatDoor
open Go.RowKit Go.MapKept Go.Maps
def m32 (n : Int) : Nat := (n % 4294967296).toNat
def m64 (n : Int) : Nat := (n % 18446744073709551616).toNat
theorem m32_cast (n : Int) : ((m32 n : Nat) : Int) = n % 4294967296 := Int.toNat_of_nonneg (Int.emod_nonneg _ (by decide))
theorem m64_cast (n : Int) : ((m64 n : Nat) : Int) = n % 18446744073709551616 := Int.toNat_of_nonneg (Int.emod_nonneg _ (by decide))
set_option maxRecDepth 100000 in
theorem wInt_any (wb base : Nat) (l : Bs) (n : Int) (w : World) (h : WrB w wb base l) (hn : l.length ≤ 70368744177664) :
    Calls Tryz.prog 39 #[.pointer (some ⟨wb, 0, none⟩), .int .i32 n] w (WrPost (l ++ beB (m32 n) 4) wb base w) := by
  have HC := Lib.hid (number_any wb base 4 (m32 n) l w h hn (.inl rfl))
  rw [m32_cast] at HC
  clear h
  go_enter Tryz.func39, Tryz.ntmps39
  go_wp2_with fail
  refine HC.out.mono ?_
  rintro e w1 ⟨rfl, hw, hk⟩
  go_wp2_with fail
  refine bodyPost_ret (results_none rfl _ _ _) rfl ?_
  exact ⟨rfl, hw, hk⟩
set_option maxRecDepth 100000 in
theorem wLong_any (wb base : Nat) (l : Bs) (n : Int) (w : World) (h : WrB w wb base l) (hn : l.length ≤ 70368744177664) :
    Calls Tryz.prog 66 #[.pointer (some ⟨wb, 0, none⟩), .int .i64 n] w (WrPost (l ++ beB (m64 n) 8) wb base w) := by
  have HC := Lib.hid (number_any wb base 8 (m64 n) l w h hn (.inr rfl))
  rw [m64_cast] at HC
  clear h
  go_enter Tryz.func66, Tryz.ntmps66
  go_wp2_with fail
  refine HC.out.mono ?_
  rintro e w1 ⟨rfl, hw, hk⟩
  go_wp2_with fail
  refine bodyPost_ret (results_none rfl _ _ _) rfl ?_
  exact ⟨rfl, hw, hk⟩
set_option maxRecDepth 100000 in
theorem wCount_any (wb base : Nat) (l : Bs) (n : Nat) (w : World) (h : WrB w wb base l) (hn : l.length ≤ 70368744177664) (hm : n ≤ 1073741824) :
    Calls Tryz.prog 69 #[.pointer (some ⟨wb, 0, none⟩), .int .i64 (n : Int)] w (WrPost (l ++ beB n 4) wb base w) := by
  have HC := Lib.hid (wInt_any wb base l (n : Int) w h hn)
  rw [show m32 (n : Int) = n by unfold m32; omega] at HC
  clear h
  go_enter Tryz.func69, Tryz.ntmps69
  go_wp2_with fail
  refine HC.out.mono ?_
  rintro e w1 ⟨rfl, hw, hk⟩
  go_wp2_with fail
  refine bodyPost_ret (results_none rfl _ _ _) rfl ?_
  exact ⟨rfl, hw, hk⟩
/-- bytes that a Writer's writes leave as they are -/
def SlK (wb base : Nat) (w : World) (A : Option Addr) (m : Nat) (l : Bs) : Prop := ∀ W, Kw wb base w W → Sl W W.heap.size enc8 1 A m l
set_option maxRecDepth 100000 in
theorem wBuffer_any (wb base : Nat) (l l' : Bs) (A' : Option Addr) (m c' : Nat) (w : World) (h : WrB w wb base l) (hs : SlK wb base w A' m l') (hA : A' = none → m = 0 ∧ c' = 0) (hn : l.length ≤ 70368744177664) (hm : m ≤ 1073741824) :
    Calls Tryz.prog 101 #[.pointer (some ⟨wb, 0, none⟩), .slice A' m c'] w (WrPost (l ++ (beB m 4 ++ l')) wb base w) := by
  have HC := Lib.hid (wCount_any wb base l m w h hn hm)
  have HS := Lib.hid hs
  clear h hs
  go_enter Tryz.func101, Tryz.ntmps101
  go_wp2_with fail
  refine HC.out.mono ?_
  rintro e w1 ⟨rfl, hw, hk⟩
  have HK := Lib.hid hk
  have hP := wPut_any wb base (l ++ beB m 4) l' A' m c' w1 hw (HS.out _ hk) hA (by rw [List.length_append, beB_len]; omega)
  rw [List.append_assoc] at hP
  have HP := Lib.hid hP
  clear hw hk hP
  go_wp2_with fail
  refine HP.out.mono ?_
  rintro e w2 ⟨rfl, hw, hk⟩
  have HK2 := Lib.hid (HK.out.trans hk); have HW2 := Lib.hid hw
  clear hw hk
  go_wp2_with fail
  refine bodyPost_ret (results_none rfl _ _ _) rfl ?_
  exact ⟨rfl, HW2.out, HK2.out⟩
set_option maxRecDepth 100000 in
theorem wText_any (wb base : Nat) (l : Bs) (s : ByteArray) (w : World) (h : WrB w wb base l) (hn : l.length ≤ 70368744177664) (hm : s.size ≤ 1073741824) :
    Calls Tryz.prog 71 #[.pointer (some ⟨wb, 0, none⟩), .string s] w (WrPost (l ++ (beB s.size 4 ++ s.data.toList)) wb base w) := by
  have hrun := Lib.run_convert_string_bytes w 9 24 5 s Tryz.underlying9 Tryz.underlying24 Tryz.underlying5
  have hb1 : Below w.heap.size w (Lib.bytesWorld w 5 s) := ⟨rfl, rfl, rfl, by rw [Lib.bytesWorld_size]; omega, fun k hk => Lib.bytesWorld_at_old w 5 s k hk⟩
  have hlt := Nat.lt_of_lt_of_le h.lt h.size
  have HW := Lib.hid (h.below hb1)
  have HK := Lib.hid (Kw.of_below (wb := wb) (base := base) hb1)
  have HS := Lib.hid (show SlK wb base (Lib.bytesWorld w 5 s) (some ⟨w.heap.size, 0, none⟩) s.size s.data.toList from fun W hW =>
    ⟨by simp, fun _ => ⟨w.heap.size, 0, rfl, Nat.lt_of_lt_of_le (by rw [Lib.bytesWorld_size]; omega) hW.size, fun j hj a u hu => by
      have h1 := hW.other w.heap.size _ (Lib.bytesWorld_at_new w 5 s) (fun cs e => by injection e with _ _ e; simp at e) (by omega)
      have h2 := Lib.bytesWorld_cell w 5 s j hj
      rw [cellH (Lib.bytesWorld_at_new w 5 s)] at h2
      match a, hu with
      | 0, hu =>
        rw [cellH h1]
        simp only [Nat.mul_one, Nat.add_zero, Nat.zero_add]
        rw [h2, ← hu]
        simp only [enc8, List.getElem?_cons_zero]
        rw [getElem!_pos _ j (by simpa using hj)]
        simp [List.getD, hj]⟩⟩)
  generalize Lib.bytesWorld w 5 s = W1 at *
  clear h hb1
  go_enter Tryz.func71, Tryz.ntmps71
  go_wp2_with fail
  refine (wBuffer_any wb base l _ _ _ _ W1 HW.out HS.out (fun h => by cases h) hn hm).mono ?_
  rintro e w2 ⟨rfl, hw, hk⟩
  have HK2 := Lib.hid (HK.out.trans hk); have HW2 := Lib.hid hw
  clear hw hk
  go_wp2_with fail
  refine bodyPost_ret (results_none rfl _ _ _) rfl ?_
  exact ⟨rfl, HW2.out, HK2.out⟩
theorem eqBytesSome (a : Addr) (n c : Nat) (w : World) : (binOp .eql 24 (.slice (some a) n c) (.slice none 0 0)).run Tryz.prog w = .ok (.bool false) w := by kernel_rfl
/-- bytes in a row that the call made -/
def Row8 (w : World) (base : Nat) (A : Option Addr) (n c : Nat) (l : Bs) : Prop := w.ownsRow base 5 1 (.slice A n c) n (l.flatMap enc8)
theorem Row8.nil_cap {w : World} {base n c : Nat} {l : Bs} (h : Row8 w base none n c l) : n = 0 ∧ c = 0 := by
  rcases h.2 with ⟨e, e2⟩ | ⟨g, cap, cur, e, _⟩
  · injection e with e e5 e6
    exact ⟨e2, e6⟩
  · injection e with e; cases e
theorem Row8.sl {w : World} {base n c : Nat} {A : Option Addr} {l : Bs} (h : Row8 w base A n c l) (hl : l.length = n) : Sl w w.heap.size enc8 1 A n l := Sl.of_own enc8_len h hl
def Clone8 (n : Nat) (l : Bs) (w : World) (e : Ending) (w' : World) : Prop := (∃ A c, e = .returned (.slice A n c) ∧ Row8 w' w.heap.size A n c l) ∧ Below w.heap.size w w'
theorem eqBytesNil (w : World) : (binOp .eql 24 (.slice none 0 0) (.slice none 0 0)).run Tryz.prog w = .ok (.bool true) w := by kernel_rfl
set_option maxRecDepth 100000 in
theorem clone8_nil (w : World) : Calls Tryz.prog 42 #[.slice none 0 0] w fun e w' => e = .returned (.slice none 0 0) ∧ w' = w := by
  have hq := eqBytesNil
  go_enter Tryz.func42, Tryz.ntmps42
  go_wp2_with fail
  go_ret
  exact ⟨rfl, rfl⟩
set_option maxRecDepth 100000 in
theorem clone8_any (A : Option Addr) (n c : Nat) (l : Bs) (w : World) (hz : Sl w w.heap.size enc8 1 A n l) (hA : A = none → n = 0 ∧ c = 0) (hn : n ≤ 140737488355328) :
    Calls Tryz.prog 42 #[.slice A n c] w (Clone8 n l w) := by
  cases A with
  | none =>
    obtain ⟨rfl, rfl⟩ := hA rfl
    have hl : l = [] := List.length_eq_zero_iff.1 hz.len
    subst hl
    refine (clone8_nil w).mono ?_
    rintro e w' ⟨rfl, rfl⟩
    exact ⟨⟨none, 0, rfl, World.ownsRow_nil _ _ _ _⟩, Below.refl _ _⟩
  | some a =>
    have hb0 : Below w.heap.size w (w.alloc (.cells #[] 5)) := (Below.refl _ w).alloc (Nat.le_refl _) _
    have HS := Lib.hid (hz.belowMore hb0 hb0.size)
    have HB := Lib.hid hb0
    have hq := eqBytesSome a n c
    have HOW := Lib.hid (own_empty (T := 5) (k := 1) w)
    clear hz hA hb0
    go_enter Tryz.func42, Tryz.ntmps42
    go_wp2_with (at_builtin; refine wpList_app8 rfl _ _ rfl w.heap.size (some ⟨w.heap.size, 0, none⟩) 0 0 [] ?hx HOW.out (some a) n c l ?hy HS.out (fun e => by cases e) (by omega) HB.out.size ?hk)
    (try case hx => rfl)
    (try case hy => rfl)
    case hk =>
      intro A2 c2 w2 hv2 hg2
      have hb2 := own_belowG HOW.out hg2 HB.out.size
      have HV2 := Lib.hid hv2; have HB2 := Lib.hid (HB.out.trans hb2)
      clear hv2 hg2 hb2
      go_wp2_with fail
      go_ret
      exact ⟨⟨A2, c2, by simp, by unfold Row8; simpa using HV2.out⟩, HB2.out⟩
set_option maxRecDepth 100000 in
theorem wBytes_any (wb base : Nat) (l : Bs) (w : World) (h : WrB w wb base l) (hn : l.length ≤ 70368744177664) :
    Calls Tryz.prog 10 #[.pointer (some ⟨wb, 0, none⟩)] w (Clone8 l.length l w) := by
  obtain ⟨A, c, hcell, hrow⟩ := h.row
  have k0 : w.cell? ⟨wb, 0, none⟩ = some (.slice A l.length c) := by rw [cellH hcell]; rfl
  have HC := Lib.hid (clone8_any A l.length c l w (Row8.sl hrow rfl) (fun e => Row8.nil_cap (e ▸ hrow)) (by omega))
  clear h hcell hrow
  go_enter Tryz.func10, Tryz.ntmps10
  go_wp2_with fail
  refine HC.out.mono ?_
  rintro e w1 ⟨⟨A1, c1, rfl, hr⟩, hb⟩
  have HR := Lib.hid hr; have HB := Lib.hid hb
  clear hr hb
  go_wp2_with fail
  go_ret
  exact ⟨⟨A1, c1, rfl, HR.out⟩, HB.out⟩
set_option maxRecDepth 100000 in
theorem wLen_any (wb base : Nat) (l : Bs) (w : World) (h : WrB w wb base l) :
    Calls Tryz.prog 36 #[.pointer (some ⟨wb, 0, none⟩)] w fun e w' => e = .returned (.int .i64 (l.length : Int)) ∧ w = w' := by
  obtain ⟨A, c, hcell, hrow⟩ := h.row
  have k0 : w.cell? ⟨wb, 0, none⟩ = some (.slice A l.length c) := by rw [cellH hcell]; rfl
  clear h hcell hrow
  go_enter Tryz.func36, Tryz.ntmps36
  go_wp2_with fail
  go_ret
  exact ⟨rfl, rfl⟩
end Go.Proofs.YtibklpbnjpefnaaGreatDoor
