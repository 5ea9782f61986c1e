/- The walks of the showing of a text. -/
import Derived.Test.YtenhdbjkpopfmaaDoorRShowP
import Derived.Test.YtenhdbjkpopfmaaDoorRFirst
import Derived.Test.YtenhdbjkpopfmaaDoorBuilder
import Derived.Lib.Strings
import Derived.Lib.QuietBelow
import Derived.BigQuiet
namespace Go.Proofs.YtenhdbjkpopfmaaDoor
open Go.RowKit

theorem ret_str {a b : ByteArray} (h : a = b) : Ending.returned (.string a) = .returned (.string b) := by rw [h]
theorem conv_one (w : World) (c : Int) (h0 : 0 ≤ c) (h1 : c < 256) (src dst e : TypeId) (hs : Tryd.prog.underlying src = some (.slice e)) (he : Tryd.prog.underlying e = some (.int .u8)) (hd : Tryd.prog.underlying dst = some .string) :
    (convert src dst (.slice (some ⟨w.heap.size, 0, none⟩) 1 1)).run Tryd.prog (w.alloc (.cells #[.int .u8 c] e)) = .ok (.string ⟨#[c.toNat.toUInt8]⟩) (w.alloc (.cells #[.int .u8 c] e)) := by
  refine (run_convert_bytes_back (P := Tryd.prog) _ src dst e ⟨w.heap.size, 0, none⟩ 1 [c.toNat.toUInt8] hs he hd ?_)
  intro j hj
  have hj0 : j = 0 := by simpa using hj
  subst hj0
  have hc : ((c.toNat.toUInt8).toNat : Int) = c := by simp; omega
  show World.cell? _ _ = some (.int .u8 ((c.toNat.toUInt8).toNat : Int))
  rw [hc]
  have hb : (w.alloc (.cells #[.int .u8 c] e)).heap[w.heap.size]? = some (.cells #[.int .u8 c] e (0, 0)) := (MapKept.heap_alloc w _).1
  show (w.alloc (.cells #[.int .u8 c] e)).cell? ⟨w.heap.size, 0 + 0, none⟩ = _
  rw [Lib.cell_of_heap hb]; rfl

set_option maxHeartbeats 1000000 in
theorem digit_any (n : Int) (h0 : 0 ≤ n) (h1 : n < 16) (w : World) :
    Calls Tryd.prog 33 #[.int .i64 n] w fun e w' => e = .returned (.string ⟨#[hexd n.toNat]⟩) ∧ Below w.heap.size w w' := by
  by_cases h : n < 10
  · have hx : hexd n.toNat = (48 + n).toNat.toUInt8 := by unfold hexd; rw [if_pos (by omega)]; congr 1; omega
    have H := Lib.hid hx; clear hx
    go_enter Tryd.func33, Tryd.ntmps33
    go_wp2
    rw [conv_one w (48 + n) (by omega) (by omega) _ _ _ Tryd.underlying43 Tryd.underlying5 Tryd.underlying9]
    simp only [Result.andThen]
    rw [Oper.upon_value]
    go_wp2
    go_ret
    exact ⟨ret_str (by rw [H.out]), (Below.refl _ w).alloc (Nat.le_refl _) _⟩
  · have hx : hexd n.toNat = (97 + n - 10).toNat.toUInt8 := by unfold hexd; rw [if_neg (by omega)]; congr 1; omega
    have H := Lib.hid hx; clear hx
    go_enter Tryd.func33, Tryd.ntmps33
    go_wp2
    rw [conv_one w (97 + n - 10) (by omega) (by omega) _ _ _ Tryd.underlying43 Tryd.underlying5 Tryd.underlying9]
    simp only [Result.andThen]
    rw [Oper.upon_value]
    go_wp2
    go_ret
    exact ⟨ret_str (by rw [H.out]), (Below.refl _ w).alloc (Nat.le_refl _) _⟩

theorem str_app (a b : List UInt8) : (⟨a.toArray⟩ : ByteArray) ++ (⟨b.toArray⟩ : ByteArray) = ⟨(a ++ b).toArray⟩ := by
  apply ByteArray.ext; simp
theorem str3 (a : List UInt8) (x y : UInt8) : Value.string ((⟨a.toArray⟩ : ByteArray) ++ (⟨#[x]⟩ : ByteArray) ++ (⟨#[y]⟩ : ByteArray)) = Value.string ⟨(a ++ [x, y]).toArray⟩ := by
  congr 1; apply ByteArray.ext; simp
theorem str4 (a : List UInt8) (c : UInt8) : Value.string ((⟨a.toArray⟩ : ByteArray) ++ (⟨#[92, 120]⟩ : ByteArray) ++ (⟨#[hexd (c.toNat / 16)]⟩ : ByteArray) ++ (⟨#[hexd (c.toNat % 16)]⟩ : ByteArray)) = Value.string ⟨(a ++ escB c).toArray⟩ := by
  congr 1; apply ByteArray.ext; simp [escB]
theorem extract_list (s : ByteArray) (a b : Nat) : s.extract a b = ⟨((s.data.toList.drop a).take (b - a)).toArray⟩ := by
  apply ByteArray.ext
  apply Array.toList_inj.1
  rw [Lib.extract_data]
theorem extract_char (s : ByteArray) (p : Nat) : s.extract p (p + charW s p) = ⟨(bytesAt s p).toArray⟩ := by
  rw [extract_list]; unfold bytesAt; rw [Nat.add_sub_cancel_left]
theorem extract_one (s : ByteArray) (p : Nat) (h : p < s.size) : s.extract p (p + 1) = ⟨#[s.get! p]⟩ := by
  rw [extract_list, Nat.add_sub_cancel_left]
  have e : (s.data.toList.drop p).take 1 = [s.get! p] := by
    rw [List.take_one, List.head?_drop, get_eq s p h]
    have h' : p < s.data.toList.length := by simpa using h
    rw [List.getElem?_eq_getElem h']; rfl
  rw [e]
theorem bytesAt_get (s : ByteArray) (p j : Nat) (hj : j < charW s p) (h : p + j < s.size) : (bytesAt s p)[j]? = some s[p + j] := by
  have h' : p + j < s.data.toList.length := by simpa using h
  unfold bytesAt
  rw [List.getElem?_take_of_lt hj, List.getElem?_drop, List.getElem?_eq_getElem h']; rfl
theorem wrap_div16 (b : Nat) (h : b < 2 ^ 8) : IntKind.i64.wrap ((b : Int).tdiv 16) = ((b / 16 : Nat) : Int) := by
  have e : ((b : Int)).tdiv 16 = ((b / 16 : Nat) : Int) := by rw [Int.tdiv_eq_ediv_of_nonneg (by omega)]; omega
  rw [e]; exact IntWalk.i64_in _ (by omega)
theorem wrap_mod16 (b : Nat) (h : b < 2 ^ 8) : IntKind.i64.wrap ((b : Int).tmod 16) = ((b % 16 : Nat) : Int) := by
  have e : ((b : Int)).tmod 16 = ((b % 16 : Nat) : Int) := by rw [Int.tmod_eq_emod_of_nonneg (by omega)]; omega
  rw [e]; exact IntWalk.i64_in _ (by omega)
set_option maxRecDepth 100000 in
set_option maxHeartbeats 4000000 in
theorem refShow_any (s : ByteArray) (hs : s.size ≤ 67108864) (w : World) :
    Calls Tryd.prog 22 #[.string s] w fun e w' => e = .returned (.string ⟨(showL s).toArray⟩) ∧ Below w.heap.size w w' := by
  go_enter Tryd.func22, Tryd.ntmps22
  go_wp2
  go_loopw [3, 4] (fun o i wr => ∃ (p f : Nat) (acc : List UInt8), o = .string ⟨acc.toArray⟩ ∧ i = .int .i64 ↑p ∧ p ≤ s.size ∧ acc ++ showF s f p = [34] ++ showF s s.size 0 ∧ s.size ≤ p + f ∧ acc.length ≤ 1 + 4 * p ∧ Below w.heap.size w wr) (fun _ i _ => s.size - (intOf i).toNat)
  case atStart => exact ⟨0, s.size, [34], rfl, rfl, by omega, rfl, by omega, by simp, Below.refl _ _⟩
  case round =>
    obtain ⟨p, f, acc, rfl, rfl, hps, hF, hfu, hal, hbw⟩ := hrel
    have HF := Lib.hid hF; clear hF
    have HB := Lib.hid hbw; clear hbw
    by_cases hp : p < s.size
    · have hw1 := charW_pos s p
      have hw2 := charW_le s p hp
      have hw4 := charW_le4 s p
      have hr := charR_range s p
      have HO := Lib.hid (ofI_charR s p)
      obtain ⟨g, rfl⟩ : ∃ g, f = g + 1 := ⟨f - 1, by omega⟩
      have HG := Lib.hid (showF_go s g p hp)
      have HL := showItem_length s p hp
      by_cases hq : charR s p = 34 ∨ charR s p = 92
      · have hI : showItem s p = [92, s.get! p] := by unfold showItem; rw [if_pos hq]
        have HI := Lib.hid hI; clear hI
        have hW : charW s p = 1 := by rcases hq with h | h <;> exact (charR_ascii s p _ (by omega) h).1
        have HW := Lib.hid hW; clear hW
        have HX := Lib.hid (extract_one s p hp)
        rcases hq with h | h
        · have hb1 : (charR s p == 34) = true := by simp [h]
          clear h
          go_wp2_with fail
          refine (char_any s p hp (by omega) _).mono ?_
          rintro e w' ⟨rfl, rfl⟩
          go_wp2_with fail
          go_roundw
          case rel => exact ⟨p + charW s p, g, acc ++ showItem s p, by rw [HX.out, HI.out]; exact str3 _ _ _, by go_num, by omega, by rw [← HF.out, HG.out, List.append_assoc], by omega, by rw [List.length_append]; omega, HB.out⟩
          case measure => simp [intOf]; omega
        · have hb1 : (charR s p == 34) = false := by simp [h]
          have hb2 : (charR s p == 92) = true := by simp [h]
          clear h
          go_wp2_with fail
          refine (char_any s p hp (by omega) _).mono ?_
          rintro e w' ⟨rfl, rfl⟩
          go_wp2_with fail
          go_roundw
          case rel => exact ⟨p + charW s p, g, acc ++ showItem s p, by rw [HX.out, HI.out]; exact str3 _ _ _, by go_num, by omega, by rw [← HF.out, HG.out, List.append_assoc], by omega, by rw [List.length_append]; omega, HB.out⟩
          case measure => simp [intOf]; omega
      · have hb1 : (charR s p == 34) = false := by simp; omega
        have hb2 : (charR s p == 92) = false := by simp; omega
        by_cases hk : charK s p = 1
        · have hI : showItem s p = bytesAt s p := by unfold showItem; rw [if_neg hq, if_pos hk]
          have HI := Lib.hid hI; clear hI hq
          have hkb : (ofI (charR s p) == 1) = true := by rw [HO.out]; simp [hk]
          have HX := Lib.hid (extract_char s p)
          clear hk
          go_wp2_with fail
          refine (char_any s p hp (by omega) _).mono ?_
          rintro e w' ⟨rfl, rfl⟩
          go_wp2_with fail
          refine (refOf_any _ _).mono ?_
          rintro e w' ⟨rfl, rfl⟩
          go_wp2_with fail
          go_roundw
          case rel => exact ⟨p + charW s p, g, acc ++ showItem s p, by rw [HX.out, HI.out]; exact congrArg Value.string (str_app _ _), by go_num, by omega, by rw [← HF.out, HG.out, List.append_assoc], by omega, by rw [List.length_append]; omega, HB.out⟩
          case measure => simp [intOf]; omega
        · have hI : showItem s p = (bytesAt s p).flatMap escB := by unfold showItem; rw [if_neg hq, if_neg hk]
          have HI := Lib.hid hI; clear hI hq
          have hkb : (ofI (charR s p) == 1) = false := by rw [HO.out]; simp [hk]
          clear hk
          go_wp2_with fail
          refine (char_any s p hp (by omega) _).mono ?_
          rintro e w' ⟨rfl, rfl⟩
          go_wp2_with fail
          refine (refOf_any _ _).mono ?_
          rintro e w' ⟨rfl, rfl⟩
          go_wp2_with fail
          obtain ⟨wo, rfl⟩ : ∃ wo : World, wo = wr := ⟨_, rfl⟩
          go_loopw [3, 7] (fun o i wx => ∃ (j : Nat) (cur : List UInt8), o = .string ⟨cur.toArray⟩ ∧ cur = acc ++ ((bytesAt s p).take j).flatMap escB ∧ cur.length = acc.length + 4 * j ∧ i = .int .i64 ↑(p + j) ∧ j ≤ charW s p ∧ Below w.heap.size w wx) (fun _ i _ => p + charW s p - (intOf i).toNat)
          case atStart => exact ⟨0, acc, rfl, by simp, by simp, rfl, by omega, HB.out⟩
          case round =>
            obtain ⟨j, cur, rfl, hcur, hcl, rfl, hj, hbx⟩ := hrel
            have HB2 := Lib.hid hbx; clear hbx
            have HC := Lib.hid hcur; clear hcur
            have hcl1 : cur.length ≤ acc.length + 4 * j := by omega
            have HCL := Lib.hid hcl; clear hcl
            by_cases hjw : j < charW s p
            · have hpj : p + j < s.size := by omega
              have hlt := UInt8.toNat_lt s[p + j]
              have HIDX := Lib.hid (bytesAt_get s p j hjw hpj)
              have q1 : IntKind.i64.wrap ((s[p + j].toNat : Int).tdiv 16) = ((s[p + j].toNat / 16 : Nat) : Int) := wrap_div16 _ hlt
              have q2 : IntKind.i64.wrap ((s[p + j].toNat : Int).tmod 16) = ((s[p + j].toNat % 16 : Nat) : Int) := wrap_mod16 _ hlt
              have cD : ∀ (n : Int), 0 ≤ n → n < 16 → ∀ d os, Calls Tryd.prog 33 #[.int .i64 n] (Go.Sort.grow (redrawn wr d) os) fun e w'' => e = .returned (.string ⟨#[hexd n.toNat]⟩) ∧ ∃ p : Regrown, w'' = Go.Sort.grow (redrawn wr p.d) p.os := fun n h0 h1 d os => Calls.regrown_of (digit_any n h0 h1 _)
              have CD := Lib.hid cD; clear cD
              have hix : 0 ≤ (p : Int) + (j : Int) ∧ (p : Int) + (j : Int) < (s.size : Int) := by omega
              have n1 : ¬ 9223372036854775807 < cur.length + 2 := by omega
              have n2 : ¬ 9223372036854775807 < cur.length + 2 + 1 := by omega
              have n3 : ¬ 9223372036854775807 < cur.length + 2 + 1 + 1 := by omega
              go_wp2
              refine wp_region_quiet_below (by kernel_rfl) (by kernel_rfl) ?_
              repeat (go_big_quiet_step ((first | exact CD.out _ (by omega) (by omega) _ _ | (trace_state; fail))))
              refine wpQuiet_nil ?_
              intro _ hw'
              obtain ⟨⟨dq, osq⟩, hw''⟩ := hw'
              subst hw''
              go_wp2
              go_roundw
              case rel =>
                refine ⟨j + 1, cur ++ escB s[p + j], ?_, ?_, ?_, by go_num, by omega, ?_⟩
                · exact str4 _ _
                · rw [HC.out, List.take_add_one, HIDX.out]; simp
                · rw [List.length_append, HCL.out]; simp [escB]; omega
                · exact HB2.out.trans ((below_regrown wr dq osq).mono HB2.out.size)
              case measure => simp [intOf]; omega
            · obtain rfl : j = charW s p := by omega
              go_wp2
              go_roundw
              case rel => exact ⟨p + charW s p, g, cur, rfl, by go_num, by omega, by rw [← HF.out, HG.out, HI.out, HC.out, List.take_of_length_le (by rw [bytesAt_length s p hp]; omega), List.append_assoc], by omega, by omega, HB2.out⟩
              case measure => simp [intOf]; omega
    · have hE := showF_end s f p hp
      have HE := Lib.hid hE; clear hE
      go_wp2
      go_ret
      exact ⟨ret_str (by rw [show (⟨#[34]⟩ : ByteArray) = ⟨([34] : List UInt8).toArray⟩ from rfl, str_app]; unfold showL; rw [← HF.out, HE.out, List.append_nil]), HB.out⟩
end Go.Proofs.YtenhdbjkpopfmaaDoor
