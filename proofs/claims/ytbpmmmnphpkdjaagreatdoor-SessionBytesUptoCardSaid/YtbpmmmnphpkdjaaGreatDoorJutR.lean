/- The walks of the document's Put and Text, and of its lists of identities and of entries. Conditions: texts of at most 2^20 bytes, fewer than 2^45 bytes in all. -/
import Derived.Test.YtbpmmmnphpkdjaaGreatDoorJutL
namespace Go.Proofs.YtbpmmmnphpkdjaaGreatDoor
open Go.RowKit Go.MapKept Go.Maps
/-- what the document's writing leaves -/
def RwPost (l : Bs) (base : Nat) (w : World) (e : Ending) (w' : World) : Prop := (∃ A c, e = .returned (.slice A l.length c) ∧ Row8 w' base A l.length c l) ∧ Below base w w'
def NrR (base nb x : Nat) (l : Bs) (w : World) (b i : Value) (wr : World) : Prop := ∃ (r : Nat) (A : Option Addr) (c : Nat) (l2 : Bs), i = .int .i64 ((r : Int) - 1) ∧ b = .slice A l2.length c ∧ r ≤ nb ∧ l2 = l ++ (beB x nb).take (nb - r) ∧ Row8 wr base A l2.length c l2 ∧ Below base w wr
theorem Row8.later {w w' : World} {base n c : Nat} {A : Option Addr} {l : Bs} (h : Row8 w base A n c l) (hb : Below w.heap.size w w') : Row8 w' base A n c l := own_later h hb
set_option maxRecDepth 100000 in
theorem rwPut_any (base nb x : Nat) (A : Option Addr) (c : Nat) (l : Bs) (w : World) (h : Row8 w base A l.length c l) (hbs : base ≤ w.heap.size) (hn : l.length ≤ 70368744177664) (hb : nb = 4 ∨ nb = 8) :
    Calls Tryz.prog 98 #[.slice A l.length c, .int .u64 (x : Int), .int .i64 (nb : Int)] w (RwPost (l ++ beB x nb) base w) := by
  have HR := Lib.hid h; have HBS := Lib.hid hbs
  have hb8 : nb ≤ 8 := by omega
  clear h hb hbs
  go_enter Tryz.func98, Tryz.ntmps98
  go_wp2_with fail
  go_loopw [0, 7] (fun b i wr => NrR base nb x l w b i wr) (fun _ i _ => (RowKit.intOf i + 1).toNat)
  case atStart => exact ⟨nb, A, c, l, rfl, rfl, Nat.le_refl _, by rw [Nat.sub_self, List.take_zero, List.append_nil], HR.out, Below.refl _ _⟩
  case round =>
    obtain ⟨r, A1, c1, l2, rfl, rfl, hr, hl2, hrow, hbw⟩ := hrel
    have HROW := Lib.hid hrow; have HB := Lib.hid hbw
    by_cases h0 : 1 ≤ r
    · have h1 : ((r : Int) - 1) ≥ 0 := by omega
      have hb1 : Below wr.heap.size wr (wr.alloc (.cells #[.int .u8 ((x : Int) / 2 ^ (8 * (r - 1)) % 256)] 5)) := (Below.refl _ wr).alloc (Nat.le_refl _) _
      have HROW2 := Lib.hid (HROW.out.later hb1)
      have HBS2 := Lib.hid (show base ≤ (wr.alloc (.cells #[.int .u8 ((x : Int) / 2 ^ (8 * (r - 1)) % 256)] 5)).heap.size from Nat.le_trans (Nat.le_trans HBS.out HB.out.size) hb1.size)
      have HB2 := Lib.hid (HB.out.trans (hb1.mono (Nat.le_trans HBS.out HB.out.size)))
      have HS2 := Lib.hid (show Sl (wr.alloc (.cells #[.int .u8 ((x : Int) / 2 ^ (8 * (r - 1)) % 256)] 5)) (wr.alloc (.cells #[.int .u8 ((x : Int) / 2 ^ (8 * (r - 1)) % 256)] 5)).heap.size enc8 1 (some ⟨wr.heap.size, 0, none⟩) 1 [UInt8.ofNat (x / 256 ^ (r - 1))] from
        ⟨rfl, fun _ => ⟨wr.heap.size, 0, rfl, by simp, fun j hj a u hu => by
          have hj0 : j = 0 := by omega
          subst hj0
          rw [cellH (heap_alloc_new wr _), ← byte_of x r]
          match a, hu with
          | 0, hu => exact hu⟩⟩)
      have HL := Lib.hid (show l2.length + 1 ≤ 140737488355328 by
        rw [hl2, List.length_append, List.length_take, beB_len]; omega)
      have HT := Lib.hid (show l2 ++ [UInt8.ofNat (x / 256 ^ (r - 1))] = l ++ (beB x nb).take (nb - (r - 1)) by rw [hl2, beB_step x h0 hr, List.append_assoc])
      clear hb1 hrow hbw hl2
      go_wp2_with (at_builtin; refine wpList_app8 rfl _ _ rfl base A1 l2.length c1 l2 ?hx HROW2.out (some ⟨wr.heap.size, 0, none⟩) 1 1 [UInt8.ofNat (x / 256 ^ (r - 1))] ?hy HS2.out (fun e => by cases e) HL.out HBS2.out ?hk)
      (try case hx => rfl)
      (try case hy => rfl)
      case hk =>
        intro A3 c3 w3 hv hg
        have hb3 := own_belowG HROW2.out hg HBS2.out
        have HV3 := Lib.hid (show Row8 w3 base A3 (l2 ++ [UInt8.ofNat (x / 256 ^ (r - 1))]).length c3 (l2 ++ [UInt8.ofNat (x / 256 ^ (r - 1))]) by unfold Row8; simpa using hv)
        have HB3 := Lib.hid (HB2.out.trans hb3)
        have HL3 := Lib.hid (show (l2 ++ [UInt8.ofNat (x / 256 ^ (r - 1))]).length = l2.length + 1 by simp)
        clear hv hg hb3
        go_wp2_with fail
        go_roundw
        case rel => exact ⟨r - 1, A3, c3, l2 ++ [UInt8.ofNat (x / 256 ^ (r - 1))], by go_num, by rw [HL3.out], by omega, HT.out, HV3.out, HB3.out⟩
        case measure => simp [RowKit.intOf]; omega
    · have h1 : ¬ ((r : Int) - 1) ≥ 0 := by omega
      have hr0 : r = 0 := by omega
      subst hr0
      have hl3 : l2 = l ++ beB x nb := by rw [hl2, Nat.sub_zero, List.take_of_length_le (by rw [beB_len]; exact Nat.le_refl _)]
      subst hl3
      clear hrow hbw hl2
      go_wp2_with fail
      go_ret
      exact ⟨⟨A1, c1, by simp, HROW.out⟩, HB.out⟩
theorem strCells_flat (s : ByteArray) : Lib.strCells s = s.data.toList.flatMap enc8 := by
  unfold Lib.strCells enc8
  induction s.data.toList with
  | nil => rfl
  | cons x r ih => rw [List.map_cons, List.flatMap_cons, ih]; rfl
set_option maxRecDepth 100000 in
theorem rwText_any (base : Nat) (A : Option Addr) (c : Nat) (l : Bs) (s : ByteArray) (w : World) (h : Row8 w base A l.length c l) (hbs : base ≤ w.heap.size) (hn : l.length ≤ 70368744177664) (hs : s.size ≤ 1073741824) :
    Calls Tryz.prog 130 #[.slice A l.length c, .string s] w (RwPost (l ++ txtB s) base w) := by
  have HBS := Lib.hid hbs
  have hC := rwPut_any base 4 s.size A c l w h hbs hn (.inl rfl)
  obtain ⟨l1, hl1⟩ : ∃ l1, l1 = l ++ beB s.size 4 := ⟨_, rfl⟩
  obtain ⟨l3, hl3⟩ : ∃ l3, l3 = l ++ txtB s := ⟨_, rfl⟩
  have HL1 := Lib.hid (show l1.length = l.length + 4 by rw [hl1, List.length_append, beB_len])
  have HL3 := Lib.hid (show l3.length = l1.length + s.size by rw [hl3, hl1, List.length_append, List.length_append, txtB_len, beB_len]; omega)
  have HF3 := Lib.hid (show l3.flatMap enc8 = l1.flatMap enc8 ++ Lib.strCells s by rw [strCells_flat, hl3, hl1, txtB, ← List.append_assoc, List.flatMap_append])
  rw [← hl1] at hC
  rw [← hl3]
  have HC := Lib.hid hC
  have hinfo : (Tryz.prog.info? 5).map (fun i => (i.zero, i.size, i.bytes)) = some (some (.int .u8 0), 1, 1) := by kernel_rfl
  obtain ⟨i0, hi0, hz0, hz1, hz2⟩ := info_partsI hinfo
  clear h hbs hC hinfo hl1 hl3
  go_enter Tryz.func130, Tryz.ntmps130
  go_wp2_with fail
  refine HC.out.mono ?_
  rintro e w1 ⟨⟨A1, c1, rfl, hr⟩, hb⟩
  have HR1 := Lib.hid hr; have HB1 := Lib.hid hb
  have HBS1 := Lib.hid (Nat.le_trans HBS.out hb.size)
  clear hr hb
  go_wp2_with (at_builtin; refine Lib.wpList_append_own_string _ rfl _ _ 41 9 rfl base 5 i0 Tryz.underlying41 Tryz.underlying9 hi0 hz0 hz1 hz2 _ l1.length _ ?hs HR1.out s ?hx ?c3 ?c4 HBS1.out ?hk)
  (try case hs => rfl)
  (try case hx => rfl)
  (try case c3 => rw [HL1.out]; unfold maxLen; omega)
  (try case c4 => rw [HL1.out]; omega)
  case hk =>
    intro v' w2 hv hg _
    have hb2 := own_belowG HR1.out hg HBS1.out
    obtain ⟨A2, c2, rfl⟩ := own_formI hv
    have HV2 := Lib.hid (show Row8 w2 base A2 l3.length c2 l3 by
      unfold Row8
      rw [HL3.out, HF3.out]
      simpa using hv)
    have HB2 := Lib.hid (HB1.out.trans hb2)
    clear hv hg hb2
    go_wp2_with fail
    go_ret
    exact ⟨⟨A2, c2, by rw [HL3.out]; rfl, HV2.out⟩, HB2.out⟩
/-- the document's list, some of it written -/
def RLI (base n : Nat) (l : Bs) (zs : List IdV) (w : World) (b i : Value) (wr : World) : Prop := ∃ (k : Nat) (A : Option Addr) (c : Nat) (l2 : Bs), i = .int .i64 ↑k ∧ b = .slice A l2.length c ∧ k ≤ n ∧ l2 = l ++ (beB n 4 ++ (zs.take k).flatMap idB) ∧ Row8 wr base A l2.length c l2 ∧ Below base w wr
set_option maxRecDepth 100000 in
set_option maxHeartbeats 1000000 in
theorem rwPutIds_any (base : Nat) (A0 : Option Addr) (c0 : Nat) (l : Bs) (A : Option Addr) (n c : Nat) (zs : List IdV) (w : World) (h : Row8 w base A0 l.length c0 l) (hbs : base ≤ w.heap.size) (hz : Sl w base encId 2 A n zs) (hl : l.length ≤ 1073741824) (hn : n ≤ 1048576) (hs : ∀ j, j < n → (zs[j]!.1.size ≤ 1048576 ∧ zs[j]!.2.size ≤ 1048576)) :
    Calls Tryz.prog 99 #[.slice A0 l.length c0, .slice A n c] w (RwPost (l ++ (beB n 4 ++ zs.flatMap idB)) base w) := by
  have HZ := Lib.hid hz; have HS := Lib.hid hs; have HBS := Lib.hid hbs
  have HL := Lib.hid hz.len
  have hC := rwPut_any base 4 n A0 c0 l w h hbs (by omega) (.inl rfl)
  obtain ⟨l1, hl1⟩ : ∃ l1, l1 = l ++ beB n 4 := ⟨_, rfl⟩
  rw [← hl1] at hC
  have HC := Lib.hid hC
  have HL1 := Lib.hid hl1
  have HF := Lib.hid (flat_small idB zs 2097164 (fun j hj => by have h1 := hs j (by rw [hz.len] at hj; exact hj); rw [idB_len]; omega))
  clear h hz hs hbs hC hl1
  go_enter Tryz.func99, Tryz.ntmps99
  go_wp2_with fail
  refine HC.out.mono ?_
  rintro e w1 ⟨⟨A1, c1, rfl, hr⟩, hb⟩
  have HR1 := Lib.hid hr; have HB1 := Lib.hid hb
  clear hr hb
  go_wp2_with fail
  go_loopw [0, 5] (fun b i wr => RLI base n l zs w b i wr) (fun _ i _ => n - (RowKit.intOf i).toNat)
  case atStart => exact ⟨0, A1, c1, l1, rfl, rfl, Nat.zero_le _, by rw [List.take_zero, List.flatMap_nil, List.append_nil, HL1.out], HR1.out, HB1.out⟩
  case round =>
    obtain ⟨k, A2, c2, l2, rfl, rfl, hk, hl2, hrow, hbw⟩ := hrel
    have HR2 := Lib.hid hrow; have HB2 := Lib.hid hbw; have HL2 := Lib.hid hl2
    have HS2 := Lib.hid (Nat.le_trans HBS.out hbw.size)
    by_cases hkn : k < n
    · have hkn2 : (k : Int) < (n : Int) := by omega
      obtain ⟨b, off, hA, hbk, hc⟩ := (HZ.out.below hbw).cells hkn
      have HSJ := Lib.hid (HS.out k hkn)
      have HST := Lib.hid (flat_step idB zs (k := k) (by rw [HL.out]; exact hkn))
      have hfl := HF.out k (by rw [HL.out]; exact hk)
      have HN2 := Lib.hid (show l2.length ≤ 17592186044416 by
        rw [hl2, List.length_append, List.length_append, beB_len]
        have : k * 2097164 ≤ 1048576 * 2097164 := Nat.mul_le_mul_right _ (by omega)
        omega)
      have HBK := Lib.hid hbk
      subst hA
      generalize zs[k]! = z at *
      obtain ⟨s, t⟩ := z
      have x0 : wr.cell? ⟨b, off + k * 2, none⟩ = some (.string s) := hc 0 _ rfl
      have x1 : wr.cell? ⟨b, off + k * 2 + 1, none⟩ = some (.string t) := hc 1 _ rfl
      clear hrow hbw hl2 hc hfl hbk
      go_wp2_with fail
      have hC := rwText_any base A2 c2 l2 s wr HR2.out HS2.out (Nat.le_trans HN2.out (by decide)) (Nat.le_trans HSJ.out.1 (by decide))
      obtain ⟨l3, hl⟩ : ∃ l3, l3 = l2 ++ txtB s := ⟨_, rfl⟩
      rw [← hl] at hC
      have HL3 := Lib.hid hl
      refine hC.mono ?_
      rintro e w3 ⟨⟨A3, c3, rfl, hr⟩, hb⟩
      have HR3 := Lib.hid hr; have HB3 := Lib.hid (HB2.out.trans hb); have HS3 := Lib.hid (Nat.le_trans HS2.out hb.size)
      have HN3 := Lib.hid (show l3.length ≤ 17592188141572 by rw [hl, List.length_append, txtB_len]; have h1 := HN2.out; have h2 := HSJ.out; omega)
      have x1 : w3.cell? ⟨b, off + k * 2 + 1, none⟩ = some (.string t) := (hb.cell HBK.out).trans x1
      clear hC hl hr hb
      go_wp2_with fail
      have hC := rwText_any base A3 c3 l3 t w3 HR3.out HS3.out (Nat.le_trans HN3.out (by decide)) (Nat.le_trans HSJ.out.2 (by decide))
      obtain ⟨l4, hl⟩ : ∃ l4, l4 = l3 ++ txtB t := ⟨_, rfl⟩
      rw [← hl] at hC
      have HL4 := Lib.hid hl
      refine hC.mono ?_
      rintro e w4 ⟨⟨A4, c4, rfl, hr⟩, hb⟩
      have HR4 := Lib.hid hr; have HB4 := Lib.hid (HB3.out.trans hb); have HS4 := Lib.hid (Nat.le_trans HS3.out hb.size)
      have HN4 := Lib.hid (show l4.length ≤ 17592190238728 by rw [hl, List.length_append, txtB_len]; have h1 := HN3.out; have h2 := HSJ.out; omega)
      clear hC hl hr hb
      go_wp2_with fail
      have HL9 := Lib.hid (show l4 = l ++ (beB n 4 ++ (zs.take (k + 1)).flatMap idB) by rw [HST.out, HL4.out, HL3.out, HL2.out]; simp [idB])
      go_roundw
      case rel => exact ⟨k + 1, A4, c4, l4, by go_num, rfl, by omega, HL9.out, HR4.out, HB4.out⟩
      case measure => simp [RowKit.intOf]; omega
    · have hkn2 : ¬ (k : Int) < (n : Int) := by omega
      have hkk : k = n := by omega
      subst hkk
      have hl3 : l2 = l ++ (beB k 4 ++ zs.flatMap idB) := by
        rw [hl2, List.take_of_length_le (by rw [HL.out]; exact Nat.le_refl _)]
      have HL3 := Lib.hid hl3
      clear hrow hbw hl2 hl3
      go_wp2_with fail
      go_ret
      rw [← HL3.out]
      exact ⟨⟨A2, c2, rfl, HR2.out⟩, HB2.out⟩
/-- the document's list, some of it written -/
def RLA (base n : Nat) (l : Bs) (zs : List AclV) (w : World) (b i : Value) (wr : World) : Prop := ∃ (k : Nat) (A : Option Addr) (c : Nat) (l2 : Bs), i = .int .i64 ↑k ∧ b = .slice A l2.length c ∧ k ≤ n ∧ l2 = l ++ (beB n 4 ++ (zs.take k).flatMap aclB) ∧ Row8 wr base A l2.length c l2 ∧ Below base w wr
end Go.Proofs.YtbpmmmnphpkdjaaGreatDoor
