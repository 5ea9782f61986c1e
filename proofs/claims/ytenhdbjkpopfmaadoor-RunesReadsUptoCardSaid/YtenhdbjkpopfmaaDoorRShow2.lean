/- The walk of runes.Show. Condition: the text has at most 2^20 bytes (what is written takes up to four times as many). -/
import Derived.Test.YtenhdbjkpopfmaaDoorRShow
import Derived.Laws.IdiomStrings
import Derived.Lib.ConvBytes
namespace Go.Proofs.YtenhdbjkpopfmaaDoor
open Go.RowKit

/-- The hexadecimal digits' text. -/
def hexS : ByteArray := ⟨#[48, 49, 50, 51, 52, 53, 54, 55, 56, 57, 97, 98, 99, 100, 101, 102]⟩
theorem hexS_get (n : Nat) (h : n < 16) : hexS.data.toList.getD n 0 = hexd n := by
  match n, h with
  | 0, _ => rfl
  | 1, _ => rfl
  | 2, _ => rfl
  | 3, _ => rfl
  | 4, _ => rfl
  | 5, _ => rfl
  | 6, _ => rfl
  | 7, _ => rfl
  | 8, _ => rfl
  | 9, _ => rfl
  | 10, _ => rfl
  | 11, _ => rfl
  | 12, _ => rfl
  | 13, _ => rfl
  | 14, _ => rfl
  | 15, _ => rfl
  | n + 16, h => omega

theorem charW_broken (s : ByteArray) (p : Nat) (h : charK s p = 8) : charW s p = 1 := by
  unfold charK at h; unfold charW
  split at h
  · rename_i hh; exact hh.2
  · have := kindI_range ((Utf8.decode s p).1 : Int); omega
theorem showItem_esc (s : ByteArray) (p : Nat) (h : charK s p ≠ 1) : showItem s p = (bytesAt s p).flatMap escB := by
  unfold showItem
  have hq : ¬ (charR s p = 34 ∨ charR s p = 92) := by
    rintro (e | e)
    · exact h ((charR_ascii s p _ (by omega) e).2.2)
    · exact h ((charR_ascii s p _ (by omega) e).2.2)
  rw [if_neg hq, if_neg h]
theorem getD_some {l : List UInt8} {j : Nat} {c : UInt8} (h : j < l.length) (e : l.getD j 0 = c) : l[j]? = some c := by
  rw [List.getElem?_eq_getElem h, ← e]; simp [h]
theorem hexB (n : Nat) (h : n < 16) (h' : n < (⟨#[48, 49, 50, 51, 52, 53, 54, 55, 56, 57, 97, 98, 99, 100, 101, 102]⟩ : ByteArray).size) :
    ((⟨#[48, 49, 50, 51, 52, 53, 54, 55, 56, 57, 97, 98, 99, 100, 101, 102]⟩ : ByteArray)[n]'h') = hexd n := by
  rw [← hexS_get n h]
  have e : n < hexS.data.toList.length := h
  rw [List.getD_eq_getElem?_getD, List.getElem?_eq_getElem e]; rfl
theorem cells_esc (cur : List UInt8) (c : UInt8) : Lib.byteCells (cur ++ escB c) = Lib.byteCells cur ++ Lib.strCells ⟨#[92, 120]⟩ ++ [.int .u8 ((hexd (c.toNat / 16)).toNat : Int)] ++ [.int .u8 ((hexd (c.toNat % 16)).toNat : Int)] := by
  simp [Lib.byteCells, Lib.strCells, escB]
theorem charR_plain (s : ByteArray) (p : Nat) (hk : charK s p ≠ 8) : charR s p = ((Utf8.decode s p).1 : Int) := by
  have hv : ¬ ((Utf8.decode s p).1 = 65533 ∧ (Utf8.decode s p).2 = 1) := fun hh => hk (by unfold charK; rw [if_pos hh])
  unfold charR; rw [if_neg hv]
theorem showItem_mark (s : ByteArray) (p : Nat) (hp : p < s.size) (hw : charW s p = 1) (h : charR s p = 34 ∨ charR s p = 92) : showItem s p = [92] ++ bytesAt s p := by
  unfold showItem bytesAt; rw [if_pos h, hw]
  have e : (s.data.toList.drop p).take 1 = [s.get! p] := by
    rw [List.take_one, List.head?_drop, get_eq s p hp]
    have h' : p < s.data.toList.length := by simpa using hp
    rw [List.getElem?_eq_getElem h']; rfl
  rw [e]; rfl
theorem showItem_plain (s : ByteArray) (p : Nat) (hk : charK s p = 1) (h : ¬ (charR s p = 34 ∨ charR s p = 92)) : showItem s p = bytesAt s p := by
  unfold showItem; rw [if_neg h, if_pos hk]
theorem builder_kept {T e : TypeId} {B b : Nat} {bs : List Value} {w w' : World} (h : Lib.IsBuilderF T e B b bs w) (hg : w.grownBy w' none) : Lib.IsBuilderF T e B b bs w' := by
  have one : ∀ p, Lib.BuilderAtF T e B b p bs w → Lib.BuilderAtF T e B b p bs w' := by
    intro p h
    have hlt := h.lt
    obtain ⟨hB, v, hb, hown, hne⟩ := h
    exact ⟨hB, v, (hg.block b hlt (by simp)).trans hb, hown.kept hg (by cases hv : v.ownBlock <;> simp), hne⟩
  exact h.elim (fun x => .inl (one _ x)) (fun x => .inr (one _ x))

/-- '[]byte(text)': a new row, marked behind its end. -/
theorem conv_text (s : ByteArray) (n : Nat) (hn : s.size = n) (w : World) : ∃ (q cap : Nat) (W : World) (C : Array Value), (convert 9 43 (.string s)).run Tryd.prog w = .ok (.slice (some ⟨q, 0, none⟩) n cap) W ∧ w.grownBy W none ∧ w.heap.size ≤ q ∧ q < W.heap.size
    ∧ W.heap[q]? = some (.cells C 5 (C.size, C.size + 1)) ∧ ∀ j, j < n → C[j]? = some (.int .u8 ((s.data.toList.getD j 0).toNat : Int)) := by
  subst hn
  refine ⟨w.heap.size, _, Lib.bytesWorld w 5 s, Lib.bytesCells w 5 s, Lib.run_convert_string_bytes w 9 43 5 s Tryd.underlying9 Tryd.underlying43 Tryd.underlying5, ?_, Nat.le_refl _, ?_, Lib.bytesWorld_at_new w 5 s, ?_⟩
  · exact ⟨rfl, rfl, rfl, by rw [Lib.bytesWorld_size]; omega, fun k hk _ => Lib.bytesWorld_at_old w 5 s k hk⟩
  · rw [Lib.bytesWorld_size]; omega
  · intro j hj
    have h := Lib.bytesWorld_cell w 5 s j hj
    rw [Lib.cell_of_heap (Lib.bytesWorld_at_new w 5 s)] at h
    exact h

/-- the digits of a byte, as the walk writes the index -/
theorem hex_hi (c : Nat) (hc : c < 256) : hexS.data.toList.getD (c / 16) 0 = hexd (c / 16) := hexS_get _ (by omega)
theorem hex_lo (c : Nat) (_hc : c < 256) : hexS.data.toList.getD (c % 16) 0 = hexd (c % 16) := hexS_get _ (by omega)

set_option maxRecDepth 100000 in
set_option maxHeartbeats 8000000 in
theorem show_any (s : ByteArray) (hs : s.size ≤ 67108864) (w : World) :
    Calls Tryd.prog 13 #[.string s] w fun e w' => e = .returned (.string ⟨(showL s).toArray⟩) ∧ Below w.heap.size w w' := by
  go_enter Tryd.func13, Tryd.ntmps13
  go_wp2_with (go_at_call 23; refine (writeByte_k w.heap.size w.heap.size [] 34 _ (Lib.IsBuilderF.of (Lib.fresh_isBuilder 50 5 w)) (by simp) (by simp)).mono ?_)
  rintro e w1 ⟨rfl, h1, b1, k1, y1⟩
  have b1' : Below w.heap.size w w1 := ((Below.refl _ w).alloc (Nat.le_refl _) _).trans b1
  have hz1 : w.heap.size < w1.heap.size := Lib.BuilderAtF.lt h1
  have HI1 := Lib.hid h1; have HB1 := Lib.hid b1'
  clear h1 b1 k1 y1 b1'
  go_wp2
  generalize hkk : w1.heap.size = kk at *
  have HKK := Lib.hid hkk; clear hkk
  go_loopw [] (fun wr => ∃ (p f : Nat) (acc : List UInt8), Lib.IsBuilderF 50 5 w.heap.size w.heap.size (Lib.byteCells acc) wr ∧ wr.heap[kk]? = some (.stringIter s p) ∧ Below w.heap.size w wr ∧ acc ++ showF s f p = [34] ++ showF s s.size 0 ∧ s.size ≤ p + f ∧ acc.length ≤ 1 + 4 * p ∧ p ≤ s.size) (fun wr => s.size - wr.iterPos kk)
  case atStart =>
    refine ⟨0, s.size, [34], Lib.IsBuilderF.alloc (Or.inr HI1.out) _, ?_, (HB1.out).alloc (by rw [HKK.out]; omega) _, rfl, by omega, by simp, by omega⟩
    rw [← HKK.out]; exact World.iter_heap w1 s 0
  case round =>
    obtain ⟨p, f, acc, hI, hit, hbw, hF, hfu, hal, hps⟩ := hrel
    have HF := Lib.hid hF; clear hF
    have hszk : kk < wr.heap.size := (Array.getElem?_eq_some_iff.1 hit).1
    have hkw : w.heap.size < kk := by omega
    by_cases hp : p < s.size
    · have hnx : ∀ ty, (Instr.next (.pointer (some ⟨kk, 0, none⟩)) true ty).run Tryd.prog wr = _ := fun ty => Lib.run_next_any_at wr kk s p ty hit hp
      have hw1 := charW_pos s p
      have hw2 := charW_le s p hp
      have hw4 := charW_le4 s p
      have hd1 := decode_le s p
      have hI2 := hI.iterAt hit (p + (Utf8.decode s p).2)
      have hit2 := Lib.iterAt_heap wr kk s p (p + (Utf8.decode s p).2) hit
      have hbw2 := Lib.below_iterAt hbw (k := kk) (by omega) s (p + (Utf8.decode s p).2)
      have hsz2 : w.heap.size ≤ (wr.iterAt kk s (p + (Utf8.decode s p).2)).heap.size := by rw [Lib.iterAt_size]; omega
      have HIT := Lib.hid hit; have HIT2 := Lib.hid hit2; have HB2 := Lib.hid hbw2; have HI2 := Lib.hid hI2; have HS2 := Lib.hid hsz2
      clear hit hit2 hbw hbw2 hI hI2 hsz2
      obtain ⟨g, rfl⟩ : ∃ g, f = g + 1 := ⟨f - 1, by omega⟩
      have HG := Lib.hid (showF_go s g p hp)
      have HL := showItem_length s p hp
      by_cases hk1 : charK s p = 1
      · have hkb : (charK s p == 1) = true := by simp [hk1]
        have hk8 : charK s p ≠ 8 := by omega
        have HR := Lib.hid (charR_plain s p hk8)
        have HEN := Lib.hid (encode_at s p hp hk8)
        have HRL := Lib.hid (runeLen_char s p hk8)
        have HK1 := Lib.hid hk1
        clear hk1 hk8
        by_cases hq : (Utf8.decode s p).1 = 34 ∨ (Utf8.decode s p).1 = 92
        · have hW : charW s p = 1 := by
            rcases hq with h | h
            · exact (charR_ascii s p 34 (by omega) (by rw [HR.out, h]; rfl)).1
            · exact (charR_ascii s p 92 (by omega) (by rw [HR.out, h]; rfl)).1
          have HSI : Hid (showItem s p = [92] ++ bytesAt s p) := Lib.hid (showItem_mark s p hp hW (by rw [HR.out]; omega))
          have HW := Lib.hid hW; clear hW
          have hrr : (Utf8.decode s p).1 ≤ 92 := by omega
          rcases hq with hq | hq
          · have hqb : (((Utf8.decode s p).1 : Int) == 34) = true := by simp [hq]
            clear hq
            go_wp2_with fail
            refine (Tryd.utf8_RuneLen _ _).mono ?_
            rintro e w' ⟨rfl, rfl⟩
            go_wp2_with fail
            refine (of_any s p hp (by omega) _).mono ?_
            rintro e w' ⟨rfl, rfl⟩
            go_wp2_with fail
            refine (writeByte_k w.heap.size w.heap.size _ 92 _ HI2.out (by rw [Lib.byteCells_length]; omega) HS2.out).mono ?_
            rintro e w3 ⟨rfl, g1, g2, g3, g4⟩
            have G1 := Lib.hid g1; have G2 := Lib.hid g2; have G3 := Lib.hid g3; clear g1 g2 g3 g4
            go_wp2_with fail
            refine (writeRune_k w.heap.size w.heap.size _ _ (by omega) (by omega) _ (Or.inr G1.out) (by simp [Lib.byteCells_length]; omega) (by have h1 := HS2.out; have h2 := G2.out.size; omega)).mono ?_
            rintro e w4 ⟨rfl, g1, g2, g3, g4⟩
            have K1 := Lib.hid g1; have K2 := Lib.hid g2; have K3 := Lib.hid g3; clear g1 g2 g3 g4
            go_wp2_with fail
            go_roundw
            case rel =>
              refine ⟨p + charW s p, g, acc ++ showItem s p, ?_, K3.out.iter (G3.out.iter HIT2.out (by omega)) (by omega), (HB2.out.trans G2.out).trans K2.out, by rw [← HF.out, HG.out, List.append_assoc], by omega, by rw [List.length_append]; omega, by omega⟩
              rw [HSI.out, ← HEN.out, ← List.append_assoc, Lib.byteCells_append, Lib.byteCells_encodeRune, Lib.byteCells_append]; exact Or.inr K1.out
            case measure =>
              have e1 := K3.out.iter (G3.out.iter HIT2.out (by omega)) (by omega); have e0 := HIT.out
              simp only [World.iterPos, e1, e0]
              unfold charW at hw1; omega
          · have hqb : (((Utf8.decode s p).1 : Int) == 34) = false := by simp [hq]
            have hqc : (((Utf8.decode s p).1 : Int) == 92) = true := by simp [hq]
            clear hq
            go_wp2_with fail
            refine (Tryd.utf8_RuneLen _ _).mono ?_
            rintro e w' ⟨rfl, rfl⟩
            go_wp2_with fail
            refine (of_any s p hp (by omega) _).mono ?_
            rintro e w' ⟨rfl, rfl⟩
            go_wp2_with fail
            refine (writeByte_k w.heap.size w.heap.size _ 92 _ HI2.out (by rw [Lib.byteCells_length]; omega) HS2.out).mono ?_
            rintro e w3 ⟨rfl, g1, g2, g3, g4⟩
            have G1 := Lib.hid g1; have G2 := Lib.hid g2; have G3 := Lib.hid g3; clear g1 g2 g3 g4
            go_wp2_with fail
            refine (writeRune_k w.heap.size w.heap.size _ _ (by omega) (by omega) _ (Or.inr G1.out) (by simp [Lib.byteCells_length]; omega) (by have h1 := HS2.out; have h2 := G2.out.size; omega)).mono ?_
            rintro e w4 ⟨rfl, g1, g2, g3, g4⟩
            have K1 := Lib.hid g1; have K2 := Lib.hid g2; have K3 := Lib.hid g3; clear g1 g2 g3 g4
            go_wp2_with fail
            go_roundw
            case rel =>
              refine ⟨p + charW s p, g, acc ++ showItem s p, ?_, K3.out.iter (G3.out.iter HIT2.out (by omega)) (by omega), (HB2.out.trans G2.out).trans K2.out, by rw [← HF.out, HG.out, List.append_assoc], by omega, by rw [List.length_append]; omega, by omega⟩
              rw [HSI.out, ← HEN.out, ← List.append_assoc, Lib.byteCells_append, Lib.byteCells_encodeRune, Lib.byteCells_append]; exact Or.inr K1.out
            case measure =>
              have e1 := K3.out.iter (G3.out.iter HIT2.out (by omega)) (by omega); have e0 := HIT.out
              simp only [World.iterPos, e1, e0]
              unfold charW at hw1; omega
        · have hqb : (((Utf8.decode s p).1 : Int) == 34) = false := by simp; omega
          have hqc : (((Utf8.decode s p).1 : Int) == 92) = false := by simp; omega
          have HSI : Hid (showItem s p = bytesAt s p) := Lib.hid (showItem_plain s p HK1.out (by rw [HR.out]; omega))
          clear hq
          go_wp2_with fail
          refine (Tryd.utf8_RuneLen _ _).mono ?_
          rintro e w' ⟨rfl, rfl⟩
          go_wp2_with fail
          refine (of_any s p hp (by omega) _).mono ?_
          rintro e w' ⟨rfl, rfl⟩
          go_wp2_with fail
          refine (writeRune_k w.heap.size w.heap.size _ _ (by omega) (by omega) _ HI2.out (by rw [Lib.byteCells_length]; omega) HS2.out).mono ?_
          rintro e w3 ⟨rfl, g1, g2, g3, g4⟩
          have G1 := Lib.hid g1; have G2 := Lib.hid g2; have G3 := Lib.hid g3; clear g1 g2 g3 g4
          go_wp2_with fail
          go_roundw
          case rel =>
            refine ⟨p + charW s p, g, acc ++ showItem s p, ?_, G3.out.iter HIT2.out (by omega), HB2.out.trans G2.out, by rw [← HF.out, HG.out, List.append_assoc], by omega, by rw [List.length_append]; omega, by omega⟩
            rw [HSI.out, ← HEN.out, Lib.byteCells_append, Lib.byteCells_encodeRune]; exact Or.inr G1.out
          case measure =>
            have e1 := G3.out.iter HIT2.out (by omega); have e0 := HIT.out
            simp only [World.iterPos, e1, e0]
            unfold charW at hw1; omega
      · have hkb : (charK s p == 1) = false := by simp [hk1]
        by_cases hk8 : charK s p = 8
        · have hkc : (charK s p == 8) = true := by simp [hk8]
          have HW := Lib.hid (charW_broken s p hk8)
          clear hk8
          have HK1 := Lib.hid hk1; clear hk1
          go_wp2_with fail
          refine (Tryd.utf8_RuneLen _ _).mono ?_
          rintro e w' ⟨rfl, rfl⟩
          go_wp2_with fail
          refine (of_any s p hp (by omega) _).mono ?_
          rintro e w' ⟨rfl, rfl⟩
          go_wp2_with fail
          have hx := extract_char s p
          rw [HW.out] at hx
          have HX := Lib.hid hx; clear hx
          have HSI : Hid (showItem s p = (bytesAt s p).flatMap escB) := Lib.hid (showItem_esc s p HK1.out)
          obtain ⟨q, cap, W2, C, hrun, hgb, hq1, hq2, hCat, hC⟩ := conv_text (s.extract p (p + 1)) 1 (by rw [HX.out]; show (bytesAt s p).toArray.size = _; rw [List.size_toArray, bytesAt_length s p hp]; exact HW.out) (wr.iterAt kk s (p + (Utf8.decode s p).2))
          rw [hrun]
          have hI3 := Lib.hid (builder_kept HI2.out hgb)
          have hit3 := Lib.hid ((hgb.block kk (by rw [Lib.iterAt_size]; omega) (by simp)).trans HIT2.out)
          have hbw3 : Hid (Below w.heap.size w W2) := Lib.hid (HB2.out.trans ⟨hgb.os, hgb.tape, hgb.output, hgb.size, fun k hk => hgb.block k (Nat.lt_of_lt_of_le hk HS2.out) (by simp)⟩)
          have hCq : ∀ j, j < 1 → C[j]? = some (.int .u8 (((bytesAt s p).getD j 0).toNat : Int)) := by
            intro j hj; rw [hC j hj, HX.out]
          have HCQ := Lib.hid hCq
          have hqk : kk ≠ q := by rw [Lib.iterAt_size] at hq1; omega
          have hqw : w.heap.size ≤ q := by rw [Lib.iterAt_size] at hq1; omega
          have HCAT := Lib.hid hCat
          clear hrun hC hCq hgb hq1 hq2 hCat
          simp only [Result.andThen]
          rw [Oper.upon_value]
          go_wp2
          obtain ⟨wo, rfl⟩ : ∃ wo : World, wo = wr := ⟨_, rfl⟩
          go_loopw [53] (fun i wx => ∃ (j : Nat) (cur : List UInt8), i = .int .i64 ↑j ∧ j ≤ 1 ∧ cur = acc ++ ((bytesAt s p).take j).flatMap escB ∧ cur.length = acc.length + 4 * j ∧ Lib.IsBuilderF 50 5 w.heap.size w.heap.size (Lib.byteCells cur) wx ∧ wx.heap[kk]? = some (.stringIter s (p + (Utf8.decode s p).2)) ∧ wx.heap[q]? = some (.cells C 5 (C.size, C.size + 1)) ∧ Below w.heap.size w wx) (fun i _ => 1 - (intOf i).toNat)
          case atStart => exact ⟨0, acc, rfl, by omega, by simp, by simp, hI3.out, hit3.out, HCAT.out, hbw3.out⟩
          case round =>
            obtain ⟨j, cur, rfl, hj, hcur, hcl, hIj, hitj, hCj, hbj⟩ := hrel
            have HCUR := Lib.hid hcur
            have HCL := Lib.hid hcl
            have hcl1 : cur.length ≤ acc.length + 4 * j := by omega
            have hszj : q < wr.heap.size := (Array.getElem?_eq_some_iff.1 hCj).1
            have HIJ := Lib.hid hIj; have HITJ := Lib.hid hitj; have HBJ := Lib.hid hbj; have HCJ := Lib.hid hCj
            clear hcur hcl hIj hitj hbj hCj
            by_cases hjn : j < 1
            · have hcell : wr.cell? ⟨q, j, none⟩ = some (.int .u8 (((bytesAt s p).getD j 0).toNat : Int)) := by
                rw [Lib.cell_of_heap HCJ.out]; exact HCQ.out j hjn
              have hlt := UInt8.toNat_lt ((bytesAt s p).getD j 0)
              generalize hc : (bytesAt s p).getD j 0 = c at *
              have HCC := Lib.hid hc; clear hc
              go_wp2_with fail
              refine (writeString_k w.heap.size w.heap.size _ ⟨#[92, 120]⟩ _ HIJ.out (by rw [Lib.byteCells_length]; show _ + 2 ≤ _; omega) HBJ.out.size).mono ?_
              rintro e w3 ⟨rfl, g1, g2, g3, g4⟩
              have G1 := Lib.hid g1; have G2 := Lib.hid g2; have G3 := Lib.hid g3; have G4 := Lib.hid g4; clear g1 g2 g3 g4
              go_wp2_with fail
              refine (writeByte_k w.heap.size w.heap.size _ _ _ (Or.inr G1.out) (by have hz : (⟨#[92, 120]⟩ : ByteArray).size = 2 := rfl; simp [Lib.byteCells_length, Lib.strCells_length, hz]; omega) (by have h1 := HBJ.out.size; have h2 := G2.out.size; omega)).mono ?_
              rintro e w4 ⟨rfl, g1, g2, g3, g4⟩
              have K1 := Lib.hid g1; have K2 := Lib.hid g2; have K3 := Lib.hid g3; have K4 := Lib.hid g4; clear g1 g2 g3 g4
              go_wp2_with fail
              refine (writeByte_k w.heap.size w.heap.size _ _ _ (Or.inr K1.out) (by have hz : (⟨#[92, 120]⟩ : ByteArray).size = 2 := rfl; simp [Lib.byteCells_length, Lib.strCells_length, hz]; omega) (by have h1 := HBJ.out.size; have h2 := G2.out.size; have h3 := K2.out.size; omega)).mono ?_
              rintro e w5 ⟨rfl, g1, g2, g3, g4⟩
              have M1 := Lib.hid g1; have M2 := Lib.hid g2; have M3 := Lib.hid g3; have M4 := Lib.hid g4; clear g1 g2 g3 g4
              go_wp2_with fail
              go_roundw
              case rel =>
                refine ⟨j + 1, cur ++ escB c, by go_num, by omega, ?_, ?_, ?_, ?_, ?_, ?_⟩
                · rw [HCUR.out, List.take_add_one, show (bytesAt s p)[j]? = some c from getD_some (by rw [bytesAt_length s p hp, HW.out]; exact hjn) HCC.out]; simp
                · rw [List.length_append, HCL.out]; simp [escB]; omega
                · have hm := M1.out
                  rw [hexB _ (by omega), hexB _ (by omega)] at hm
                  rw [cells_esc]; exact Or.inr hm
                · exact M3.out.iter (K3.out.iter (G3.out.iter HITJ.out (by omega)) (by omega)) (by omega)
                · exact M4.out q C (K4.out q C (G4.out q C HCJ.out))
                · exact ((HBJ.out.trans G2.out).trans K2.out).trans M2.out
              case measure => simp [intOf]; omega
            · have hj1 : j = 1 := by omega
              have HJ1 := Lib.hid hj1; clear hj1
              go_wp2
              go_roundw
              case rel => exact ⟨p + charW s p, g, cur, HIJ.out, HITJ.out, HBJ.out, by rw [← HF.out, HG.out, HSI.out, HCUR.out, HJ1.out, List.take_of_length_le (by rw [bytesAt_length s p hp, HW.out]; omega), List.append_assoc], by omega, by omega, by omega⟩
              case measure =>
                have e1 := HITJ.out; have e0 := HIT.out
                simp only [World.iterPos, e1, e0]
                unfold charW at hw1; omega
        · have hkc : (charK s p == 8) = false := by simp [hk8]
          have HRL := Lib.hid (runeLen_char s p hk8)
          clear hk8
          have HK1 := Lib.hid hk1; clear hk1
          go_wp2_with fail
          refine (Tryd.utf8_RuneLen _ _).mono ?_
          rintro e w' ⟨rfl, rfl⟩
          rw [HRL.out]
          go_wp2_with fail
          refine (of_any s p hp (by omega) _).mono ?_
          rintro e w' ⟨rfl, rfl⟩
          go_wp2_with fail
          have HX := Lib.hid (extract_char s p)
          have HSI : Hid (showItem s p = (bytesAt s p).flatMap escB) := Lib.hid (showItem_esc s p HK1.out)
          obtain ⟨q, cap, W2, C, hrun, hgb, hq1, hq2, hCat, hC⟩ := conv_text (s.extract p (p + charW s p)) (charW s p) (by rw [HX.out]; show (bytesAt s p).toArray.size = _; rw [List.size_toArray, bytesAt_length s p hp]) (wr.iterAt kk s (p + (Utf8.decode s p).2))
          rw [hrun]
          have hI3 := Lib.hid (builder_kept HI2.out hgb)
          have hit3 := Lib.hid ((hgb.block kk (by rw [Lib.iterAt_size]; omega) (by simp)).trans HIT2.out)
          have hbw3 : Hid (Below w.heap.size w W2) := Lib.hid (HB2.out.trans ⟨hgb.os, hgb.tape, hgb.output, hgb.size, fun k hk => hgb.block k (Nat.lt_of_lt_of_le hk HS2.out) (by simp)⟩)
          have hCq : ∀ j, j < charW s p → C[j]? = some (.int .u8 (((bytesAt s p).getD j 0).toNat : Int)) := by
            intro j hj; rw [hC j hj, HX.out]
          have HCQ := Lib.hid hCq
          have hqk : kk ≠ q := by rw [Lib.iterAt_size] at hq1; omega
          have hqw : w.heap.size ≤ q := by rw [Lib.iterAt_size] at hq1; omega
          have HCAT := Lib.hid hCat
          clear hrun hC hCq hgb hq1 hq2 hCat
          simp only [Result.andThen]
          rw [Oper.upon_value]
          go_wp2
          obtain ⟨wo, rfl⟩ : ∃ wo : World, wo = wr := ⟨_, rfl⟩
          go_loopw [53] (fun i wx => ∃ (j : Nat) (cur : List UInt8), i = .int .i64 ↑j ∧ j ≤ charW s p ∧ cur = acc ++ ((bytesAt s p).take j).flatMap escB ∧ cur.length = acc.length + 4 * j ∧ Lib.IsBuilderF 50 5 w.heap.size w.heap.size (Lib.byteCells cur) wx ∧ wx.heap[kk]? = some (.stringIter s (p + (Utf8.decode s p).2)) ∧ wx.heap[q]? = some (.cells C 5 (C.size, C.size + 1)) ∧ Below w.heap.size w wx) (fun i _ => charW s p - (intOf i).toNat)
          case atStart => exact ⟨0, acc, rfl, by omega, by simp, by simp, hI3.out, hit3.out, HCAT.out, hbw3.out⟩
          case round =>
            obtain ⟨j, cur, rfl, hj, hcur, hcl, hIj, hitj, hCj, hbj⟩ := hrel
            have HCUR := Lib.hid hcur
            have HCL := Lib.hid hcl
            have hcl1 : cur.length ≤ acc.length + 4 * j := by omega
            have hszj : q < wr.heap.size := (Array.getElem?_eq_some_iff.1 hCj).1
            have HIJ := Lib.hid hIj; have HITJ := Lib.hid hitj; have HBJ := Lib.hid hbj; have HCJ := Lib.hid hCj
            clear hcur hcl hIj hitj hbj hCj
            by_cases hjn : j < charW s p
            · have hcell : wr.cell? ⟨q, j, none⟩ = some (.int .u8 (((bytesAt s p).getD j 0).toNat : Int)) := by
                rw [Lib.cell_of_heap HCJ.out]; exact HCQ.out j hjn
              have hlt := UInt8.toNat_lt ((bytesAt s p).getD j 0)
              generalize hc : (bytesAt s p).getD j 0 = c at *
              have HCC := Lib.hid hc; clear hc
              go_wp2_with fail
              refine (writeString_k w.heap.size w.heap.size _ ⟨#[92, 120]⟩ _ HIJ.out (by rw [Lib.byteCells_length]; show _ + 2 ≤ _; omega) HBJ.out.size).mono ?_
              rintro e w3 ⟨rfl, g1, g2, g3, g4⟩
              have G1 := Lib.hid g1; have G2 := Lib.hid g2; have G3 := Lib.hid g3; have G4 := Lib.hid g4; clear g1 g2 g3 g4
              go_wp2_with fail
              refine (writeByte_k w.heap.size w.heap.size _ _ _ (Or.inr G1.out) (by have hz : (⟨#[92, 120]⟩ : ByteArray).size = 2 := rfl; simp [Lib.byteCells_length, Lib.strCells_length, hz]; omega) (by have h1 := HBJ.out.size; have h2 := G2.out.size; omega)).mono ?_
              rintro e w4 ⟨rfl, g1, g2, g3, g4⟩
              have K1 := Lib.hid g1; have K2 := Lib.hid g2; have K3 := Lib.hid g3; have K4 := Lib.hid g4; clear g1 g2 g3 g4
              go_wp2_with fail
              refine (writeByte_k w.heap.size w.heap.size _ _ _ (Or.inr K1.out) (by have hz : (⟨#[92, 120]⟩ : ByteArray).size = 2 := rfl; simp [Lib.byteCells_length, Lib.strCells_length, hz]; omega) (by have h1 := HBJ.out.size; have h2 := G2.out.size; have h3 := K2.out.size; omega)).mono ?_
              rintro e w5 ⟨rfl, g1, g2, g3, g4⟩
              have M1 := Lib.hid g1; have M2 := Lib.hid g2; have M3 := Lib.hid g3; have M4 := Lib.hid g4; clear g1 g2 g3 g4
              go_wp2_with fail
              go_roundw
              case rel =>
                refine ⟨j + 1, cur ++ escB c, by go_num, by omega, ?_, ?_, ?_, ?_, ?_, ?_⟩
                · rw [HCUR.out, List.take_add_one, show (bytesAt s p)[j]? = some c from getD_some (by rw [bytesAt_length s p hp]; exact hjn) HCC.out]; simp
                · rw [List.length_append, HCL.out]; simp [escB]; omega
                · have hm := M1.out
                  rw [hexB _ (by omega), hexB _ (by omega)] at hm
                  rw [cells_esc]; exact Or.inr hm
                · exact M3.out.iter (K3.out.iter (G3.out.iter HITJ.out (by omega)) (by omega)) (by omega)
                · exact M4.out q C (K4.out q C (G4.out q C HCJ.out))
                · exact ((HBJ.out.trans G2.out).trans K2.out).trans M2.out
              case measure => simp [intOf]; omega
            · have hj1 : j = charW s p := by omega
              have HJ1 := Lib.hid hj1; clear hj1
              go_wp2
              go_roundw
              case rel => exact ⟨p + charW s p, g, cur, HIJ.out, HITJ.out, HBJ.out, by rw [← HF.out, HG.out, HSI.out, HCUR.out, HJ1.out, List.take_of_length_le (by rw [bytesAt_length s p hp]; omega), List.append_assoc], by omega, by omega, by omega⟩
              case measure =>
                have e1 := HITJ.out; have e0 := HIT.out
                simp only [World.iterPos, e1, e0]
                unfold charW at hw1; omega
    · have hnx : ∀ ty, (Instr.next (.pointer (some ⟨kk, 0, none⟩)) true ty).run Tryd.prog wr = _ := fun ty => Lib.run_next_end_at wr kk s p ty hit hp
      have HB := Lib.hid hbw; have HI := Lib.hid hI; clear hbw hI hit
      have HE := Lib.hid (showF_end s f p hp)
      go_wp2_with fail
      refine (writeByte_k w.heap.size w.heap.size _ 34 _ HI.out (by simp [Lib.byteCells_length]; omega) HB.out.size).mono ?_
      rintro e w3 ⟨rfl, g1, g2, g3, g4⟩
      have G1 := Lib.hid g1; have G2 := Lib.hid g2; clear g1 g2 g3 g4
      go_wp2_with fail
      refine (Tryd.Builder_String_any_k w.heap.size w.heap.size (acc ++ [34]) _ (by rw [Lib.byteCells_append]; exact Or.inr G1.out) (by have h1 := HB.out.size; have h2 := G2.out.size; omega)).mono ?_
      rintro e w4 ⟨rfl, _, g2, _⟩
      have K2 := Lib.hid g2; clear g2
      go_wp2
      go_ret
      exact ⟨ret_str (by unfold showL; rw [← HF.out, HE.out, List.append_nil]), (HB.out.trans G2.out).trans K2.out⟩
end Go.Proofs.YtenhdbjkpopfmaaDoor
