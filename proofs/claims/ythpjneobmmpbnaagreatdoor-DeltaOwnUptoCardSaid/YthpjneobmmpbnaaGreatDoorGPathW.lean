/- The walks of runes.First, runes.Units : each computes one plain function of the text, for every text of at most 2^47 bytes (the form's own reach). -/
import Derived.Test.YthpjneobmmpbnaaGreatDoorGRChar
import Derived.BigCall
import Derived.Lib.OthersKept
import Derived.Test.YthpjneobmmpbnaaGreatDoorGAclP
import Derived.Test.YthpjneobmmpbnaaGreatDoorGEnv
import Derived.Test.YthpjneobmmpbnaaGreatDoorGAclDec
import Derived.WalkMore
namespace Go.Proofs.YthpjneobmmpbnaaGreatDoor
open Go.RowKit

def firstF (s : ByteArray) : Nat → Nat → Int × Int
  | 0, _ => (-1, 1)
  | f + 1, p => if p < s.size then (if charK s p = 1 then firstF s f (p + charW s p) else ((p : Int), charK s p)) else (-1, 1)
def firstI (s : ByteArray) : Int × Int := firstF s s.size 0
theorem firstF_end (s : ByteArray) (f p : Nat) (h : ¬ p < s.size) : firstF s f p = (-1, 1) := by cases f <;> simp [firstF, h]
theorem firstF_go (s : ByteArray) (f p : Nat) (h : p < s.size) (hk : charK s p = 1) : firstF s (f + 1) p = firstF s f (p + charW s p) := by simp [firstF, h, hk]
theorem firstF_stop (s : ByteArray) (f p : Nat) (h : p < s.size) (hk : charK s p ≠ 1) : firstF s (f + 1) p = ((p : Int), charK s p) := by simp [firstF, h, hk]

def Ret2 (w : World) (a b : Int) (e : Ending) (w' : World) : Prop := e = .returned (.tuple #[.int .i64 a, .int .i64 b]) ∧ Below w.heap.size w w'
theorem Ret2.mk {w w' : World} {a b c d : Int} (h : Below w.heap.size w w') (e : c = a ∧ d = b) : Ret2 w a b (.returned (.tuple #[.int .i64 c, .int .i64 d])) w' := ⟨by rw [e.1, e.2], h⟩
set_option maxHeartbeats 4000000 in
theorem first_any (s : ByteArray) (hs : s.size ≤ 140737488355328) (w : World) :
    Calls Tryz.prog 180 #[.string s] w (Ret2 w (firstI s).1 (firstI s).2) := by
  go_enter Tryz.func180, Tryz.ntmps180
  go_wp2
  go_loopw [] (fun wr => ∃ (p f : Nat), wr.heap[w.heap.size]? = some (.stringIter s p) ∧ Below w.heap.size w wr ∧ firstF s f p = firstI s ∧ s.size ≤ p + f) (fun wr => s.size - wr.iterPos w.heap.size)
  case atStart => exact ⟨0, s.size, World.iter_heap w s 0, (Below.refl _ w).alloc (Nat.le_refl _) _, rfl, by omega⟩
  case round =>
    obtain ⟨p, f, hit, hbw, hF, hfu⟩ := hrel
    have HF := Lib.hid hF; clear hF
    by_cases hp : p < s.size
    · have hnx : ∀ ty, (Instr.next (.pointer (some ⟨w.heap.size, 0, none⟩)) true ty).run Tryz.prog wr = _ := fun ty => Lib.run_next_any_at wr w.heap.size s p ty hit hp
      have hd1 := decode_le s p
      have hit2 := Lib.iterAt_heap wr w.heap.size s p (p + (Utf8.decode s p).2) hit
      have hbw2 := Lib.below_iterAt hbw (k := w.heap.size) (by omega) s (p + (Utf8.decode s p).2)
      have HIT := Lib.hid hit; have HIT2 := Lib.hid hit2; have HB2 := Lib.hid hbw2; have HB := Lib.hid hbw
      clear hit hit2 hbw hbw2
      have hw1 := charW_pos s p
      obtain ⟨g, rfl⟩ : ∃ g, f = g + 1 := ⟨f - 1, by omega⟩
      by_cases hk : charK s p = 1
      · have HK := Lib.hid hk
        have hkb : (charK s p == 1) = true := by simp [hk]
        have hkc : (charK s p != 1) = false := by simp [hk]
        clear hk
        go_wp2_with (go_at_call 146; refine (of_any s p hp hs _).mono ?_; rintro e w' ⟨rfl, rfl⟩)
        go_roundw
        case rel => exact ⟨p + charW s p, g, HIT2.out, HB2.out, by rw [← HF.out, firstF_go s g p hp HK.out], by omega⟩
        case measure =>
          have e1 := HIT2.out; have e0 := HIT.out
          simp only [World.iterPos, e1, e0]
          unfold charW at hw1; omega
      · have HK := Lib.hid hk
        have hkb : (charK s p == 1) = false := by simp [hk]
        have hkc : (charK s p != 1) = true := by simp [hk]
        clear hk
        go_wp2_with (go_at_call 146; refine (of_any s p hp hs _).mono ?_; rintro e w' ⟨rfl, rfl⟩)
        go_ret2
        exact Ret2.mk HB2.out (by rw [← HF.out, firstF_stop s g p hp HK.out]; exact ⟨rfl, rfl⟩)
    · have hnx : ∀ ty, (Instr.next (.pointer (some ⟨w.heap.size, 0, none⟩)) true ty).run Tryz.prog wr = _ := fun ty => Lib.run_next_end_at wr w.heap.size s p ty hit hp
      have HB := Lib.hid hbw; clear hbw
      go_wp2
      go_ret2
      exact Ret2.mk HB.out (by rw [← HF.out, firstF_end s f p hp]; exact ⟨rfl, rfl⟩)

end Go.Proofs.YthpjneobmmpbnaaGreatDoor
namespace Go.Proofs.YthpjneobmmpbnaaGreatDoor

/-- the part that begins at a place: up to the next '/' or the end -/
def partN (s : ByteArray) (q : Nat) : Nat := untilN 47 (s.data.toList.drop q)
def partL (s : ByteArray) (q : Nat) : List UInt8 := (s.data.toList.drop q).take (partN s q)
def dotsAt (s : ByteArray) (q : Nat) : Bool := decide (partL s q = [46]) || decide (partL s q = [46, 46])
def voidAt (s : ByteArray) (p : Nat) : Bool := decide (0 < p) && decide (s.get! (p - 1) = 47)
/-- may a character stand where it stands? -/
def stepOk (s : ByteArray) (p : Nat) : Bool := decide (charK s p = 1) && (!decide (s.get! p = 47) || (!voidAt s p && !dotsAt s (p + 1)))
def fineF (s : ByteArray) : Nat → Nat → Bool
  | 0, _ => true
  | f + 1, p => if p < s.size then stepOk s p && fineF s f (p + charW s p) else true
def sSlash : ByteArray := ⟨#[47]⟩
/-- is a text a path? -/
def validP (s : ByteArray) : Bool := decide (s.size ≠ 0) && decide (s.size ≤ 4096) && decide (s.get! 0 = 47) && (decide (s.size = 1) || (!decide (s.get! (s.size - 1) = 47) && fineF s s.size 0))

theorem fineF_end (s : ByteArray) (f p : Nat) (h : ¬ p < s.size) : fineF s f p = true := by cases f <;> simp [fineF, h]
theorem fineF_step (s : ByteArray) (f p : Nat) (h : p < s.size) : fineF s (f + 1) p = (stepOk s p && fineF s f (p + charW s p)) := by simp [fineF, h]
theorem firstF_ge (s : ByteArray) : ∀ f p, (firstF s f p).1 = -1 ∨ (p : Int) ≤ (firstF s f p).1
  | 0, _ => .inl rfl
  | f + 1, p => by
    by_cases h : p < s.size
    · by_cases hk : charK s p = 1
      · rw [firstF_go s f p h hk]
        have := firstF_ge s f (p + charW s p)
        omega
      · rw [firstF_stop s f p h hk]; exact .inr (Int.le_refl _)
    · rw [firstF_end s (f + 1) p h]; exact .inl rfl
theorem bad_iff (s : ByteArray) (f p : Nat) (h : p < s.size) : (p : Int) = (firstF s (f + 1) p).1 ↔ charK s p ≠ 1 := by
  by_cases hk : charK s p = 1
  · rw [firstF_go s f p h hk]
    have h1 := firstF_ge s f (p + charW s p)
    have h2 := charW_pos s p
    constructor
    · intro e; omega
    · intro e; exact absurd hk e
  · rw [firstF_stop s f p h hk]
    exact ⟨fun _ => hk, fun _ => rfl⟩
theorem slash_dec (s : ByteArray) (p : Nat) (h : s.get! p = 47) : Utf8.decode s p = (47, 1) := by
  rw [Lib.decode_at, decodeN_low _ _ _ _ _ (by rw [h]; decide), h]; rfl
theorem slash_rune (s : ByteArray) (p : Nat) : (Utf8.decode s p).1 = 47 ↔ s.get! p = 47 := by
  constructor
  · intro h
    by_cases hb : (s.get! p).toNat < 128
    · rw [Lib.decode_at, decodeN_low _ _ _ _ _ hb] at h
      exact UInt8.toNat_inj.1 h
    · have := (decodeN_high (s.size - p) (s.get! p).toNat (s.get! (p + 1)).toNat (s.get! (p + 2)).toNat (s.get! (p + 3)).toNat hb).1
      rw [← Lib.decode_at] at this
      omega
  · intro h; rw [slash_dec s p h]
theorem slash_w (s : ByteArray) (p : Nat) (h : s.get! p = 47) : charW s p = 1 := by unfold charW; rw [slash_dec s p h]
theorem slash_k (s : ByteArray) (p : Nat) (h : s.get! p = 47) : charK s p = 1 := by unfold charK; rw [slash_dec s p h]; decide
/-- the byte ahead of the next character is a '/' just where this character is one -/
theorem slash_next (s : ByteArray) (p : Nat) : s.get! (p + charW s p - 1) = 47 ↔ s.get! p = 47 := by
  by_cases hb : (s.get! p).toNat < 128
  · have : charW s p = 1 := by unfold charW; rw [Lib.decode_at, decodeN_low _ _ _ _ _ hb]
    rw [this]; rfl
  · have h := decodeN_high (s.size - p) (s.get! p).toNat (s.get! (p + 1)).toNat (s.get! (p + 2)).toNat (s.get! (p + 3)).toNat hb
    rw [← Lib.decode_at] at h
    have h1 := charW_pos s p
    have h4 := charW_le4 s p
    change 128 ≤ (Utf8.decode s p).1 ∧ (1 < charW s p → _) ∧ (2 < charW s p → _) ∧ (3 < charW s p → _) ∧ _ at h
    have n47 : ∀ k, (s.get! k) = 47 → (s.get! k).toNat = 47 := fun k e => by rw [e]; rfl
    constructor
    · intro e
      exfalso
      have e' := n47 _ e
      rcases (show charW s p = 1 ∨ charW s p = 2 ∨ charW s p = 3 ∨ charW s p = 4 by omega) with q | q | q | q
      all_goals rw [q] at e' h
      · exact hb (by rw [show p + 1 - 1 = p from rfl] at e'; omega)
      · have := (h.2.1 (by omega)).1; rw [show p + 2 - 1 = p + 1 from rfl] at e'; omega
      · have := (h.2.2.1 (by omega)).1; rw [show p + 3 - 1 = p + 2 from rfl] at e'; omega
      · have := (h.2.2.2.1 (by omega)).1; rw [show p + 4 - 1 = p + 3 from rfl] at e'; omega
    · intro e; exact absurd (n47 _ e) (by omega)
theorem stepOk_no (s : ByteArray) (p : Nat) (h : s.get! p ≠ 47) : stepOk s p = decide (charK s p = 1) := by simp [stepOk, h]
theorem stepOk_slash (s : ByteArray) (p : Nat) (h : s.get! p = 47) : stepOk s p = (!voidAt s p && !dotsAt s (p + 1)) := by simp [stepOk, h, slash_k s p h]
end Go.Proofs.YthpjneobmmpbnaaGreatDoor
namespace Go.Proofs.YthpjneobmmpbnaaGreatDoor
open Go.RowKit
open Go.Lib hiding intOf
/-- what Check answers: whether there is no fault -/
def ChkPost (s : ByteArray) (w : World) (e : Ending) (w' : World) : Prop := (∃ f a : Int, e = .returned (.tuple #[.int .i64 f, .int .i64 a]) ∧ (f == 0) = validP s) ∧ Below w.heap.size w w'
theorem ChkPost.mk {s : ByteArray} {w w' : World} {f a : Int} (hb : Below w.heap.size w w') (h : (f == 0) = validP s) : ChkPost s w (.returned (.tuple #[.int .i64 f, .int .i64 a])) w' := ⟨⟨f, a, rfl, h⟩, hb⟩
theorem cut_part (s : ByteArray) (q : Nat) (m : Int) (W : World) (hs : s.size < 2147483648) (hm : W.cell? ⟨0, 0, none⟩ = some (.int .i64 m)) :
    Calls Tryz.prog 181 #[.string (s.extract q s.size), .string ⟨#[47]⟩] W fun e w' => (∃ b c, e = .returned (.tuple #[.string ⟨(partL s q).toArray⟩, .string b, .bool c])) ∧ ∃ k, w' = W.drewN k := by
  have hl : (s.extract q s.size).size ≤ s.size := by rw [ByteArray.size_extract]; omega
  refine (Tryz.strings_Cut (s.extract q s.size) ⟨#[47]⟩ m W (by omega) hm).mono ?_
  rintro e w' ⟨rfl, h⟩
  have e1 : (s.extract q s.size).data.toList = s.data.toList.drop q := Lib.extract_to_end s q
  have hc := cut_until 47 (s.data.toList.drop q)
  have h1 : (Lib.cut (s.extract q s.size).data.toList (⟨#[47]⟩ : ByteArray).data.toList).1 = partL s q := by
    rw [e1, show (⟨#[47]⟩ : ByteArray).data.toList = [47] from rfl]
    unfold partL partN
    rw [hc]
    split
    · rename_i hh; rw [hh, List.take_length]
    · rfl
  rw [h1]
  exact ⟨⟨_, _, rfl⟩, h⟩
theorem str_is2 (s : ByteArray) (l : List UInt8) : (s.toList == l) = decide (s = ⟨l.toArray⟩) := by
  have := beq_dec s ⟨l.toArray⟩
  rwa [show (⟨l.toArray⟩ : ByteArray).toList = l from by rw [Lib.toList_data]] at this
theorem empty_of (s : ByteArray) (h : s.size = 0) : s = ⟨#[]⟩ := by
  cases s with
  | mk d => congr 1; exact Array.eq_empty_of_size_eq_zero h
theorem get_zero (s : ByteArray) (i : Nat) (h : i < s.size) : s.get! i = s[i] := get_eq s i h
theorem one_byte (s : ByteArray) (h : s.size = 1) (h0 : s.get! 0 = 47) : s = sSlash := by
  obtain ⟨⟨l⟩⟩ := s
  match l, h with
  | [x], _ =>
    have : x = 47 := h0
    rw [this]; rfl
theorem slash_iff (s : ByteArray) : s = sSlash ↔ s.size = 1 ∧ s.get! 0 = 47 := ⟨fun e => by rw [e]; exact ⟨rfl, by decide⟩, fun h => one_byte s h.1 h.2⟩
theorem u8_eq (x : UInt8) : ((x.toNat : Int) == 47) = decide (x = 47) := by
  rw [Bool.eq_iff_iff, beq_iff_eq, decide_eq_true_eq, ← UInt8.toNat_inj]
  show (x.toNat : Int) = 47 ↔ x.toNat = 47
  omega
def ChkR (s : ByteArray) (w : World) (it : Nat) (bg : Value) (wr : World) : Prop := ∃ (p f : Nat) (b : Int), bg = .int .i64 b ∧ wr.heap[it]? = some (.stringIter s p) ∧ Below w.heap.size w wr ∧ firstF s f p = firstI s ∧ fineF s f p = fineF s s.size 0 ∧ s.size ≤ p + f ∧ 0 ≤ b ∧ b ≤ p ∧ (voidAt s p = (decide (0 < p) && decide (b = p)))
set_option maxHeartbeats 4000000 in
set_option maxRecDepth 100000 in
theorem check_loop (s : ByteArray) (hs : s.size < 2147483648) (w : World) (hE : Env w) (h1 : 1 < s.size) (h2 : s.size ≤ 4096) (h3 : s.get! 0 = 47) (h4 : s.get! (s.size - 1) ≠ 47) :
    Calls Tryz.prog 131 #[.string s] w (ChkPost s w) := by
  have HV := Lib.hid (show validP s = fineF s s.size 0 by
    unfold validP
    rw [decide_eq_true (show s.size ≠ 0 by omega), decide_eq_true h2, decide_eq_true h3, decide_eq_false (show ¬ s.size = 1 by omega), decide_eq_false h4]
    simp)
  have d0 : s.toList.isEmpty = false := nonempty s (by omega)
  have d1 : (s.toList == [47]) = false := by
    rw [str_is2]
    exact decide_eq_false fun e => by have := (slash_iff s).1 e; omega
  have d2 : ((s[0].toNat : Int) != 47) = false := by
    have := u8_eq s[0]
    rw [← get_zero s 0 (by omega), h3] at this
    rw [← get_zero s 0 (by omega), h3]; rfl
  have d3 : ((s[s.size - 1].toNat : Int) == 47) = false := by
    rw [u8_eq, ← get_zero s (s.size - 1) (by omega)]
    exact decide_eq_false h4
  have cF := fun W => first_any s (by omega) W
  have HE := Lib.hid hE
  clear hE h3 h4
  go_enter Tryz.func131, Tryz.ntmps131
  go_wp2
  go_step3
  go_wp2_with (go_at_call 180; refine (cF _).mono ?_; rintro e w1 ⟨rfl, hb1⟩)
  go_step3
  go_wp2
  have HB1 := Lib.hid hb1; clear hb1 d0 d1 d2 d3 cF
  go_loopw [6] (fun bg wr => ChkR s w w1.heap.size bg wr) (fun _ wr => s.size - wr.iterPos w1.heap.size)
  case atStart => exact ⟨0, s.size, 0, rfl, World.iter_heap w1 s 0, HB1.out.alloc HB1.out.size _, rfl, rfl, by omega, by omega, by omega, by simp [voidAt]⟩
  case round =>
    obtain ⟨p, f, b, rfl, hit, hbw, hF, hG, hfu, hb0, hbp, hv⟩ := hrel
    have HF := Lib.hid hF; have HG := Lib.hid hG; have HV2 := Lib.hid hv
    clear hF hG hv
    by_cases hp : p < s.size
    · have hnx : ∀ ty, (Instr.next (.pointer (some ⟨w1.heap.size, 0, none⟩)) true ty).run Tryz.prog wr = _ := fun ty => Lib.run_next_any_at wr w1.heap.size s p ty hit hp
      have hd1 := decode_le s p
      have hit2 := Lib.iterAt_heap wr w1.heap.size s p (p + (Utf8.decode s p).2) hit
      have hbw2 := Lib.below_iterAt hbw (k := w1.heap.size) HB1.out.size s (p + (Utf8.decode s p).2)
      have HIT := Lib.hid hit; have HIT2 := Lib.hid hit2; have HB2 := Lib.hid hbw2; have HB := Lib.hid hbw
      clear hit hit2 hbw hbw2
      have hw1 := charW_pos s p
      have hw2 := charW_le s p hp
      obtain ⟨g, rfl⟩ : ∃ g, f = g + 1 := ⟨f - 1, by omega⟩
      have hbad := bad_iff s g p hp
      rw [HF.out] at hbad
      generalize (firstI s).1 = bad at *
      by_cases hk : charK s p = 1
      · have t1 : ((p : Int) == bad) = false := beq_eq_false_iff_ne.2 fun e => (hbad.1 e) hk
        by_cases hsl : s.get! p = 47
        · have t2 : (((Utf8.decode s p).1 : Int) != 47) = false := by
            have := (slash_rune s p).2 hsl
            rw [this]; rfl
          have hst := stepOk_slash s p hsl
          have hfs := fineF_step s g p hp
          have hw1' := slash_w s p hsl
          have hkf := firstF_go s g p hp hk
          rw [hw1'] at hfs hkf
          have hv0 := HV2.out
          have hWn := Lib.hid (show voidAt s (p + 1) = true by
            unfold voidAt
            rw [decide_eq_true (show 0 < p + 1 by omega), show p + 1 - 1 = p from rfl, decide_eq_true hsl]; rfl)
          have hdw : Hid ((Utf8.decode s p).2 = 1) := Lib.hid hw1'
          cases hvo : voidAt s p with
          | true =>
            rw [hvo] at hst hv0
            have HN := Lib.hid (show validP s = false by rw [HV.out, ← HG.out, hfs, hst]; rfl)
            have hv1 := hv0.symm
            rw [Bool.and_eq_true, decide_eq_true_eq, decide_eq_true_eq] at hv1
            have t3 : 0 < p := hv1.1
            have t4 : (b == (p : Int)) = true := beq_iff_eq.2 hv1.2
            clear hbad hk hsl hst hfs hkf hv0 hvo hv1
            go_wp2_with fail
            rw [Exit.noGoto_ret]
            go_ret2
            exact ChkPost.mk HB2.out HN.out.symm
          | false =>
            rw [hvo] at hst hv0
            have hv1 := hv0.symm
            rw [Bool.and_eq_false_iff, decide_eq_false_iff_not, decide_eq_false_iff_not] at hv1
            have hE2 := HE.out.below (Nat.le_refl _) HB2.out
            obtain ⟨m, hm⟩ := hE2.maxl
            have cC := Lib.hid (cut_part s (p + 1) m _ hs hm)
            have HP := Lib.hid (show dotsAt s (p + 1) = (decide (partL s (p + 1) = [46]) || decide (partL s (p + 1) = [46, 46])) from rfl)
            generalize hpt : partL s (p + 1) = pt at *
            have q1 := str_is2 ⟨pt.toArray⟩ [46]
            have q2 := str_is2 ⟨pt.toArray⟩ [46, 46]
            have z1 : decide ((⟨pt.toArray⟩ : ByteArray) = ⟨[46].toArray⟩) = decide (pt = [46]) := by
              by_cases e : pt = [46]
              · rw [e]; simp
              · rw [decide_eq_false e]; exact decide_eq_false fun e2 => e (by injection e2 with e2; simpa using congrArg Array.toList e2)
            have z2 : decide ((⟨pt.toArray⟩ : ByteArray) = ⟨[46, 46].toArray⟩) = decide (pt = [46, 46]) := by
              by_cases e : pt = [46, 46]
              · rw [e]; simp
              · rw [decide_eq_false e]; exact decide_eq_false fun e2 => e (by injection e2 with e2; simpa using congrArg Array.toList e2)
            rw [z1] at q1
            rw [z2] at q2
            clear z1 z2 hpt hm hE2
            have HS := Lib.hid hst; have HFS := Lib.hid hfs; have HKF := Lib.hid hkf; have HV1 := Lib.hid hv1
            clear hbad hk hsl hst hfs hkf hv0 hvo hv1
            have hq0 : ¬ 0 < p ∨ (0 < p ∧ (b == (p : Int)) = false) := by
              by_cases h0 : 0 < p
              · right
                refine ⟨h0, beq_eq_false_iff_ne.2 fun e => ?_⟩
                rcases HV1.out with h | h
                · exact h h0
                · exact h e
              · exact .inl h0
            by_cases c1 : pt = [46] ∨ pt = [46, 46]
            · have HN := Lib.hid (show validP s = false by
                rw [HV.out, ← HG.out, HFS.out, HS.out, HP.out]
                rcases c1 with e | e
                · rw [decide_eq_true e]; rfl
                · rw [decide_eq_true e, Bool.or_true]; rfl)
              have hq1 : ((⟨pt.toArray⟩ : ByteArray).toList == [46]) = true ∨ (((⟨pt.toArray⟩ : ByteArray).toList == [46]) = false ∧ ((⟨pt.toArray⟩ : ByteArray).toList == [46, 46]) = true) := by
                rw [q1, q2]
                by_cases e : pt = [46]
                · exact .inl (decide_eq_true e)
                · exact .inr ⟨decide_eq_false e, decide_eq_true (c1.resolve_left e)⟩
              clear q1 q2 c1
              generalize (⟨pt.toArray⟩ : ByteArray) = ptb at *
              rcases hq0 with hq0 | ⟨hq0, hq2⟩ <;> rcases hq1 with hq1 | ⟨hq1, hq3⟩
              all_goals
                go_wp2_with (go_at_call 181; refine cC.out.mono ?_; rintro e w2 ⟨⟨b2, c2, rfl⟩, ⟨nq, rfl⟩⟩)
                rw [Exit.noGoto_ret]
                go_ret2
                exact ChkPost.mk (drewN_below HB2.out _) HN.out.symm
            · have HN := Lib.hid (show fineF s (g + 1) p = fineF s g (p + 1) by
                rw [HFS.out, HS.out, HP.out, decide_eq_false (fun e => c1 (.inl e)), decide_eq_false (fun e => c1 (.inr e))]; rfl)
              have hq1 : ((⟨pt.toArray⟩ : ByteArray).toList == [46]) = false := by rw [q1]; exact decide_eq_false fun e => c1 (.inl e)
              have hq3 : ((⟨pt.toArray⟩ : ByteArray).toList == [46, 46]) = false := by rw [q2]; exact decide_eq_false fun e => c1 (.inr e)
              clear q1 q2 c1
              generalize (⟨pt.toArray⟩ : ByteArray) = ptb at *
              rcases hq0 with hq0 | ⟨hq0, hq2⟩
              all_goals
                go_wp2_with (go_at_call 181; refine cC.out.mono ?_; rintro e w2 ⟨⟨b2, c2, rfl⟩, ⟨nq, rfl⟩⟩)
                go_roundw
                case rel => exact ⟨p + 1, g, ((p + 1 : Nat) : Int), by go_num, by exact HIT2.out.trans (by rw [hdw.out]), drewN_below HB2.out _, by rw [← HKF.out]; exact HF.out, by rw [← HN.out]; exact HG.out, by omega, by omega, by omega, by rw [hWn.out, decide_eq_true (show 0 < p + 1 by omega), decide_eq_true rfl]; rfl⟩
                case measure =>
                  have e1 := HIT2.out; have e0 := HIT.out
                  have e2 : ((wr.iterAt w1.heap.size s (p + (Utf8.decode s p).2)).drewN nq).heap[w1.heap.size]? = some (Obj.stringIter s (p + (Utf8.decode s p).2)) := e1
                  simp only [World.iterPos, e2, e0]
                  have := hdw.out; omega
        · have t2 : (((Utf8.decode s p).1 : Int) != 47) = true := by
            have : (Utf8.decode s p).1 ≠ 47 := fun e => hsl ((slash_rune s p).1 e)
            exact bne_iff_ne.2 (fun e => this (by omega))
          have HN := Lib.hid (show fineF s (g + 1) p = fineF s g (p + charW s p) by rw [fineF_step s g p hp, stepOk_no s p hsl, decide_eq_true hk]; rfl)
          have HK := Lib.hid (show firstF s (g + 1) p = firstF s g (p + charW s p) from firstF_go s g p hp hk)
          have HW := Lib.hid (show voidAt s (p + charW s p) = false by
            unfold voidAt
            rw [decide_eq_false (fun e => hsl ((slash_next s p).1 e)), Bool.and_false])
          clear hbad hk hsl
          go_wp2
          go_roundw
          case rel => exact ⟨p + charW s p, g, b, rfl, HIT2.out, HB2.out, by rw [← HK.out]; exact HF.out, by rw [← HN.out]; exact HG.out, by omega, hb0, by omega, by rw [HW.out]; symm; rw [Bool.and_eq_false_iff]; right; exact decide_eq_false (by omega)⟩
          case measure =>
            have e1 := HIT2.out; have e0 := HIT.out
            simp only [World.iterPos, e1, e0]
            unfold charW at hw1; omega
      · have t1 : ((p : Int) == bad) = true := beq_iff_eq.2 (hbad.2 hk)
        have HN := Lib.hid (show validP s = false by rw [HV.out, ← HG.out, fineF_step s g p hp]; unfold stepOk; rw [decide_eq_false hk]; rfl)
        clear hbad hk
        go_wp2
        rw [Exit.noGoto_ret]
        go_ret2
        exact ChkPost.mk HB2.out HN.out.symm
    · have hnx : ∀ ty, (Instr.next (.pointer (some ⟨w1.heap.size, 0, none⟩)) true ty).run Tryz.prog wr = _ := fun ty => Lib.run_next_end_at wr w1.heap.size s p ty hit hp
      have HB := Lib.hid hbw; clear hbw
      have HN := Lib.hid (show validP s = true by rw [HV.out, ← HG.out, fineF_end s f p hp])
      go_wp2
      rw [Exit.noGoto_ret]
      go_ret2
      exact ChkPost.mk HB.out HN.out.symm
set_option maxRecDepth 100000 in
theorem check_first (s : ByteArray) (hs : s.size < 2147483648) (w : World) (h : ¬ (1 < s.size ∧ s.size ≤ 4096 ∧ s.get! 0 = 47 ∧ s.get! (s.size - 1) ≠ 47)) :
    Calls Tryz.prog 131 #[.string s] w (ChkPost s w) := by
  by_cases h0 : s.size = 0
  · have HV := Lib.hid (show validP s = false by simp [validP, h0])
    have hd : s.toList.isEmpty = true := by rw [empty_of s h0, ByteArray.toList_eq]; rfl
    clear h h0
    go_enter Tryz.func131, Tryz.ntmps131
    go_wp2
    go_step3
    go_wp2
    rw [Exit.noGoto_ret]
    go_ret2
    exact ChkPost.mk (Below.refl _ _) HV.out.symm
  have d0 : s.toList.isEmpty = false := nonempty s h0
  by_cases h1 : 4096 < s.size
  · have HV := Lib.hid (show validP s = false by
      unfold validP
      rw [decide_eq_false (show ¬ s.size ≤ 4096 by omega)]; simp)
    clear h
    go_enter Tryz.func131, Tryz.ntmps131
    go_wp2
    go_step3
    go_wp2
    rw [Exit.noGoto_ret]
    go_ret2
    exact ChkPost.mk (Below.refl _ _) HV.out.symm
  by_cases h2 : s.get! 0 = 47
  · have d2 : ((s[0].toNat : Int) != 47) = false := by rw [← get_zero s 0 (by omega), h2]; rfl
    by_cases h3 : s.size = 1
    · have d1 : (s.toList == [47]) = true := by rw [str_is2]; exact decide_eq_true ((slash_iff s).2 ⟨h3, h2⟩)
      have HV := Lib.hid (show validP s = true by
        unfold validP
        rw [decide_eq_true (show s.size ≠ 0 by omega), decide_eq_true (show s.size ≤ 4096 by omega), decide_eq_true h2, decide_eq_true h3]; rfl)
      have hp : 0 < s.size := by omega
      clear h h2 h3
      go_enter Tryz.func131, Tryz.ntmps131
      go_wp2
      go_step3
      go_wp2
      rw [Exit.noGoto_ret]
      go_ret2
      exact ChkPost.mk (Below.refl _ _) HV.out.symm
    · have h4 : s.get! (s.size - 1) = 47 := Classical.byContradiction fun e => h ⟨by omega, by omega, h2, e⟩
      have d1 : (s.toList == [47]) = false := by rw [str_is2]; exact decide_eq_false fun e => h3 ((slash_iff s).1 e).1
      have d3 : ((s[s.size - 1].toNat : Int) == 47) = true := by rw [u8_eq, ← get_zero s (s.size - 1) (by omega)]; exact decide_eq_true h4
      have HV := Lib.hid (show validP s = false by
        unfold validP
        rw [decide_eq_false h3, decide_eq_true h4]; simp)
      have hp : 0 < s.size := by omega
      clear h h2 h4
      go_enter Tryz.func131, Tryz.ntmps131
      go_wp2
      go_step3
      go_wp2
      rw [Exit.noGoto_ret]
      go_ret2
      exact ChkPost.mk (Below.refl _ _) HV.out.symm
  · have d2 : ((s[0].toNat : Int) != 47) = true := by
      rw [← get_zero s 0 (by omega)]
      have := u8_eq (s.get! 0)
      rw [decide_eq_false h2] at this
      simp only [bne, this, Bool.not_false]
    have HV := Lib.hid (show validP s = false by
      unfold validP
      rw [decide_eq_false h2]; simp)
    have hp : 0 < s.size := by omega
    clear h h2
    go_enter Tryz.func131, Tryz.ntmps131
    go_wp2
    go_step3
    go_wp2
    rw [Exit.noGoto_ret]
    go_ret2
    exact ChkPost.mk (Below.refl _ _) HV.out.symm
theorem check_any (s : ByteArray) (hs : s.size < 2147483648) (w : World) (hE : Env w) : Calls Tryz.prog 131 #[.string s] w (ChkPost s w) := by
  by_cases h : 1 < s.size ∧ s.size ≤ 4096 ∧ s.get! 0 = 47 ∧ s.get! (s.size - 1) ≠ 47
  · exact check_loop s hs w hE h.1 h.2.1 h.2.2.1 h.2.2.2
  · exact check_first s hs w h
theorem valid_any (s : ByteArray) (hs : s.size < 2147483648) (w : World) (hE : Env w) : Calls Tryz.prog 71 #[.string s] w (RetB w (validP s)) := by
  have cC := check_any s hs w hE
  go_enter Tryz.func71, Tryz.ntmps71
  go_wp2_with (go_at_call 131; refine cC.mono ?_; rintro e w1 ⟨⟨f, a, rfl, hf⟩, hb⟩)
  go_ret
  exact RetB.mk hb rfl
theorem order_any (a b : ByteArray) (w : World) : Calls Tryz.prog 31 #[.string a, .string b] w fun e w' => e = .returned (.int .i64 (Lib.compareBytes a.data.toList b.data.toList)) ∧ w' = w := by
  have cC := Tryz.strings_Compare a b w
  go_enter Tryz.func31, Tryz.ntmps31
  go_wp2_with (go_at_call 73; refine cC.mono ?_; rintro e w1 ⟨rfl, rfl⟩)
  go_ret
  exact ⟨rfl, rfl⟩
end Go.Proofs.YthpjneobmmpbnaaGreatDoor
