/- The walks of arborref01.value, item and Read. Condition: the text has at most 2^20 bytes. -/
import Derived.Test.YtenhdbjkpopfmaaDoorRRead
namespace Go.Proofs.YtenhdbjkpopfmaaDoor
open Go.RowKit

set_option maxHeartbeats 1000000 in
theorem value_any (c : UInt8) (w : World) :
    Calls Tryd.prog 32 #[.int .u8 (c.toNat : Int)] w fun e w' => e = .returned (.int .i64 (digV c)) ∧ w = w' := by
  have hlt := UInt8.toNat_lt c
  by_cases h1 : 48 ≤ c.toNat ∧ c.toNat ≤ 57
  · have hd : digV c = (c.toNat : Int) - 48 := by unfold digV; rw [if_pos h1]
    have HD := Lib.hid hd; clear hd
    obtain ⟨h2, h3⟩ := h1
    go_enter Tryd.func32, Tryd.ntmps32
    go_wp2
    go_ret
    exact ⟨ret_i64 HD.out.symm, rfl⟩
  · by_cases h4 : 97 ≤ c.toNat ∧ c.toNat ≤ 102
    · have hd : digV c = (c.toNat : Int) - 97 + 10 := by unfold digV; rw [if_neg h1, if_pos h4]; omega
      have HD := Lib.hid hd; clear hd
      obtain ⟨h2, h3⟩ := h4
      have h5 : 57 < c.toNat := by omega
      clear h1
      go_enter Tryd.func32, Tryd.ntmps32
      go_wp2
      go_ret
      exact ⟨ret_i64 HD.out.symm, rfl⟩
    · have hd : digV c = -1 := by unfold digV; rw [if_neg h1, if_neg h4]
      have HD := Lib.hid hd; clear hd
      go_enter Tryd.func32, Tryd.ntmps32
      go_wp2
      all_goals first
        | (exfalso; omega)
        | (go_ret; exact ⟨ret_i64 HD.out.symm, rfl⟩)

/-- what one item is -/
def Step (s : ByteArray) (i : Nat) (l : List UInt8) (n : Int) : Bool → Prop
  | false => 0 ≤ n ∧ ∀ f acc, itF s (f + 1) i acc = ([], n)
  | true => ∃ k : Nat, n = k ∧ i < k ∧ k ≤ s.size ∧ i + l.length ≤ k ∧ ∀ f acc, itF s (f + 1) i acc = itF s f k (acc ++ l)
def ItemPost (s : ByteArray) (i : Nat) (w : World) (e : Ending) (w' : World) : Prop :=
  ∃ l n b, e = .returned (.tuple #[.string ⟨List.toArray l⟩, .int .i64 n, .bool b]) ∧ Below w.heap.size w w' ∧ Step s i l n b
theorem ItemPost.no {s : ByteArray} {i : Nat} {w w' : World} {n : Int} (hn : 0 ≤ n) (h : ∀ f acc, itF s (f + 1) i acc = ([], n)) (hb : Below w.heap.size w w') : ItemPost s i w (.returned (.tuple #[.string ⟨#[]⟩, .int .i64 n, .bool false])) w' :=
  ⟨[], n, false, rfl, hb, hn, h⟩
theorem ItemPost.yes {s : ByteArray} {i : Nat} {w w' : World} {n : Int} {t : ByteArray} (l : List UInt8) (ht : t = ⟨l.toArray⟩) (k : Nat) (hn : n = k) (h1 : i < k) (h2 : k ≤ s.size) (h3 : i + l.length ≤ k) (h : ∀ f acc, itF s (f + 1) i acc = itF s f k (acc ++ l)) (hb : Below w.heap.size w w') :
    ItemPost s i w (.returned (.tuple #[.string t, .int .i64 n, .bool true])) w' := by
  subst ht; exact ⟨l, n, true, rfl, hb, k, hn, h1, h2, h3, h⟩

set_option maxRecDepth 100000 in
set_option maxHeartbeats 4000000 in
theorem item_any (s : ByteArray) (hs : s.size ≤ 1048576) (k : Nat) (hlt : k < s.size) (c34 : s.get! k ≠ 34) (w : World) :
    Calls Tryd.prog 21 #[.string s, .int .i64 k] w (ItemPost s k w) := by
  have hg := get_eq s k hlt
  have hb8 := UInt8.toNat_lt s[k]
  by_cases c92 : s.get! k = 92
  · have hq2 : ((s[k].toNat : Int) == 92) = true := byte_eq _ 92 (by rw [← hg, c92]; rfl)
    have hq3 : ((s[k].toNat : Int) != 92) = false := by simp only [bne, hq2]; rfl
    by_cases hk1 : k + 1 < s.size
    · have hg1 := get_eq s (k + 1) hk1
      have hb81 := UInt8.toNat_lt s[k + 1]
      have hne : ((k : Int) + 1 == (s.size : Int)) = false := by simp; omega
      by_cases d : s.get! (k + 1) = 34 ∨ s.get! (k + 1) = 92
      · have HQ := Lib.hid (fun f acc => itF_mark s f k acc hlt c92 hk1 d)
        rw [hg1] at d
        have HX := Lib.hid (extract_one s (k + 1) hk1)
        have HG1 := Lib.hid hg1
        clear c34 c92 hg hg1
        rcases d with d | d
        · have hd : ((s[k + 1].toNat : Int) == 34) = true := by rw [d]; rfl
          clear d
          go_enter Tryd.func21, Tryd.ntmps21
          go_wp2
          go_ret3
          exact ItemPost.yes [s.get! (k + 1)] HX.out (k + 2) (by omega) (by omega) (by omega) (by simp) HQ.out (Below.refl _ _)
        · have hd : ((s[k + 1].toNat : Int) == 34) = false := by rw [d]; rfl
          have hd2 : ((s[k + 1].toNat : Int) == 92) = true := by rw [d]; rfl
          clear d
          go_enter Tryd.func21, Tryd.ntmps21
          go_wp2
          go_ret3
          exact ItemPost.yes [s.get! (k + 1)] HX.out (k + 2) (by omega) (by omega) (by omega) (by simp) HQ.out (Below.refl _ _)
      · have hd : ((s[k + 1].toNat : Int) == 34) = false := byte_ne _ 34 (by rw [← hg1]; exact ne_nat (fun e => d (.inl e)) (by decide))
        have hd2 : ((s[k + 1].toNat : Int) == 92) = false := byte_ne _ 92 (by rw [← hg1]; exact ne_nat (fun e => d (.inr e)) (by decide))
        by_cases x : s.get! (k + 1) = 120
        · have hx : ((s[k + 1].toNat : Int) == 120) = true := byte_eq _ 120 (by rw [← hg1, x]; rfl)
          have HH := Lib.hid (fun f acc => itF_hex s f k acc hlt c92 (fun _ => x))
          clear c34 c92 hg hg1 d x
          by_cases h2 : k + 2 < s.size
          · have HG2 := Lib.hid (get_eq s (k + 2) h2)
            have hr2 := digV_range s[k + 2]
            by_cases n2 : digV s[k + 2] < 0
            · have HQ : Hid (∀ f acc, itF s (f + 1) k acc = ([], (k : Int) + 2)) := Lib.hid (fun f acc => by rw [HH.out, if_neg (by omega), HG2.out, if_pos n2])
              clear HH
              go_enter Tryd.func21, Tryd.ntmps21
              go_wp2
              refine wp_loop_rounds 1 ?_
              rw [rounds_succ]
              go_wp2_with fail
              refine (value_any s[k + 2] _).mono ?_
              rintro e w' ⟨rfl, rfl⟩
              go_wp2_with fail
              go_ret3
              exact ItemPost.no (by omega) (fun f acc => by rw [HQ.out]; congr 1; omega) (Below.refl _ _)
            · by_cases h3 : k + 3 < s.size
              · have HG3 := Lib.hid (get_eq s (k + 3) h3)
                have hr3 := digV_range s[k + 3]
                by_cases n3 : digV s[k + 3] < 0
                · have HQ : Hid (∀ f acc, itF s (f + 1) k acc = ([], (k : Int) + 3)) := Lib.hid (fun f acc => by rw [HH.out, if_neg (by omega), HG2.out, if_neg n2, if_neg (by omega), HG3.out, if_pos n3])
                  clear HH
                  go_enter Tryd.func21, Tryd.ntmps21
                  go_wp2
                  refine wp_loop_rounds 2 ?_
                  rw [rounds_succ]
                  go_wp2_with fail
                  refine (value_any s[k + 2] _).mono ?_
                  rintro e w' ⟨rfl, rfl⟩
                  go_wp2_with fail
                  refine (value_any s[k + 2] _).mono ?_
                  rintro e w' ⟨rfl, rfl⟩
                  go_wp2_with fail
                  rw [rounds_succ]
                  go_wp2_with fail
                  refine (value_any s[k + 3] _).mono ?_
                  rintro e w' ⟨rfl, rfl⟩
                  go_wp2_with fail
                  go_ret3
                  exact ItemPost.no (by omega) (fun f acc => by rw [HQ.out]; congr 1; omega) (Below.refl _ _)
                · have HQ : Hid (∀ f acc, itF s (f + 1) k acc = itF s f (k + 4) (acc ++ [(16 * digV s[k + 2] + digV s[k + 3]).toNat.toUInt8])) := Lib.hid (fun f acc => by rw [HH.out, if_neg (by omega), HG2.out, if_neg n2, if_neg (by omega), HG3.out, if_neg n3])
                  clear HH
                  go_enter Tryd.func21, Tryd.ntmps21
                  go_wp2
                  refine wp_loop_rounds 3 ?_
                  rw [rounds_succ]
                  go_wp2_with fail
                  refine (value_any s[k + 2] _).mono ?_
                  rintro e w' ⟨rfl, rfl⟩
                  go_wp2_with fail
                  refine (value_any s[k + 2] _).mono ?_
                  rintro e w' ⟨rfl, rfl⟩
                  go_wp2_with fail
                  rw [rounds_succ]
                  go_wp2_with fail
                  refine (value_any s[k + 3] _).mono ?_
                  rintro e w' ⟨rfl, rfl⟩
                  go_wp2_with fail
                  refine (value_any s[k + 3] _).mono ?_
                  rintro e w' ⟨rfl, rfl⟩
                  go_wp2_with fail
                  rw [rounds_succ]
                  go_wp2
                  rw [conv_one _ (16 * digV s[k + 2] + digV s[k + 3]) (by omega) (by omega) _ _ _ Tryd.underlying43 Tryd.underlying5 Tryd.underlying9]
                  simp only [Result.andThen]
                  rw [Oper.upon_value]
                  go_wp2
                  go_ret3
                  exact ItemPost.yes [(16 * digV s[k + 2] + digV s[k + 3]).toNat.toUInt8] rfl (k + 4) (by omega) (by omega) (by omega) (by simp) HQ.out ((Below.refl _ _).alloc (Nat.le_refl _) _)
              · have HQ : Hid (∀ f acc, itF s (f + 1) k acc = ([], (s.size : Int))) := Lib.hid (fun f acc => by rw [HH.out, if_neg (by omega), HG2.out, if_neg n2, if_pos (by omega)])
                clear HH
                go_enter Tryd.func21, Tryd.ntmps21
                go_wp2
                refine wp_loop_rounds 2 ?_
                rw [rounds_succ]
                go_wp2_with fail
                refine (value_any s[k + 2] _).mono ?_
                rintro e w' ⟨rfl, rfl⟩
                go_wp2_with fail
                refine (value_any s[k + 2] _).mono ?_
                rintro e w' ⟨rfl, rfl⟩
                go_wp2_with fail
                rw [rounds_succ]
                go_wp2_with fail
                go_ret3
                exact ItemPost.no (by omega) (fun f acc => by rw [HQ.out]; congr 1; omega) (Below.refl _ _)
          · have HQ : Hid (∀ f acc, itF s (f + 1) k acc = ([], (s.size : Int))) := Lib.hid (fun f acc => by rw [HH.out, if_pos (by omega)])
            clear HH
            go_enter Tryd.func21, Tryd.ntmps21
            go_wp2
            refine wp_loop_rounds 1 ?_
            rw [rounds_succ]
            go_wp2_with fail
            go_ret3
            exact ItemPost.no (by omega) (fun f acc => by rw [HQ.out]; congr 1; omega) (Below.refl _ _)
        · have hx : ((s[k + 1].toNat : Int) == 120) = false := byte_ne _ 120 (by rw [← hg1]; exact ne_nat x (by decide))
          have HQ : Hid (∀ f acc, itF s (f + 1) k acc = ([], (k : Int) + 1)) := Lib.hid (fun f acc => itF_bad s f k acc hlt c92 hk1 d x)
          clear c34 c92 hg hg1 d x
          go_enter Tryd.func21, Tryd.ntmps21
          go_wp2
          go_ret3
          exact ItemPost.no (by omega) HQ.out (Below.refl _ _)
    · have hne : ((k : Int) + 1 == (s.size : Int)) = true := by simp; omega
      have HQ : Hid (∀ f acc, itF s (f + 1) k acc = ([], (k : Int) + 1)) := Lib.hid (fun f acc => by rw [itF_hex s f k acc hlt c92 (fun h => absurd h hk1), if_pos (by omega)]; congr 1; omega)
      clear c34 c92 hg
      go_enter Tryd.func21, Tryd.ntmps21
      go_wp2
      go_ret3
      exact ItemPost.no (by omega) HQ.out (Below.refl _ _)
  · have hq2 : ((s[k].toNat : Int) == 92) = false := byte_ne _ 92 (by rw [← hg]; exact ne_nat c92 (by decide))
    have hq3 : ((s[k].toNat : Int) != 92) = true := by simp only [bne, hq2]; rfl
    have HC := Lib.hid (fun f acc => itF_char s f k acc hlt c34 c92)
    have hw1 := charW_pos s k
    have hw2 := charW_le s k hlt
    have hr := charR_range s k
    have HO := Lib.hid (ofI_charR s k)
    have HX := Lib.hid (extract_char s k)
    have HBL := Lib.hid (bytesAt_length s k hlt)
    clear c34 c92 hg
    by_cases hk1 : charK s k = 1
    · have hkb : (ofI (charR s k) == 1) = true := by rw [HO.out]; simp [hk1]
      have hkc : (ofI (charR s k) != 1) = false := by rw [HO.out]; simp [hk1]
      have HQ : Hid (∀ f acc, itF s (f + 1) k acc = itF s f (k + charW s k) (acc ++ bytesAt s k)) := Lib.hid (fun f acc => by rw [HC.out, if_pos hk1])
      clear hk1 HC
      go_enter Tryd.func21, Tryd.ntmps21
      go_wp2_with fail
      refine (char_any s k hlt (by omega) _).mono ?_
      rintro e w' ⟨rfl, rfl⟩
      go_wp2_with fail
      refine (refOf_any _ _).mono ?_
      rintro e w' ⟨rfl, rfl⟩
      go_wp2_with fail
      go_ret3
      exact ItemPost.yes (bytesAt s k) HX.out (k + charW s k) (by omega) (by omega) (by omega) (by rw [HBL.out]; omega) HQ.out (Below.refl _ _)
    · have hkb : (ofI (charR s k) == 1) = false := by rw [HO.out]; simp [hk1]
      have hkc : (ofI (charR s k) != 1) = true := by rw [HO.out]; simp [hk1]
      have HQ : Hid (∀ f acc, itF s (f + 1) k acc = ([], (k : Int))) := Lib.hid (fun f acc => by rw [HC.out, if_neg hk1])
      clear hk1 HC
      go_enter Tryd.func21, Tryd.ntmps21
      go_wp2_with fail
      refine (char_any s k hlt (by omega) _).mono ?_
      rintro e w' ⟨rfl, rfl⟩
      go_wp2_with fail
      refine (refOf_any _ _).mono ?_
      rintro e w' ⟨rfl, rfl⟩
      go_wp2_with fail
      go_ret3
      exact ItemPost.no (by omega) HQ.out (Below.refl _ _)

end Go.Proofs.YtenhdbjkpopfmaaDoor
