/- The walks of arborref06.Address, Range. Condition: a text has at most 2^47 bytes. -/
import Derived.Test.YtibklpbnjpefnaaGreatDoorRefA4
namespace Go.Proofs.YtibklpbnjpefnaaGreatDoor
open Go.RowKit

def SameA (w : World) (o : Option Int) (e : Ending) (w' : World) : Prop := e = .returned (.tuple #[.int .u32 (o.getD 0), .bool o.isSome]) ∧ w = w'
theorem SameA.no {w : World} {o : Option Int} (e : o = none) : SameA w o (.returned (.tuple #[.int .u32 0, .bool false])) w := ⟨by rw [e]; rfl, rfl⟩
theorem SameA.yes {w : World} {o : Option Int} {a : Int} (e : o = some a) : SameA w o (.returned (.tuple #[.int .u32 a, .bool true])) w := ⟨by rw [e]; rfl, rfl⟩
theorem extract_list (s : ByteArray) (a b : Nat) : (s.extract a b).data.toList = (s.data.toList.drop a).take (b - a) := by
  simp [ByteArray.data_extract, Array.toList_extract, List.extract_eq_take_drop]
theorem or_st' (acc n : Int) (h0 : 0 ≤ acc) (h1 : acc < 16777216) (h2 : 0 ≤ n) (h3 : n ≤ 255) : bits .or .u32 (acc * 256) n = stA acc n := by
  rw [← or_st acc n h0 h1 h2 h3, Int.emod_eq_of_lt (by omega) (by omega)]
def AdrRel (s : ByteArray) (x f k : Value) : Prop := ∃ (j p : Nat) (acc : Int), x = .int .u32 acc ∧ f = .int .i64 ↑p ∧ k = .int .i64 ↑j ∧ j ≤ 4 ∧ 0 ≤ acc ∧ acc < 256 ^ j ∧
  ((j < 4 ∧ p ≤ s.size ∧ adr s = addrF stA (3 - j) acc (s.data.toList.drop p)) ∨ (j = 4 ∧ adr s = some acc))
theorem addrF_succ (st : Int → Int → Int) (k : Nat) (acc : Int) (l : List UInt8) : addrF st (k + 1) acc l = if decR (l.take (untilN 46 l)) 255 < 0 ∨ untilN 46 l = l.length then none else addrF st k (st acc (decR (l.take (untilN 46 l)) 255)) (l.drop (untilN 46 l + 1)) := rfl
theorem adr_last (s : ByteArray) (p : Nat) (acc : Int) : addrF stA 0 acc (s.data.toList.drop p) =
    if decR (s.extract p (cutAt s p 46)).data.toList 255 < 0 ∨ cutAt s p 46 - p ≠ s.size - p then none else some (stA acc (decR (s.extract p (cutAt s p 46)).data.toList 255)) := by
  rw [extract_list]; unfold cutAt addrF
  rw [Nat.add_sub_cancel_left, List.length_drop]
  simp
theorem adr_next (s : ByteArray) (p m : Nat) (acc : Int) : addrF stA (m + 1) acc (s.data.toList.drop p) =
    if decR (s.extract p (cutAt s p 46)).data.toList 255 < 0 ∨ cutAt s p 46 - p = s.size - p then none else addrF stA m (stA acc (decR (s.extract p (cutAt s p 46)).data.toList 255)) (s.data.toList.drop (cutAt s p 46 + 1)) := by
  rw [extract_list, addrF_succ]; unfold cutAt
  rw [Nat.add_sub_cancel_left, List.length_drop, List.drop_drop]
  simp [Nat.add_assoc]

set_option maxRecDepth 100000 in
set_option maxHeartbeats 4000000 in
theorem refAdr_any (s : ByteArray) (hs : s.size ≤ 140737488355327) (w : World) :
    Calls Tryz.prog 120 #[.string s] w (SameA w (adr s)) := by
  have hA : adr s = addrF stA 3 0 (s.data.toList.drop 0) := by rw [List.drop_zero]; exact addr_eq stA _
  have HA := Lib.hid hA; clear hA
  go_enter Tryz.func120, Tryz.ntmps120
  go_wp2
  go_loop [4, 5, 6] (AdrRel s) (fun _ _ k => 4 - (intOf k).toNat)
  case atStart => exact ⟨0, 0, 0, rfl, rfl, rfl, by omega, by omega, by decide, .inl ⟨by omega, by omega, HA.out⟩⟩
  case round =>
    obtain ⟨j, p, acc, rfl, rfl, rfl, hj, ha0, ha1, hF⟩ := hrel
    by_cases hlt : j < 4
    · obtain ⟨hp, hF⟩ : p ≤ s.size ∧ adr s = addrF stA (3 - j) acc (s.data.toList.drop p) := by
        rcases hF with h | h
        · exact h.2
        · omega
      have HF := Lib.hid hF; clear hF
      have hpw := pow_le3 j hlt
      have hq := cutAt_le s p 46 hp
      have cC := fun W => cut_any s (by omega) p hp 46 W
      rw [show (((46 : UInt8).toNat : Nat) : Int) = 46 from rfl] at cC
      have hxs : (s.extract p (cutAt s p 46)).size ≤ 140737488355328 := by rw [ByteArray.size_extract]; omega
      have cD := fun W => refDec_any (s.extract p (cutAt s p 46)) hxs 255 W
      have hr := decR_range (s.extract p (cutAt s p 46)).data.toList 255 (by omega)
      have HL := Lib.hid (adr_last s p acc)
      have HN := Lib.hid (fun m => adr_next s p m acc)
      clear hxs
      generalize cutAt s p 46 = q at *
      obtain ⟨q1, q2⟩ := hq
      generalize hx : s.extract p q = x at *
      have HX := Lib.hid hx; clear hx
      generalize decR x.data.toList 255 = n at *
      by_cases hn : n < 0
      · have HZ : Hid (adr s = none) := Lib.hid (by
          rw [HF.out]
          by_cases h3 : j = 3
          · subst h3; rw [HL.out, if_pos (.inl hn)]
          · rw [show 3 - j = (2 - j) + 1 by omega, HN.out, if_pos (.inl hn)])
        go_wp2_with fail
        refine (cC _).mono ?_
        rintro e w1 ⟨rfl, rfl⟩
        go_wp2_with fail
        rw [HX.out]
        refine (cD _).mono ?_
        rintro e w1 ⟨rfl, rfl⟩
        go_wp2
        go_ret2
        exact SameA.no HZ.out
      · have hn0 : 0 ≤ n := by omega
        obtain ⟨_, hn9⟩ := hr
        clear hn
        by_cases h3 : j = 3
        · subst h3
          by_cases hqs : q = s.size
          · have HZ : Hid (adr s = some (stA acc n)) := Lib.hid (by rw [HF.out, HL.out, if_neg (by rintro (h | h); omega; omega)])
            have hd : ((q : Int) == (s.size : Int)) = true := by simp; omega
            clear hqs hF HN
            go_wp2_with fail
            refine (cC _).mono ?_
            rintro e w1 ⟨rfl, rfl⟩
            go_wp2_with fail
            rw [HX.out]
            refine (cD _).mono ?_
            rintro e w1 ⟨rfl, rfl⟩
            go_wp2
            exact ⟨⟨4, q + 1, stA acc n, by rw [or_st' acc n ha0 (by omega) hn0 hn9], by go_num, rfl, by omega, by unfold stA; omega, by unfold stA; rw [Int.pow_succ]; omega, .inr ⟨rfl, HZ.out⟩⟩, by simp [intOf]⟩
          · have HZ : Hid (adr s = none) := Lib.hid (by rw [HF.out, HL.out, if_pos (.inr (by omega))])
            have hd : ((q : Int) == (s.size : Int)) = false := by simp; omega
            clear hqs hF HN
            go_wp2_with fail
            refine (cC _).mono ?_
            rintro e w1 ⟨rfl, rfl⟩
            go_wp2_with fail
            rw [HX.out]
            refine (cD _).mono ?_
            rintro e w1 ⟨rfl, rfl⟩
            go_wp2
            go_ret2
            exact SameA.no HZ.out
        · have hj3 : ((j : Int) == 3) = false := by simp; omega
          by_cases hqs : q = s.size
          · have HZ : Hid (adr s = none) := Lib.hid (by rw [HF.out, show 3 - j = (2 - j) + 1 by omega, HN.out, if_pos (.inr (by omega))])
            have hd : ((q : Int) == (s.size : Int)) = true := by simp; omega
            clear hqs HN h3
            go_wp2_with fail
            refine (cC _).mono ?_
            rintro e w1 ⟨rfl, rfl⟩
            go_wp2_with fail
            rw [HX.out]
            refine (cD _).mono ?_
            rintro e w1 ⟨rfl, rfl⟩
            go_wp2
            go_ret2
            exact SameA.no HZ.out
          · have HZ : Hid (adr s = addrF stA (3 - (j + 1)) (stA acc n) (s.data.toList.drop (q + 1))) := Lib.hid (by rw [HF.out, show 3 - j = (2 - j) + 1 by omega, HN.out, if_neg (by rintro (h | h); omega; omega)]; congr 1; omega)
            have hd : ((q : Int) == (s.size : Int)) = false := by simp; omega
            have hql : q + 1 ≤ s.size := by omega
            have hj4 : j + 1 < 4 := by omega
            clear hqs HN h3
            go_wp2_with fail
            refine (cC _).mono ?_
            rintro e w1 ⟨rfl, rfl⟩
            go_wp2_with fail
            rw [HX.out]
            refine (cD _).mono ?_
            rintro e w1 ⟨rfl, rfl⟩
            go_wp2
            exact ⟨⟨j + 1, q + 1, stA acc n, by rw [or_st' acc n ha0 (by omega) hn0 hn9], by go_num, by go_num, by omega, by unfold stA; omega, by unfold stA; rw [Int.pow_succ]; omega, .inl ⟨hj4, hql, HZ.out⟩⟩, by simp [intOf]; omega⟩
    · have HZ : Hid (adr s = some acc) := Lib.hid (by rcases hF with h | h; omega; exact h.2)
      clear hF
      go_wp2
      go_ret2
      exact SameA.yes HZ.out

def SameN (w : World) (s : ByteArray) (e : Ending) (w' : World) : Prop := (∃ a n, e = .returned (.tuple #[.int .u32 a, .int .i64 n, .bool (netOk s)]) ∧ (netOk s = true → a = netA s ∧ n = netBits s)) ∧ w = w'
theorem SameN.mk {w : World} {s : ByteArray} {a n : Int} {b : Bool} (e : b = netOk s) (h : netOk s = true → a = netA s ∧ n = netBits s) : SameN w s (.returned (.tuple #[.int .u32 a, .int .i64 n, .bool b])) w := ⟨⟨a, n, by rw [e], h⟩, rfl⟩
theorem extract_head (s : ByteArray) : s.extract 0 (cutAt s 0 47) = netHead s := by
  apply ByteArray.ext
  apply Array.toList_inj.1
  rw [extract_list, List.drop_zero]
  unfold cutAt netHead
  simp
theorem extract_tail (s : ByteArray) : s.extract (cutAt s 0 47 + 1) s.size = netTail s := by
  apply ByteArray.ext
  apply Array.toList_inj.1
  rw [extract_list]
  unfold cutAt netTail
  simp only [List.drop_zero, Nat.zero_add]
  exact List.take_of_length_le (by rw [List.length_drop]; simp)
theorem cutAt_zero (s : ByteArray) (c : UInt8) : cutAt s 0 c = untilN c s.data.toList := by unfold cutAt; simp

end Go.Proofs.YtibklpbnjpefnaaGreatDoor
