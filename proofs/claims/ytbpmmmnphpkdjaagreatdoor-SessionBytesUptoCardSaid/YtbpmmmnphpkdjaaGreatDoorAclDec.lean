/- The walks of acl.decimal, acl.address, acl.network, acl.digest. Condition: a text has fewer than 2^31 bytes. -/
import Derived.Test.YtbpmmmnphpkdjaaGreatDoorEnv
import Derived.Test.YtbpmmmnphpkdjaaGreatDoorText
import Derived.Test.YtbpmmmnphpkdjaaGreatDoorAclP
import Derived.Lib.AtoiAllCases
import Derived.Lib.AppendIntMem
import Derived.LoopTactic
import Derived.BigCall
import Derived.Laws.BitsAll
import Derived.Outline
import Derived.Deep.QuietTactic
import Derived.BigQuiet
namespace Go.Proofs.YtbpmmmnphpkdjaaGreatDoor
open Go.RowKit
open Go.Lib hiding intOf

def RetI (w : World) (n : Int) (e : Ending) (w' : World) : Prop := e = .returned (.int .i64 n) ∧ Below w.heap.size w w'
theorem RetI.mk {w w' : World} {a b : Int} (h : Below w.heap.size w w') (e : b = a) : RetI w a (.returned (.int .i64 b)) w' := ⟨by rw [e], h⟩


set_option maxHeartbeats 1000000 in
theorem decimal_any (s : ByteArray) (hs : s.size ≤ 281474976710656) (most : Int) (h0 : 0 ≤ most) (h1 : most ≤ 255) (w : World) (hE : Env w) :
    Calls Tryz.prog 150 #[.string s, .int .i64 most] w (RetI w (decP s.data.toList most)) := by
  cases hc : atoiAll s.data.toList with
  | ok v =>
    have cA : Calls Tryz.prog 192 #[.string s] w _ := Tryz.strconv_Atoi_ok s (by omega) v hc w
    have cA2 : Calls Tryz.prog 192 #[.string s] w fun e w' => e = .returned (.tuple #[.int .i64 v, .nilIface]) ∧ Below w.heap.size w w' := cA.mono fun _ _ ⟨he, h⟩ => ⟨he, by
      rcases h with rfl | ⟨t, rfl⟩
      · exact Below.refl _ _
      · exact bytesWorld_below _ _ _⟩
    clear cA
    by_cases hv : v < 0 ∨ most < v
    · have HD := Lib.hid (show decP s.data.toList most = -1 by unfold decP; rw [hc]; simp only []; rw [if_pos (by omega)])
      clear hc
      by_cases hv0 : v < 0
      · clear hv
        go_enter Tryz.func150, Tryz.ntmps150
        go_wp2_with (go_at_call 192; refine cA2.mono ?_; rintro e w1 ⟨rfl, hb1⟩)
        go_ret
        exact RetI.mk hb1 HD.out.symm
      · have hv1 : most < v := by omega
        clear hv
        go_enter Tryz.func150, Tryz.ntmps150
        go_wp2_with (go_at_call 192; refine cA2.mono ?_; rintro e w1 ⟨rfl, hb1⟩)
        go_ret
        exact RetI.mk hb1 HD.out.symm
    · have hv0 : 0 ≤ v := by omega
      have hv1 : v ≤ most := by omega
      have cI := fun W (hW : Env W) => Tryz.strconv_Itoa v (by omega) (by omega) W hW.pow
      have HD := Lib.hid (show decP s.data.toList most = if itoa v = s.data.toList then v else -1 by
        unfold decP; rw [hc]; simp only []
        by_cases e : itoa v = s.data.toList
        · rw [if_pos e, if_neg (by rintro (h | h | h); omega; omega; exact h e)]
        · rw [if_neg e, if_pos (.inr (.inr e))])
      clear hc hv
      by_cases he : itoa v = s.data.toList
      · rw [if_pos he] at HD
        have hs2 : (⟨(itoa v).toArray⟩ : ByteArray) = s := by rw [he]
        rw [hs2] at cI
        clear he hs2
        go_enter Tryz.func150, Tryz.ntmps150
        go_wp2_with (first | (go_at_call 192; refine cA2.mono ?_; rintro e w1 ⟨rfl, hb1⟩) | (go_at_call 193; refine (cI _ (hE.below (Nat.le_refl _) hb1)).mono ?_; rintro e w2 ⟨rfl, k, os, rfl⟩))
        go_ret
        exact RetI.mk (hb1.trans (Lib.below_grow _ _ hb1.size k os)) HD.out.symm
      · rw [if_neg he] at HD
        have hne : ((⟨(itoa v).toArray⟩ : ByteArray).toList == s.toList) = false := by
          rw [beq_dec]; exact decide_eq_false fun e => he (by rw [← e])
        have HN := Lib.hid hne
        clear he
        generalize (⟨(itoa v).toArray⟩ : ByteArray) = t at *
        go_enter Tryz.func150, Tryz.ntmps150
        go_wp2_with (first | (go_at_call 192; refine cA2.mono ?_; rintro e w1 ⟨rfl, hb1⟩) | (go_at_call 193; refine (cI _ (hE.below (Nat.le_refl _) hb1)).mono ?_; rintro e w2 ⟨rfl, k, os, rfl⟩))
        go_ret
        exact RetI.mk (hb1.trans (Lib.below_grow _ _ hb1.size k os)) HD.out.symm
  | range =>
    obtain ⟨tp, p, hv⟩ := hE.ran
    have cA : Calls Tryz.prog 192 #[.string s] w _ := Tryz.strconv_Atoi_range_var s (by omega) hc tp p w hv
    have HD := Lib.hid (show decP s.data.toList most = -1 by unfold decP; rw [hc])
    clear hc hv
    generalize atoiSat s.data.toList = v at *
    go_enter Tryz.func150, Tryz.ntmps150
    go_wp2_with (go_at_call 192; refine cA.mono ?_; rintro e w1 ⟨N, rfl, _, _, hb1⟩)
    go_ret
    exact RetI.mk hb1 HD.out.symm
  | _ =>
    obtain ⟨tp, p, hv⟩ := hE.syn
    have cA : Calls Tryz.prog 192 #[.string s] w _ := Tryz.strconv_Atoi_syntax_var s (by omega) hc tp p w hv
    have HD := Lib.hid (show decP s.data.toList most = -1 by unfold decP; rw [hc])
    clear hc hv
    go_enter Tryz.func150, Tryz.ntmps150
    go_wp2_with (go_at_call 192; refine cA.mono ?_; rintro e w1 ⟨N, rfl, _, _, hb1⟩)
    go_ret
    exact RetI.mk hb1 HD.out.symm

def RetA (w : World) (o : Option Int) (e : Ending) (w' : World) : Prop := e = .returned (.tuple #[.int .u32 (o.getD 0), .bool o.isSome]) ∧ Below w.heap.size w w'
theorem RetA.no {w w' : World} {o : Option Int} (h : Below w.heap.size w w') (e : o = none) : RetA w o (.returned (.tuple #[.int .u32 0, .bool false])) w' := ⟨by rw [e]; rfl, h⟩
theorem RetA.yes {w w' : World} {o : Option Int} {a : Int} (h : Below w.heap.size w w') (e : o = some a) : RetA w o (.returned (.tuple #[.int .u32 a, .bool true])) w' := ⟨by rw [e]; rfl, h⟩
def foldB (acc : Int) (xs : List ByteArray) : Option Int := foldD stA acc (xs.map (·.data.toList))
theorem adr_split (s : ByteArray) : adr s = if (splitB ⟨#[46]⟩ 0 (countB s ⟨#[46]⟩) s).length ≠ 4 then none else foldB 0 (splitB ⟨#[46]⟩ 0 (countB s ⟨#[46]⟩) s) := by
  have h : (splitB ⟨#[46]⟩ 0 (countB s ⟨#[46]⟩) s).map (·.data.toList) = split s.data.toList [46] := splitB_data ⟨#[46]⟩ 0 _ s
  unfold adr addrP foldB
  rw [h, ← h, List.length_map]
theorem foldB_drop (acc : Int) (xs : List ByteArray) (k : Nat) (h : k < xs.length) (hd : 0 ≤ decP xs[k]!.data.toList 255) : foldB acc (xs.drop k) = foldB (stA acc (decP xs[k]!.data.toList 255)) (xs.drop (k + 1)) := by
  rw [List.drop_eq_getElem_cons h, getElem!_pos xs k h] at *
  unfold foldB
  rw [List.map_cons, foldD, if_neg (by omega)]
theorem foldB_stop (acc : Int) (xs : List ByteArray) (k : Nat) (h : k < xs.length) (hd : decP xs[k]!.data.toList 255 < 0) : foldB acc (xs.drop k) = none := by
  rw [getElem!_pos xs k h] at hd
  rw [List.drop_eq_getElem_cons h]
  unfold foldB
  rw [List.map_cons, foldD, if_pos hd]
theorem decP_range (l : List UInt8) : -1 ≤ decP l 255 ∧ decP l 255 ≤ 255 := by rw [dec_eq l 255 (by omega)]; exact decR_range l 255 (by omega)
theorem splitB_small (s : ByteArray) (x : ByteArray) (h : x ∈ splitB ⟨#[46]⟩ 0 (countB s ⟨#[46]⟩) s) : x.size ≤ s.size := by
  have all : ∀ (k : Nat) (s x : ByteArray), x ∈ splitB ⟨#[46]⟩ 0 k s → x.size ≤ s.size := by
    intro k
    induction k with
    | zero => intro s x hx; rw [splitB_zero] at hx; rw [List.mem_singleton.1 hx]; exact Nat.le_refl _
    | succ k ih =>
      intro s x hx
      unfold splitB at hx
      split at hx
      · rw [List.mem_singleton.1 hx]; exact Nat.le_refl _
      · rcases List.mem_cons.1 hx with rfl | hx
        · rw [ByteArray.size_extract]; omega
        · have := ih _ _ hx
          rw [ByteArray.size_extract] at this; omega
  exact all _ _ _ h
theorem or_st (acc n : Int) (h0 : 0 ≤ acc) (h1 : acc < 16777216) (h2 : 0 ≤ n) (h3 : n ≤ 255) : bits .or .u32 (acc * 256 % 4294967296) n = stA acc n := by
  rw [u32_or _ _ (by omega) (by omega) (by omega) (by omega), nat_join8 _ _ (by omega) (by omega)]
  unfold stA; omega
theorem pow_le3 (k : Nat) (h : k < 4) : (256 : Int) ^ k ≤ 16777216 := by
  match k, h with
  | 0, _ => decide
  | 1, _ => decide
  | 2, _ => decide
  | 3, _ => decide
theorem Env.later {w w1 : World} (h : Env w) (hb : Below w.heap.size w w1) : Env w1 := h.below (Nat.le_refl _) hb

set_option maxHeartbeats 1000000 in
theorem address_any (s : ByteArray) (hs : s.size < 4294967281) (w : World) (hE : Env w) :
    Calls Tryz.prog 119 #[.string s] w (RetA w (adr s)) := by
  obtain ⟨m, hm⟩ := hE.maxl
  have cS : Calls Tryz.prog 149 #[.string s, .string ⟨#[46]⟩] w _ := Tryz.strings_Split s ⟨#[46]⟩ m w hs hm (by decide)
  have hA := adr_split s
  have hl := splitB_all ⟨#[46]⟩ (by decide) 0 _ s rfl
  have hsm := splitB_small s
  rw [← hl] at cS
  clear hm hl
  generalize splitB ⟨#[46]⟩ 0 (countB s ⟨#[46]⟩) s = xs at *
  have HA := Lib.hid hA; clear hA
  by_cases h4 : xs.length = 4
  · have HA2 : Hid (adr s = foldB 0 (xs.drop 0)) := Lib.hid (by rw [HA.out, if_neg (by simp [h4])]; rfl)
    clear HA
    rw [h4] at cS
    have H4 := Lib.hid h4; clear h4
    have HS := Lib.hid hsm; clear hsm
    go_enter Tryz.func119, Tryz.ntmps119
    go_wp2_with (go_at_call 149; refine cS.mono ?_; rintro e w1 ⟨rfl, rfl⟩)
    go_loopw [5, 16] (fun a i wr => ∃ (k : Nat) (acc : Int), i = .int .i64 ↑k ∧ a = .int .u32 acc ∧ k ≤ 4 ∧ 0 ≤ acc ∧ acc < 256 ^ k ∧ foldB 0 (xs.drop 0) = foldB acc (xs.drop k) ∧ Below (w.heap.size + 1) (w.alloc (.cells (xs.map Value.string).toArray 9)) wr) (fun _ i _ => 4 - (intOf i).toNat)
    case atStart => exact ⟨0, 0, rfl, rfl, by omega, by omega, by decide, rfl, (Below.refl _ _)⟩
    case round =>
      obtain ⟨k, acc, rfl, rfl, hk, ha0, ha1, hF, hb⟩ := hrel
      have HF := Lib.hid hF; have HB := Lib.hid hb; clear hF hb
      by_cases hlt : k < 4
      · have hxl : k < xs.length := by rw [H4.out]; exact hlt
        have hbW : Below w.heap.size w wr := (((Below.refl _ w).alloc (Nat.le_refl _) (.cells (xs.map Value.string).toArray 9))).trans (HB.out.mono (by omega))
        have HBW := Lib.hid hbW; clear hbW
        have hcell : wr.cell? ⟨w.heap.size, k, none⟩ = some (.string xs[k]!) := by
          rw [HB.out.cell (p := ⟨w.heap.size, k, none⟩) (by show w.heap.size < w.heap.size + 1; omega), getElem!_pos xs k hxl]
          simp [hxl]
        have hxs : xs[k]!.size ≤ s.size := by rw [getElem!_pos xs k hxl]; exact HS.out _ (List.getElem_mem hxl)
        have cD := fun W (hW : Env W) => decimal_any xs[k]! (by omega) 255 (by omega) (by omega) W hW
        clear hxl hxs
        have hr := decP_range xs[k]!.data.toList
        by_cases hneg : decP xs[k]!.data.toList 255 < 0
        · have HR := Lib.hid (foldB_stop acc xs k (by rw [H4.out]; exact hlt) hneg)
          generalize xs[k]! = x at *
          generalize decP x.data.toList 255 = n at *
          go_wp2_with (go_at_call 150; refine (cD _ (hE.later HBW.out)).mono ?_; rintro e w2 ⟨rfl, hb2⟩)
          go_ret2
          exact RetA.no (HBW.out.trans (hb2.mono HBW.out.size)) (by rw [HA2.out, HF.out, HR.out])
        · have HR := Lib.hid (foldB_drop acc xs k (by rw [H4.out]; exact hlt) (by omega))
          have hn0 : 0 ≤ decP xs[k]!.data.toList 255 := by omega
          generalize xs[k]! = x at *
          generalize decP x.data.toList 255 = n at *
          go_wp2_with (go_at_call 150; refine (cD _ (hE.later HBW.out)).mono ?_; rintro e w2 ⟨rfl, hb2⟩)
          go_roundw
          case rel =>
            have hp := pow_le3 k hlt
            have hq := HB.out.size
            simp only [World.size_alloc] at hq
            exact ⟨k + 1, stA acc n, by go_num, by rw [or_st acc n ha0 (by omega) hn0 hr.2], by omega, by unfold stA; omega, by unfold stA; rw [Int.pow_succ]; omega, by rw [HF.out, HR.out], HB.out.trans (hb2.mono hq)⟩
          case measure => simp [intOf]; omega
      · obtain rfl : k = 4 := by omega
        have HQ : Hid (foldB acc (xs.drop 4) = some acc) := Lib.hid (by rw [List.drop_of_length_le (by rw [H4.out]; exact Nat.le_refl _)]; rfl)
        go_wp2
        go_ret2
        exact RetA.yes ((((Below.refl _ w).alloc (Nat.le_refl _) (.cells (xs.map Value.string).toArray 9))).trans (HB.out.mono (by omega))) (by rw [HA2.out, HF.out, HQ.out])
  · have HA2 : Hid (adr s = none) := Lib.hid (by rw [HA.out, if_pos h4])
    have hd : (((xs.length : Nat) : Int) != 4) = true := by simp; omega
    clear HA h4
    go_enter Tryz.func119, Tryz.ntmps119
    go_wp2_with (go_at_call 149; refine cS.mono ?_; rintro e w1 ⟨rfl, rfl⟩)
    go_ret2
    exact RetA.no ((Below.refl _ w).alloc (Nat.le_refl _) _) HA2.out

def RetN (w : World) (s : ByteArray) (e : Ending) (w' : World) : Prop := e = .returned (.tuple #[.int .u32 (netA s), .int .i64 (netBits s), .bool (netOk s)]) ∧ Below w.heap.size w w'
theorem RetN.mk {w w' : World} {s : ByteArray} {a n : Int} {b : Bool} (h : Below w.heap.size w w') (e1 : a = netA s) (e2 : n = netBits s) (e3 : b = netOk s) : RetN w s (.returned (.tuple #[.int .u32 a, .int .i64 n, .bool b])) w' := ⟨by rw [e1, e2, e3], h⟩
theorem netHead_size (s : ByteArray) : (netHead s).size ≤ s.size := by
  show (s.data.toList.take _).toArray.size ≤ _
  rw [List.size_toArray, List.length_take]
  have : s.data.toList.length = s.size := by simp
  omega
theorem netTail_size (s : ByteArray) : (netTail s).size ≤ s.size := by
  show (s.data.toList.drop _).toArray.size ≤ _
  rw [List.size_toArray, List.length_drop]
  have : s.data.toList.length = s.size := by simp
  omega
theorem decP_lo (l : List UInt8) (most : Int) (hm : most ≤ 255) : -1 ≤ decP l most ∧ decP l most ≤ 255 := by rw [dec_eq l most hm]; exact decR_range l most hm

theorem digest_any (s : ByteArray) (w : World) : Calls Tryz.prog 118 #[.string s] w (RetB w (digestP s)) := by
  have cI : Calls Tryz.prog 148 #[.string s, .string ⟨#[58]⟩] w _ := Tryz.strings_Index_one s 58 w
  rw [indexByte_until] at cI
  have hl : s.data.toList.length = s.size := by simp
  have hle := untilN_le 58 s.data.toList
  rw [hl] at cI hle
  have HD := Lib.hid (show digestP s = (decide (0 < untilN 58 s.data.toList) && decide (untilN 58 s.data.toList < s.size)) from rfl)
  clear hl
  generalize untilN 58 s.data.toList = n at *
  by_cases h : n = s.size
  · rw [if_pos h] at cI
    go_enter Tryz.func118, Tryz.ntmps118
    clear hle
    have H := Lib.hid h; clear h
    go_wp2_with (go_at_call 148; refine cI.mono ?_; rintro e w1 ⟨rfl, rfl⟩)
    go_ret
    exact RetB.mk (Below.refl _ _) (by rw [HD.out, H.out]; simp)
  · rw [if_neg h] at cI
    have h2 : n < s.size := by omega
    by_cases h0 : 0 < n
    all_goals
      go_enter Tryz.func118, Tryz.ntmps118
      go_wp2_with (go_at_call 148; refine cI.mono ?_; rintro e w1 ⟨rfl, rfl⟩)
      go_ret
      exact RetB.mk (Below.refl _ _) (by rw [HD.out]; simp [h0, h2])
end Go.Proofs.YtbpmmmnphpkdjaaGreatDoor
