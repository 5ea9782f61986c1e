/- The walks of acl.decimal, acl.address, acl.network, acl.digest. Condition: a text has fewer than 2^31 bytes. The walks of acl.Identity and acl.Right. Condition: the texts have fewer than 2^48 bytes. Plain facts: an address's or a network's text may always stand as an id; an address is below 2^32. No program in sight; no condition. The walks of slices.IndexFunc, ContainsFunc, Index, Contains, Equal at identities and entries. Condition: lengths below 2^47. -/
import Derived.Test.YtbpmmmnphpkdjaaGreatDoorZText
import Derived.Test.YtbpmmmnphpkdjaaGreatDoorZAclB
import Derived.Lib.AtoiAllCases
import Derived.Lib.AppendIntMem
import Derived.LoopTactic
import Derived.BigCall
import Derived.Laws.BitsAll
import Derived.Outline
import Derived.Deep.QuietTactic
import Derived.BigQuiet
import Derived.Test.YtbpmmmnphpkdjaaGreatDoorZAclS
namespace Go.Proofs.YtbpmmmnphpkdjaaGreatDoor
open Go.RowKit
open Go.Lib hiding intOf

def RetI (w : World) (n : Int) (e : Ending) (w' : World) : Prop := e = .returned (.int .i64 n) ∧ Below w.heap.size w w'
theorem RetI.mk {w w' : World} {a b : Int} (h : Below w.heap.size w w') (e : b = a) : RetI w a (.returned (.int .i64 b)) w' := ⟨by rw [e], h⟩


set_option maxHeartbeats 1000000 in
theorem decimal_any (s : ByteArray) (hs : s.size ≤ 281474976710656) (most : Int) (h0 : 0 ≤ most) (h1 : most ≤ 255) (w : World) (hE : Env w) :
    Calls Tryz.prog 150 #[.string s, .int .i64 most] w (RetI w (decP s.data.toList most)) := by
  cases hc : atoiAll s.data.toList with
  | ok v =>
    have cA : Calls Tryz.prog 192 #[.string s] w _ := Tryz.strconv_Atoi_ok s (by omega) v hc w
    have cA2 : Calls Tryz.prog 192 #[.string s] w fun e w' => e = .returned (.tuple #[.int .i64 v, .nilIface]) ∧ Below w.heap.size w w' := cA.mono fun _ _ ⟨he, h⟩ => ⟨he, by
      rcases h with rfl | ⟨t, rfl⟩
      · exact Below.refl _ _
      · exact bytesWorld_below _ _ _⟩
    clear cA
    by_cases hv : v < 0 ∨ most < v
    · have HD := Lib.hid (show decP s.data.toList most = -1 by unfold decP; rw [hc]; simp only []; rw [if_pos (by omega)])
      clear hc
      by_cases hv0 : v < 0
      · clear hv
        go_enter Tryz.func150, Tryz.ntmps150
        go_wp2_with (go_at_call 192; refine cA2.mono ?_; rintro e w1 ⟨rfl, hb1⟩)
        go_ret
        exact RetI.mk hb1 HD.out.symm
      · have hv1 : most < v := by omega
        clear hv
        go_enter Tryz.func150, Tryz.ntmps150
        go_wp2_with (go_at_call 192; refine cA2.mono ?_; rintro e w1 ⟨rfl, hb1⟩)
        go_ret
        exact RetI.mk hb1 HD.out.symm
    · have hv0 : 0 ≤ v := by omega
      have hv1 : v ≤ most := by omega
      have cI := fun W (hW : Env W) => Tryz.strconv_Itoa v (by omega) (by omega) W hW.pow
      have HD := Lib.hid (show decP s.data.toList most = if itoa v = s.data.toList then v else -1 by
        unfold decP; rw [hc]; simp only []
        by_cases e : itoa v = s.data.toList
        · rw [if_pos e, if_neg (by rintro (h | h | h); omega; omega; exact h e)]
        · rw [if_neg e, if_pos (.inr (.inr e))])
      clear hc hv
      by_cases he : itoa v = s.data.toList
      · rw [if_pos he] at HD
        have hs2 : (⟨(itoa v).toArray⟩ : ByteArray) = s := by rw [he]
        rw [hs2] at cI
        clear he hs2
        go_enter Tryz.func150, Tryz.ntmps150
        go_wp2_with (first | (go_at_call 192; refine cA2.mono ?_; rintro e w1 ⟨rfl, hb1⟩) | (go_at_call 193; refine (cI _ (hE.below (Nat.le_refl _) hb1)).mono ?_; rintro e w2 ⟨rfl, k, os, rfl⟩))
        go_ret
        exact RetI.mk (hb1.trans (Lib.below_grow _ _ hb1.size k os)) HD.out.symm
      · rw [if_neg he] at HD
        have hne : ((⟨(itoa v).toArray⟩ : ByteArray).toList == s.toList) = false := by
          rw [beq_dec]; exact decide_eq_false fun e => he (by rw [← e])
        have HN := Lib.hid hne
        clear he
        generalize (⟨(itoa v).toArray⟩ : ByteArray) = t at *
        go_enter Tryz.func150, Tryz.ntmps150
        go_wp2_with (first | (go_at_call 192; refine cA2.mono ?_; rintro e w1 ⟨rfl, hb1⟩) | (go_at_call 193; refine (cI _ (hE.below (Nat.le_refl _) hb1)).mono ?_; rintro e w2 ⟨rfl, k, os, rfl⟩))
        go_ret
        exact RetI.mk (hb1.trans (Lib.below_grow _ _ hb1.size k os)) HD.out.symm
  | range =>
    obtain ⟨tp, p, hv⟩ := hE.ran
    have cA : Calls Tryz.prog 192 #[.string s] w _ := Tryz.strconv_Atoi_range_var s (by omega) hc tp p w hv
    have HD := Lib.hid (show decP s.data.toList most = -1 by unfold decP; rw [hc])
    clear hc hv
    generalize atoiSat s.data.toList = v at *
    go_enter Tryz.func150, Tryz.ntmps150
    go_wp2_with (go_at_call 192; refine cA.mono ?_; rintro e w1 ⟨N, rfl, _, _, hb1⟩)
    go_ret
    exact RetI.mk hb1 HD.out.symm
  | _ =>
    obtain ⟨tp, p, hv⟩ := hE.syn
    have cA : Calls Tryz.prog 192 #[.string s] w _ := Tryz.strconv_Atoi_syntax_var s (by omega) hc tp p w hv
    have HD := Lib.hid (show decP s.data.toList most = -1 by unfold decP; rw [hc])
    clear hc hv
    go_enter Tryz.func150, Tryz.ntmps150
    go_wp2_with (go_at_call 192; refine cA.mono ?_; rintro e w1 ⟨N, rfl, _, _, hb1⟩)
    go_ret
    exact RetI.mk hb1 HD.out.symm

def RetA (w : World) (o : Option Int) (e : Ending) (w' : World) : Prop := e = .returned (.tuple #[.int .u32 (o.getD 0), .bool o.isSome]) ∧ Below w.heap.size w w'
theorem RetA.no {w w' : World} {o : Option Int} (h : Below w.heap.size w w') (e : o = none) : RetA w o (.returned (.tuple #[.int .u32 0, .bool false])) w' := ⟨by rw [e]; rfl, h⟩
theorem RetA.yes {w w' : World} {o : Option Int} {a : Int} (h : Below w.heap.size w w') (e : o = some a) : RetA w o (.returned (.tuple #[.int .u32 a, .bool true])) w' := ⟨by rw [e]; rfl, h⟩
def foldB (acc : Int) (xs : List ByteArray) : Option Int := foldD stA acc (xs.map (·.data.toList))
theorem adr_split (s : ByteArray) : adr s = if (splitB ⟨#[46]⟩ 0 (countB s ⟨#[46]⟩) s).length ≠ 4 then none else foldB 0 (splitB ⟨#[46]⟩ 0 (countB s ⟨#[46]⟩) s) := by
  have h : (splitB ⟨#[46]⟩ 0 (countB s ⟨#[46]⟩) s).map (·.data.toList) = split s.data.toList [46] := splitB_data ⟨#[46]⟩ 0 _ s
  unfold adr addrP foldB
  rw [h, ← h, List.length_map]
theorem foldB_drop (acc : Int) (xs : List ByteArray) (k : Nat) (h : k < xs.length) (hd : 0 ≤ decP xs[k]!.data.toList 255) : foldB acc (xs.drop k) = foldB (stA acc (decP xs[k]!.data.toList 255)) (xs.drop (k + 1)) := by
  rw [List.drop_eq_getElem_cons h, getElem!_pos xs k h] at *
  unfold foldB
  rw [List.map_cons, foldD, if_neg (by omega)]
theorem foldB_stop (acc : Int) (xs : List ByteArray) (k : Nat) (h : k < xs.length) (hd : decP xs[k]!.data.toList 255 < 0) : foldB acc (xs.drop k) = none := by
  rw [getElem!_pos xs k h] at hd
  rw [List.drop_eq_getElem_cons h]
  unfold foldB
  rw [List.map_cons, foldD, if_pos hd]
theorem decP_range (l : List UInt8) : -1 ≤ decP l 255 ∧ decP l 255 ≤ 255 := by rw [dec_eq l 255 (by omega)]; exact decR_range l 255 (by omega)
theorem splitB_small (s : ByteArray) (x : ByteArray) (h : x ∈ splitB ⟨#[46]⟩ 0 (countB s ⟨#[46]⟩) s) : x.size ≤ s.size := by
  have all : ∀ (k : Nat) (s x : ByteArray), x ∈ splitB ⟨#[46]⟩ 0 k s → x.size ≤ s.size := by
    intro k
    induction k with
    | zero => intro s x hx; rw [splitB_zero] at hx; rw [List.mem_singleton.1 hx]; exact Nat.le_refl _
    | succ k ih =>
      intro s x hx
      unfold splitB at hx
      split at hx
      · rw [List.mem_singleton.1 hx]; exact Nat.le_refl _
      · rcases List.mem_cons.1 hx with rfl | hx
        · rw [ByteArray.size_extract]; omega
        · have := ih _ _ hx
          rw [ByteArray.size_extract] at this; omega
  exact all _ _ _ h
theorem or_st (acc n : Int) (h0 : 0 ≤ acc) (h1 : acc < 16777216) (h2 : 0 ≤ n) (h3 : n ≤ 255) : bits .or .u32 (acc * 256 % 4294967296) n = stA acc n := by
  rw [u32_or _ _ (by omega) (by omega) (by omega) (by omega), nat_join8 _ _ (by omega) (by omega)]
  unfold stA; omega
theorem pow_le3 (k : Nat) (h : k < 4) : (256 : Int) ^ k ≤ 16777216 := by
  match k, h with
  | 0, _ => decide
  | 1, _ => decide
  | 2, _ => decide
  | 3, _ => decide
theorem Env.later {w w1 : World} (h : Env w) (hb : Below w.heap.size w w1) : Env w1 := h.below (Nat.le_refl _) hb

set_option maxHeartbeats 1000000 in
theorem address_any (s : ByteArray) (hs : s.size < 4294967281) (w : World) (hE : Env w) :
    Calls Tryz.prog 119 #[.string s] w (RetA w (adr s)) := by
  obtain ⟨m, hm⟩ := hE.maxl
  have cS : Calls Tryz.prog 149 #[.string s, .string ⟨#[46]⟩] w _ := Tryz.strings_Split s ⟨#[46]⟩ m w hs hm (by decide)
  have hA := adr_split s
  have hl := splitB_all ⟨#[46]⟩ (by decide) 0 _ s rfl
  have hsm := splitB_small s
  rw [← hl] at cS
  clear hm hl
  generalize splitB ⟨#[46]⟩ 0 (countB s ⟨#[46]⟩) s = xs at *
  have HA := Lib.hid hA; clear hA
  by_cases h4 : xs.length = 4
  · have HA2 : Hid (adr s = foldB 0 (xs.drop 0)) := Lib.hid (by rw [HA.out, if_neg (by simp [h4])]; rfl)
    clear HA
    rw [h4] at cS
    have H4 := Lib.hid h4; clear h4
    have HS := Lib.hid hsm; clear hsm
    go_enter Tryz.func119, Tryz.ntmps119
    go_wp2_with (go_at_call 149; refine cS.mono ?_; rintro e w1 ⟨rfl, rfl⟩)
    go_loopw [5, 16] (fun a i wr => ∃ (k : Nat) (acc : Int), i = .int .i64 ↑k ∧ a = .int .u32 acc ∧ k ≤ 4 ∧ 0 ≤ acc ∧ acc < 256 ^ k ∧ foldB 0 (xs.drop 0) = foldB acc (xs.drop k) ∧ Below (w.heap.size + 1) (w.alloc (.cells (xs.map Value.string).toArray 9)) wr) (fun _ i _ => 4 - (intOf i).toNat)
    case atStart => exact ⟨0, 0, rfl, rfl, by omega, by omega, by decide, rfl, (Below.refl _ _)⟩
    case round =>
      obtain ⟨k, acc, rfl, rfl, hk, ha0, ha1, hF, hb⟩ := hrel
      have HF := Lib.hid hF; have HB := Lib.hid hb; clear hF hb
      by_cases hlt : k < 4
      · have hxl : k < xs.length := by rw [H4.out]; exact hlt
        have hbW : Below w.heap.size w wr := (((Below.refl _ w).alloc (Nat.le_refl _) (.cells (xs.map Value.string).toArray 9))).trans (HB.out.mono (by omega))
        have HBW := Lib.hid hbW; clear hbW
        have hcell : wr.cell? ⟨w.heap.size, k, none⟩ = some (.string xs[k]!) := by
          rw [HB.out.cell (p := ⟨w.heap.size, k, none⟩) (by show w.heap.size < w.heap.size + 1; omega), getElem!_pos xs k hxl]
          simp [hxl]
        have hxs : xs[k]!.size ≤ s.size := by rw [getElem!_pos xs k hxl]; exact HS.out _ (List.getElem_mem hxl)
        have cD := fun W (hW : Env W) => decimal_any xs[k]! (by omega) 255 (by omega) (by omega) W hW
        clear hxl hxs
        have hr := decP_range xs[k]!.data.toList
        by_cases hneg : decP xs[k]!.data.toList 255 < 0
        · have HR := Lib.hid (foldB_stop acc xs k (by rw [H4.out]; exact hlt) hneg)
          generalize xs[k]! = x at *
          generalize decP x.data.toList 255 = n at *
          go_wp2_with (go_at_call 150; refine (cD _ (hE.later HBW.out)).mono ?_; rintro e w2 ⟨rfl, hb2⟩)
          go_ret2
          exact RetA.no (HBW.out.trans (hb2.mono HBW.out.size)) (by rw [HA2.out, HF.out, HR.out])
        · have HR := Lib.hid (foldB_drop acc xs k (by rw [H4.out]; exact hlt) (by omega))
          have hn0 : 0 ≤ decP xs[k]!.data.toList 255 := by omega
          generalize xs[k]! = x at *
          generalize decP x.data.toList 255 = n at *
          go_wp2_with (go_at_call 150; refine (cD _ (hE.later HBW.out)).mono ?_; rintro e w2 ⟨rfl, hb2⟩)
          go_roundw
          case rel =>
            have hp := pow_le3 k hlt
            have hq := HB.out.size
            simp only [World.size_alloc] at hq
            exact ⟨k + 1, stA acc n, by go_num, by rw [or_st acc n ha0 (by omega) hn0 hr.2], by omega, by unfold stA; omega, by unfold stA; rw [Int.pow_succ]; omega, by rw [HF.out, HR.out], HB.out.trans (hb2.mono hq)⟩
          case measure => simp [intOf]; omega
      · obtain rfl : k = 4 := by omega
        have HQ : Hid (foldB acc (xs.drop 4) = some acc) := Lib.hid (by rw [List.drop_of_length_le (by rw [H4.out]; exact Nat.le_refl _)]; rfl)
        go_wp2
        go_ret2
        exact RetA.yes ((((Below.refl _ w).alloc (Nat.le_refl _) (.cells (xs.map Value.string).toArray 9))).trans (HB.out.mono (by omega))) (by rw [HA2.out, HF.out, HQ.out])
  · have HA2 : Hid (adr s = none) := Lib.hid (by rw [HA.out, if_pos h4])
    have hd : (((xs.length : Nat) : Int) != 4) = true := by simp; omega
    clear HA h4
    go_enter Tryz.func119, Tryz.ntmps119
    go_wp2_with (go_at_call 149; refine cS.mono ?_; rintro e w1 ⟨rfl, rfl⟩)
    go_ret2
    exact RetA.no ((Below.refl _ w).alloc (Nat.le_refl _) _) HA2.out

def RetN (w : World) (s : ByteArray) (e : Ending) (w' : World) : Prop := e = .returned (.tuple #[.int .u32 (netA s), .int .i64 (netBits s), .bool (netOk s)]) ∧ Below w.heap.size w w'
theorem RetN.mk {w w' : World} {s : ByteArray} {a n : Int} {b : Bool} (h : Below w.heap.size w w') (e1 : a = netA s) (e2 : n = netBits s) (e3 : b = netOk s) : RetN w s (.returned (.tuple #[.int .u32 a, .int .i64 n, .bool b])) w' := ⟨by rw [e1, e2, e3], h⟩
theorem netHead_size (s : ByteArray) : (netHead s).size ≤ s.size := by
  show (s.data.toList.take _).toArray.size ≤ _
  rw [List.size_toArray, List.length_take]
  have : s.data.toList.length = s.size := by simp
  omega
theorem netTail_size (s : ByteArray) : (netTail s).size ≤ s.size := by
  show (s.data.toList.drop _).toArray.size ≤ _
  rw [List.size_toArray, List.length_drop]
  have : s.data.toList.length = s.size := by simp
  omega
theorem decP_lo (l : List UInt8) (most : Int) (hm : most ≤ 255) : -1 ≤ decP l most ∧ decP l most ≤ 255 := by rw [dec_eq l most hm]; exact decR_range l most hm

theorem digest_any (s : ByteArray) (w : World) : Calls Tryz.prog 118 #[.string s] w (RetB w (digestP s)) := by
  have cI : Calls Tryz.prog 148 #[.string s, .string ⟨#[58]⟩] w _ := Tryz.strings_Index_one s 58 w
  rw [indexByte_until] at cI
  have hl : s.data.toList.length = s.size := by simp
  have hle := untilN_le 58 s.data.toList
  rw [hl] at cI hle
  have HD := Lib.hid (show digestP s = (decide (0 < untilN 58 s.data.toList) && decide (untilN 58 s.data.toList < s.size)) from rfl)
  clear hl
  generalize untilN 58 s.data.toList = n at *
  by_cases h : n = s.size
  · rw [if_pos h] at cI
    go_enter Tryz.func118, Tryz.ntmps118
    clear hle
    have H := Lib.hid h; clear h
    go_wp2_with (go_at_call 148; refine cI.mono ?_; rintro e w1 ⟨rfl, rfl⟩)
    go_ret
    exact RetB.mk (Below.refl _ _) (by rw [HD.out, H.out]; simp)
  · rw [if_neg h] at cI
    have h2 : n < s.size := by omega
    by_cases h0 : 0 < n
    all_goals
      go_enter Tryz.func118, Tryz.ntmps118
      go_wp2_with (go_at_call 148; refine cI.mono ?_; rintro e w1 ⟨rfl, rfl⟩)
      go_ret
      exact RetB.mk (Below.refl _ _) (by rw [HD.out]; simp [h0, h2])
end Go.Proofs.YtbpmmmnphpkdjaaGreatDoor
namespace Go.Proofs.YtbpmmmnphpkdjaaGreatDoor
open Go.RowKit

theorem str_is (s : ByteArray) (l : List UInt8) : (s.toList == l) = decide (s = ⟨l.toArray⟩) := by
  rw [← beq_dec]; congr 1; rw [ByteArray.toList_eq]
theorem str_world (s : ByteArray) : (s.toList == [119, 111, 114, 108, 100]) = decide (s = sWorld) := str_is s _
theorem str_anyone (s : ByteArray) : (s.toList == [97, 110, 121, 111, 110, 101]) = decide (s = sAnyone) := str_is s _
theorem str_digest (s : ByteArray) : (s.toList == [100, 105, 103, 101, 115, 116]) = decide (s = sDigest) := str_is s _
theorem str_ip (s : ByteArray) : (s.toList == [105, 112]) = decide (s = sIp) := str_is s _
theorem str_super (s : ByteArray) : (s.toList == [115, 117, 112, 101, 114]) = decide (s = sSuper) := str_is s _
theorem str_auth (s : ByteArray) : (s.toList == [97, 117, 116, 104]) = decide (s = sAuth) := str_is s _
theorem bcell {W w1 : World} (hb : Below W.heap.size W w1) : (∀ b o, b < W.heap.size → w1.cell? ⟨b, o, none⟩ = W.cell? ⟨b, o, none⟩) ∧ (∀ b o, b < W.heap.size → w1.frozen? ⟨b, o, none⟩ = W.frozen? ⟨b, o, none⟩) :=
  ⟨fun b o h => hb.cell (p := ⟨b, o, none⟩) h, fun b o h => hb.frozen (p := ⟨b, o, none⟩) h⟩
theorem textOk_size {s : ByteArray} (h : textOk s = true) : s.size ≤ 256 := by
  unfold textOk at h
  simp only [Bool.and_eq_true, decide_eq_true_eq] at h
  exact h.1.1.2

set_option maxHeartbeats 1000000 in
theorem identity_any (s t : ByteArray) (hs : s.size ≤ 140737488355328) (ht : t.size ≤ 140737488355328) (w : World) (hE : Env w) :
    Calls Tryz.prog 83 #[.agg #[.string s, .string t]] w (RetB w (identP (s, t))) := by
  have cS := fun W (hW : Env W) => text_any s hs W hW.tabs
  have cT := fun W (hW : Env W) => text_any t ht W hW.tabs
  have HR := Lib.hid (show identP (s, t) = (textOk s && textOk t && (if s = sDigest then digestP t else if s = sIp then (adr t).isSome else decide (s = sSuper))) from rfl)
  have hb0 : Below w.heap.size w (w.alloc (.cells #[.string s, .string t] 155)) := (Below.refl _ w).alloc (Nat.le_refl _) _
  cases hts : textOk s with
  | false =>
    rw [hts] at cS
    have HB := Lib.hid (show identP (s, t) = false by rw [HR.out, hts]; simp)
    clear hts
    go_enter Tryz.func83, Tryz.ntmps83
    go_wp2_with fail
    refine (cS _ (hE.later hb0)).mono ?_
    rintro e w1 ⟨rfl, hb1⟩
    go_wp2
    go_ret
    exact RetB.mk (hb0.trans (hb1.mono hb0.size)) HB.out.symm
  | true =>
    rw [hts] at cS
    cases htt : textOk t with
    | false =>
      rw [htt] at cT
      have HB := Lib.hid (show identP (s, t) = false by rw [HR.out, htt]; simp)
      clear hts htt
      go_enter Tryz.func83, Tryz.ntmps83
      go_wp2_with fail
      refine (cS _ (hE.later hb0)).mono ?_
      rintro e w1 ⟨rfl, hb1⟩
      obtain ⟨hc1, hf1⟩ := bcell hb1
      go_wp2_with fail
      refine (cT _ ((hE.later hb0).later hb1)).mono ?_
      rintro e w2 ⟨rfl, hb2⟩
      go_wp2
      go_ret
      exact RetB.mk ((hb0.trans (hb1.mono hb0.size)).trans (hb2.mono (by have := hb1.size; simp at this; omega))) HB.out.symm
    | true =>
      rw [htt] at cT
      have hz := textOk_size htt
      have HR2 := Lib.hid (show identP (s, t) = (if s = sDigest then digestP t else if s = sIp then (adr t).isSome else decide (s = sSuper)) by rw [HR.out, hts, htt]; simp)
      clear hts htt HR
      have f1 := str_digest s; have f2 := str_ip s; have f3 := str_super s
      have cD := fun W => digest_any t W
      have cN := fun W (hW : Env W) => address_any t (by omega) W hW
      have hcase : (s = sDigest ∧ identP (s, t) = digestP t) ∨ (s ≠ sDigest ∧ s = sIp ∧ identP (s, t) = (adr t).isSome) ∨ (s ≠ sDigest ∧ s ≠ sIp ∧ identP (s, t) = decide (s = sSuper)) := by
        rw [HR2.out]
        by_cases e2 : s = sDigest
        · rw [if_pos e2]; exact (.inl ⟨e2, rfl⟩)
        · rw [if_neg e2]
          by_cases e3 : s = sIp
          · rw [if_pos e3]; exact (.inr (.inl ⟨e2, e3, rfl⟩))
          · rw [if_neg e3]; exact .inr (.inr ⟨e2, e3, rfl⟩)
      clear HR2
      rcases hcase with ⟨e1, hv⟩ | ⟨e1, e2, hv⟩ | ⟨e1, e2, hv⟩
      · rw [decide_eq_true e1] at f1
        have HV := Lib.hid hv
        clear e1 hv f2 f3 cN
        generalize digestP t = b at *
        go_enter Tryz.func83, Tryz.ntmps83
        go_wp2_with fail
        refine (cS _ (hE.later hb0)).mono ?_
        rintro e w1 ⟨rfl, hb1⟩
        obtain ⟨hc1, hf1⟩ := bcell hb1
        have hz1 : w.heap.size < w1.heap.size := by have := hb1.size; simp at this; omega
        go_wp2_with fail
        refine (cT _ ((hE.later hb0).later hb1)).mono ?_
        rintro e w2 ⟨rfl, hb2⟩
        obtain ⟨hc2, hf2⟩ := bcell hb2
        go_wp2_with fail
        refine (cD _).mono ?_
        rintro e w3 ⟨rfl, hb3⟩
        go_wp2
        go_ret
        exact RetB.mk (((hb0.trans (hb1.mono hb0.size)).trans (hb2.mono (by omega))).trans (hb3.mono (by have := hb2.size; omega))) HV.out.symm
      · rw [decide_eq_false e1] at f1
        rw [decide_eq_true e2] at f2
        have HV := Lib.hid hv
        clear e1 e2 hv f3 cD
        unfold RetA at cN
        generalize (adr t).isSome = b at *
        generalize (adr t).getD 0 = na at *
        go_enter Tryz.func83, Tryz.ntmps83
        go_wp2_with fail
        refine (cS _ (hE.later hb0)).mono ?_
        rintro e w1 ⟨rfl, hb1⟩
        obtain ⟨hc1, hf1⟩ := bcell hb1
        have hz1 : w.heap.size < w1.heap.size := by have := hb1.size; simp at this; omega
        go_wp2_with fail
        refine (cT _ ((hE.later hb0).later hb1)).mono ?_
        rintro e w2 ⟨rfl, hb2⟩
        obtain ⟨hc2, hf2⟩ := bcell hb2
        go_wp2_with fail
        refine (cN _ (((hE.later hb0).later hb1).later hb2)).mono ?_
        rintro e w3 ⟨rfl, hb3⟩
        go_wp2
        go_ret
        exact RetB.mk (((hb0.trans (hb1.mono hb0.size)).trans (hb2.mono (by omega))).trans (hb3.mono (by have := hb2.size; omega))) HV.out.symm
      · rw [decide_eq_false e1] at f1
        rw [decide_eq_false e2] at f2
        have HV := Lib.hid hv
        clear e1 e2 hv cD cN
        cases hb : decide (s = sSuper)
        all_goals
          rw [hb] at f3 HV
          clear hb
          go_enter Tryz.func83, Tryz.ntmps83
          go_wp2_with fail
          refine (cS _ (hE.later hb0)).mono ?_
          rintro e w1 ⟨rfl, hb1⟩
          obtain ⟨hc1, hf1⟩ := bcell hb1
          have hz1 : w.heap.size < w1.heap.size := by have := hb1.size; simp at this; omega
          go_wp2_with fail
          refine (cT _ ((hE.later hb0).later hb1)).mono ?_
          rintro e w2 ⟨rfl, hb2⟩
          obtain ⟨hc2, hf2⟩ := bcell hb2
          go_wp2
          go_ret
          exact RetB.mk ((hb0.trans (hb1.mono hb0.size)).trans (hb2.mono (by omega))) HV.out.symm
end Go.Proofs.YtbpmmmnphpkdjaaGreatDoor
namespace Go.Proofs.YtbpmmmnphpkdjaaGreatDoor

theorem digF_all : ∀ (l : List UInt8) (acc n : Int), digF acc l = some n → ∀ b ∈ l, isD b = true
  | [], _, _, _, b, hb => absurd hb (by simp)
  | x :: r, acc, n, h, b, hb => by
    rw [digF] at h
    by_cases hx : isD x = true
    · rw [if_pos hx] at h
      rcases List.mem_cons.1 hb with rfl | hb
      · exact hx
      · exact digF_all r _ n h b hb
    · rw [if_neg hx] at h; cases h
theorem decR_chars (l : List UInt8) (most : Int) (h : 0 ≤ decR l most) : 1 ≤ l.length ∧ l.length ≤ 3 ∧ ∀ b ∈ l, 46 ≤ b.toNat ∧ b.toNat ≤ 57 := by
  unfold decR at h
  split at h
  · omega
  · rename_i hc
    cases hd : digF 0 l with
    | none => rw [hd] at h; simp at h
    | some n =>
      refine ⟨by omega, by omega, fun b hb => ?_⟩
      have := digF_all l 0 n hd b hb
      simp [isD] at this
      omega
theorem until_split (c : UInt8) : ∀ l : List UInt8, untilN c l ≠ l.length → l = l.take (untilN c l) ++ c :: l.drop (untilN c l + 1)
  | [], h => absurd rfl h
  | b :: r, h => by
    unfold untilN at h ⊢
    by_cases hb : b = c
    · subst hb; simp
    · rw [if_neg hb] at h ⊢
      have ih := until_split c r (by simpa using h)
      simp only [List.take_succ_cons, List.drop_succ_cons, List.cons_append]
      rw [← ih]
theorem addrF_chars (st : Int → Int → Int) : ∀ (k : Nat) (acc : Int) (l : List UInt8) (a : Int), addrF st k acc l = some a → 1 ≤ l.length ∧ l.length ≤ 4 * k + 3 ∧ ∀ b ∈ l, 46 ≤ b.toNat ∧ b.toNat ≤ 57
  | 0, acc, l, a, h => by
    unfold addrF at h
    split at h
    · cases h
    · rename_i hc
      have hd := decR_chars (l.take (untilN 46 l)) 255 (by omega)
      have hu : untilN 46 l = l.length := by omega
      rw [hu, List.take_length] at hd
      omega
  | k + 1, acc, l, a, h => by
    unfold addrF at h
    split at h
    · cases h
    · rename_i hc
      have hd := decR_chars (l.take (untilN 46 l)) 255 (by omega)
      have hu : untilN 46 l ≠ l.length := by omega
      obtain ⟨i1, i2, i3⟩ := addrF_chars st k _ _ a h
      have hs := until_split 46 l hu
      have hl : l.length = (l.take (untilN 46 l)).length + (l.drop (untilN 46 l + 1)).length + 1 := by
        conv => lhs; rw [hs]
        simp only [List.length_append, List.length_cons]; omega
      refine ⟨by omega, by omega, fun b hb => ?_⟩
      rw [hs] at hb
      rcases List.mem_append.1 hb with hb | hb
      · exact hd.2.2 b hb
      · rcases List.mem_cons.1 hb with rfl | hb
        · decide
        · exact i3 b hb
theorem validD_ascii : ∀ l : List UInt8, (∀ b ∈ l, b.toNat < 128) → Lib.validD l = true
  | [], _ => Lib.validD_nil
  | b :: r, h => by rw [Lib.validD_cons _ _ (h b (by simp))]; exact validD_ascii r (fun x hx => h x (by simp [hx]))
theorem textOk_of (s : ByteArray) (h1 : 1 ≤ s.data.toList.length) (h2 : s.data.toList.length ≤ 256) (h : ∀ b ∈ s.data.toList, 46 ≤ b.toNat ∧ b.toNat ≤ 57) : textOk s = true := by
  have hl : s.data.toList.length = s.size := by simp
  unfold textOk
  rw [decide_eq_true (by omega), decide_eq_true (by omega)]
  have hv : validFrom s 0 = true := by
    unfold validFrom; rw [List.drop_zero]; exact validD_ascii _ (fun b hb => by have := h b hb; omega)
  have ho : okFrom s 0 = true := by
    unfold okFrom; rw [List.drop_zero, List.all_eq_true]
    intro b hb
    have := h b hb
    simp [okB]; omega
  rw [hv, ho]; rfl
theorem adr_text (s : ByteArray) (h : (adr s).isSome = true) : textOk s = true := by
  obtain ⟨a, ha⟩ := Option.isSome_iff_exists.1 h
  unfold adr at ha
  rw [addr_eq] at ha
  obtain ⟨h1, h2, h3⟩ := addrF_chars stA 3 0 _ a ha
  exact textOk_of s h1 (by omega) h3
theorem net_text (s : ByteArray) (h : netOk s = true) : textOk s = true := by
  unfold netOk at h
  simp only [Bool.and_eq_true, decide_eq_true_eq] at h
  obtain ⟨ha, hb⟩ := h
  obtain ⟨a, ha⟩ := Option.isSome_iff_exists.1 ha
  unfold adr at ha
  rw [addr_eq] at ha
  obtain ⟨h1, h2, h3⟩ := addrF_chars stA 3 0 _ a ha
  rw [show (netHead s).data.toList = s.data.toList.take (untilN 47 s.data.toList) by unfold netHead; simp] at h1 h2 h3
  unfold netBits at hb
  by_cases hu : untilN 47 s.data.toList = s.data.toList.length
  · rw [hu, List.take_length] at h1 h2 h3
    exact textOk_of s h1 (by omega) h3
  · rw [if_neg hu, dec_eq _ _ (by omega)] at hb
    obtain ⟨i1, i2, i3⟩ := decR_chars _ _ hb
    rw [show (netTail s).data.toList = s.data.toList.drop (untilN 47 s.data.toList + 1) by unfold netTail; simp] at i1 i2 i3
    have hs := until_split 47 _ hu
    have hl : s.data.toList.length = (s.data.toList.take (untilN 47 s.data.toList)).length + (s.data.toList.drop (untilN 47 s.data.toList + 1)).length + 1 := by
      conv => lhs; rw [hs]
      simp only [List.length_append, List.length_cons]; omega
    refine textOk_of s (by omega) (by omega) (fun b hb => ?_)
    rw [hs] at hb
    rcases List.mem_append.1 hb with hb | hb
    · exact h3 b hb
    · rcases List.mem_cons.1 hb with rfl | hb
      · decide
      · exact i3 b hb
theorem addrF_range : ∀ (k : Nat) (acc : Int) (l : List UInt8) (a M : Int), 0 ≤ acc → acc < M → addrF stA k acc l = some a → 0 ≤ a ∧ a < M * 256 ^ (k + 1)
  | 0, acc, l, a, M, h0, h1, h => by
    unfold addrF at h
    split at h
    · cases h
    · rename_i hc
      have hr := decR_range (l.take (untilN 46 l)) 255 (by omega)
      cases h
      unfold stA
      constructor
      · omega
      · simp; omega
  | k + 1, acc, l, a, M, h0, h1, h => by
    unfold addrF at h
    split at h
    · cases h
    · rename_i hc
      have hr := decR_range (l.take (untilN 46 l)) 255 (by omega)
      have := addrF_range k _ _ a (M * 256) (by unfold stA; omega) (by unfold stA; omega) h
      refine ⟨this.1, ?_⟩
      rw [Int.pow_succ, Int.mul_comm (256 ^ (k + 1)) 256, ← Int.mul_assoc]
      exact this.2
theorem adr_range (s : ByteArray) (a : Int) (h : adr s = some a) : 0 ≤ a ∧ a < 4294967296 := by
  unfold adr at h
  rw [addr_eq] at h
  exact addrF_range 3 0 _ a 1 (by omega) (by omega) h
theorem netA_range (s : ByteArray) : 0 ≤ netA s ∧ netA s < 4294967296 := by
  unfold netA
  cases h : adr (netHead s) with
  | none => simp
  | some a => exact adr_range _ a h
theorem netBits_range (s : ByteArray) : -1 ≤ netBits s ∧ netBits s ≤ 255 := by
  unfold netBits
  split
  · omega
  · rw [dec_eq _ _ (by omega)]; exact decR_range _ _ (by omega)
/-! ### the reference's words -/
theorem ok_world : textOk sWorld = true := by decide +kernel
theorem ok_anyone : textOk sAnyone = true := by decide +kernel
theorem ok_digest : textOk sDigest = true := by decide +kernel
theorem ok_ip : textOk sIp = true := by decide +kernel
theorem ok_super : textOk sSuper = true := by decide +kernel
theorem identP_eq (s t : ByteArray) : identP (s, t) = (if s = sDigest then textOk t && digestP t else if s = sIp then (adr t).isSome else decide (s = sSuper) && textOk t) := by
  unfold identP
  simp only []
  by_cases e1 : s = sDigest
  · subst e1; rw [if_pos rfl, if_pos rfl, ok_digest, Bool.true_and]
  · rw [if_neg e1, if_neg e1]
    by_cases e2 : s = sIp
    · subst e2; rw [if_pos rfl, if_pos rfl, ok_ip, Bool.true_and]
      cases h : (adr t).isSome with
      | false => simp
      | true => rw [adr_text t h]; rfl
    · rw [if_neg e2, if_neg e2]
      by_cases e3 : s = sSuper
      · subst e3; rw [ok_super]; simp
      · rw [decide_eq_false e3]; simp
theorem rightP_eq (p : Int) (s t : ByteArray) : rightP (p, s, t) = (decide (0 ≤ p) && decide (p ≤ 31) &&
    (if s = sWorld then decide (t = sAnyone) else if s = sDigest then textOk t && digestP t else if s = sIp then netOk t else false)) := by
  unfold rightP
  simp only []
  cases decide (0 ≤ p) <;> cases decide (p ≤ 31) <;> simp only [Bool.false_and, Bool.true_and, Bool.and_false]
  by_cases e1 : s = sWorld
  · subst e1; rw [if_pos rfl, if_pos rfl, ok_world, Bool.true_and]
    by_cases e2 : t = sAnyone
    · subst e2; rw [ok_anyone]; rfl
    · rw [decide_eq_false e2]; simp
  · rw [if_neg e1, if_neg e1]
    by_cases e1 : s = sDigest
    · subst e1; rw [if_pos rfl, if_pos rfl, ok_digest, Bool.true_and]
    · rw [if_neg e1, if_neg e1]
      by_cases e2 : s = sIp
      · subst e2; rw [if_pos rfl, ok_ip, Bool.true_and]
        cases h : netOk t with
        | false => simp
        | true => rw [net_text t h]; rfl
      · rw [if_neg e2]; simp
end Go.Proofs.YtbpmmmnphpkdjaaGreatDoor
namespace Go.Proofs.YtbpmmmnphpkdjaaGreatDoor
open Go.RowKit

theorem any_split {α : Type} [Inhabited α] (p : α → Bool) (zs : List α) (k : Nat) (hk : k < zs.length) (hp : p zs[k]! = true) : zs.any p = true := by
  rw [List.any_eq_true]
  exact ⟨zs[k]!, by rw [getElem!_pos zs k hk]; exact List.getElem_mem hk, hp⟩
theorem any_none {α : Type} [Inhabited α] (p : α → Bool) (zs : List α) (h : ∀ j, j < zs.length → p zs[j]! = false) : zs.any p = false := by
  rw [Bool.eq_false_iff]
  intro hh
  rw [List.any_eq_true] at hh
  obtain ⟨x, hx, hpx⟩ := hh
  obtain ⟨j, hj, rfl⟩ := List.getElem_of_mem hx
  have := h j hj
  rw [getElem!_pos zs j hj] at this
  rw [this] at hpx; cases hpx
def IdxPost (w : World) (b : Bool) (e : Ending) (w' : World) : Prop := (∃ r : Int, e = .returned (.int .i64 r) ∧ decide (0 ≤ r) = b) ∧ Below w.heap.size w w'
theorem IdxPost.mk {w w' : World} {b : Bool} {r : Int} (h : decide (0 ≤ r) = b) (hb : Below w.heap.size w w') : IdxPost w b (.returned (.int .i64 r)) w' := ⟨⟨r, rfl, h⟩, hb⟩

set_option maxHeartbeats 1000000 in
theorem indexFuncId_any (A : Option Addr) (n c g : Nat) (lb : Array Value) (eg : ∀ args w, (callFunc g args).run Tryz.prog w = .ok (.enter g args) w) (zs : List IdV) (p : IdV → Bool) (w : World) (hz : Sl w w.heap.size encId 2 A n zs) (hn : n ≤ 281474976710656)
    (hp : ∀ (W : World) (k : Nat), k < n → Below w.heap.size w W → Calls Tryz.prog g (#[.agg #[.string zs[k]!.1, .string zs[k]!.2]] ++ lb) W (RetB W (p zs[k]!))) :
    Calls Tryz.prog 208 #[.slice A n c, .func (.func g) #[] lb] w (IdxPost w (zs.any p)) := by
  have HZ := Lib.hid hz.1
  go_enter Tryz.func208, Tryz.ntmps208
  go_wp2
  go_loopw [5, 8] (fun _ i wr => ∃ k : Nat, i = .int .i64 ↑k ∧ k ≤ n ∧ (∀ j, j < k → p zs[j]! = false) ∧ Below w.heap.size w wr) (fun _ i _ => n - (intOf i).toNat)
  case atStart => exact ⟨0, rfl, by omega, fun j hj => absurd hj (by omega), Below.refl _ _⟩
  case round =>
    obtain ⟨k, rfl, hk, hall, hb⟩ := hrel
    have HA := Lib.hid hall; have HB := Lib.hid hb; clear hall
    by_cases hlt : k < n
    · obtain ⟨b, off, rfl, _, x0, x1⟩ := SlId.at_ (hz.below hb) hlt
      have hcall := hp wr k hlt hb
      clear hp hb
      have HS := Lib.hid (any_split p zs k (by rw [HZ.out]; exact hlt))
      have HN : Hid (p zs[k]! = false → ∀ j, j < k + 1 → p zs[j]! = false) := Lib.hid (fun h j hj => by rcases Nat.lt_succ_iff_lt_or_eq.1 hj with h2 | rfl; exact HA.out j h2; exact h)
      generalize hx : zs[k]! = x at *
      obtain ⟨s, t⟩ := x
      clear hx
      cases hq : p (s, t) with
      | true =>
        rw [hq] at hcall
        have HQ := Lib.hid hq; clear hq
        go_wp2_with fail
        refine hcall.mono ?_
        rintro e w' ⟨rfl, hb'⟩
        go_wp2
        go_ret
        exact IdxPost.mk (by rw [HS.out HQ.out]; exact decide_eq_true (by omega)) (HB.out.trans (hb'.mono HB.out.size))
      | false =>
        rw [hq] at hcall
        have HQ := Lib.hid hq; clear hq
        go_wp2_with fail
        refine hcall.mono ?_
        rintro e w' ⟨rfl, hb'⟩
        go_wp2
        go_roundw
        case rel => exact ⟨k + 1, by go_num, by omega, HN.out HQ.out, HB.out.trans (hb'.mono HB.out.size)⟩
        case measure => simp [intOf]; omega
    · go_wp2
      go_ret
      exact IdxPost.mk (by rw [any_none p zs (fun j hj => HA.out j (by have := HZ.out; omega))]; rfl) HB.out
set_option maxHeartbeats 1000000 in
theorem indexFuncAcl_any (A : Option Addr) (n c g : Nat) (lb : Array Value) (eg : ∀ args w, (callFunc g args).run Tryz.prog w = .ok (.enter g args) w) (zs : List AclV) (p : AclV → Bool) (w : World) (hz : Sl w w.heap.size encAcl 3 A n zs) (hn : n ≤ 281474976710656)
    (hp : ∀ (W : World) (k : Nat), k < n → Below w.heap.size w W → Calls Tryz.prog g (#[.agg #[.int .i32 zs[k]!.1, .string zs[k]!.2.1, .string zs[k]!.2.2]] ++ lb) W (RetB W (p zs[k]!))) :
    Calls Tryz.prog 207 #[.slice A n c, .func (.func g) #[] lb] w (IdxPost w (zs.any p)) := by
  have HZ := Lib.hid hz.1
  go_enter Tryz.func207, Tryz.ntmps207
  go_wp2
  go_loopw [5, 8] (fun _ i wr => ∃ k : Nat, i = .int .i64 ↑k ∧ k ≤ n ∧ (∀ j, j < k → p zs[j]! = false) ∧ Below w.heap.size w wr) (fun _ i _ => n - (intOf i).toNat)
  case atStart => exact ⟨0, rfl, by omega, fun j hj => absurd hj (by omega), Below.refl _ _⟩
  case round =>
    obtain ⟨k, rfl, hk, hall, hb⟩ := hrel
    have HA := Lib.hid hall; have HB := Lib.hid hb; clear hall
    by_cases hlt : k < n
    · obtain ⟨b, off, rfl, _, x0, x1, x2⟩ := SlAcl.at_ (hz.below hb) hlt
      have hcall := hp wr k hlt hb
      clear hp hb
      have HS := Lib.hid (any_split p zs k (by rw [HZ.out]; exact hlt))
      have HN : Hid (p zs[k]! = false → ∀ j, j < k + 1 → p zs[j]! = false) := Lib.hid (fun h j hj => by rcases Nat.lt_succ_iff_lt_or_eq.1 hj with h2 | rfl; exact HA.out j h2; exact h)
      generalize hx : zs[k]! = x at *
      obtain ⟨q, s, t⟩ := x
      clear hx
      cases hq : p (q, s, t) with
      | true =>
        rw [hq] at hcall
        have HQ := Lib.hid hq; clear hq
        go_wp2_with fail
        refine hcall.mono ?_
        rintro e w' ⟨rfl, hb'⟩
        go_wp2
        go_ret
        exact IdxPost.mk (by rw [HS.out HQ.out]; exact decide_eq_true (by omega)) (HB.out.trans (hb'.mono HB.out.size))
      | false =>
        rw [hq] at hcall
        have HQ := Lib.hid hq; clear hq
        go_wp2_with fail
        refine hcall.mono ?_
        rintro e w' ⟨rfl, hb'⟩
        go_wp2
        go_roundw
        case rel => exact ⟨k + 1, by go_num, by omega, HN.out HQ.out, HB.out.trans (hb'.mono HB.out.size)⟩
        case measure => simp [intOf]; omega
    · go_wp2
      go_ret
      exact IdxPost.mk (by rw [any_none p zs (fun j hj => HA.out j (by have := HZ.out; omega))]; rfl) HB.out

theorem containsFuncId_any (A : Option Addr) (n c g : Nat) (lb : Array Value) (eg : ∀ args w, (callFunc g args).run Tryz.prog w = .ok (.enter g args) w) (zs : List IdV) (p : IdV → Bool) (w : World) (hz : Sl w w.heap.size encId 2 A n zs) (hn : n ≤ 281474976710656)
    (hp : ∀ (W : World) (k : Nat), k < n → Below w.heap.size w W → Calls Tryz.prog g (#[.agg #[.string zs[k]!.1, .string zs[k]!.2]] ++ lb) W (RetB W (p zs[k]!))) :
    Calls Tryz.prog 175 #[.slice A n c, .func (.func g) #[] lb] w (RetB w (zs.any p)) := by
  have cI := indexFuncId_any A n c g lb eg zs p w hz hn hp
  clear hp
  generalize zs.any p = b at *
  go_enter Tryz.func175, Tryz.ntmps175
  go_wp2_with fail
  refine cI.mono ?_
  rintro e w' ⟨⟨r, rfl, hr⟩, hb⟩
  have HR := Lib.hid hr; clear hr
  go_wp2
  go_ret
  exact RetB.mk hb HR.out

theorem containsFuncAcl_any (A : Option Addr) (n c g : Nat) (lb : Array Value) (eg : ∀ args w, (callFunc g args).run Tryz.prog w = .ok (.enter g args) w) (zs : List AclV) (p : AclV → Bool) (w : World) (hz : Sl w w.heap.size encAcl 3 A n zs) (hn : n ≤ 281474976710656)
    (hp : ∀ (W : World) (k : Nat), k < n → Below w.heap.size w W → Calls Tryz.prog g (#[.agg #[.int .i32 zs[k]!.1, .string zs[k]!.2.1, .string zs[k]!.2.2]] ++ lb) W (RetB W (p zs[k]!))) :
    Calls Tryz.prog 173 #[.slice A n c, .func (.func g) #[] lb] w (RetB w (zs.any p)) := by
  have cI := indexFuncAcl_any A n c g lb eg zs p w hz hn hp
  clear hp
  generalize zs.any p = b at *
  go_enter Tryz.func173, Tryz.ntmps173
  go_wp2_with fail
  refine cI.mono ?_
  rintro e w' ⟨⟨r, rfl, hr⟩, hb⟩
  have HR := Lib.hid hr; clear hr
  go_wp2
  go_ret
  exact RetB.mk hb HR.out

set_option maxHeartbeats 1000000 in
theorem indexId_any (A : Option Addr) (n c : Nat) (zs : List IdV) (s t : ByteArray) (w : World) (hz : Sl w w.heap.size encId 2 A n zs) (hn : n ≤ 281474976710656) :
    Calls Tryz.prog 120 #[.slice A n c, .agg #[.string s, .string t]] w (IdxPost w (zs.any (fun y => decide (y = (s, t))))) := by
  have HZ := Lib.hid hz.1
  have hb0 : Below w.heap.size w (w.alloc (.cells #[.string s, .string t] 155)) := (Below.refl _ w).alloc (Nat.le_refl _) _
  go_enter Tryz.func120, Tryz.ntmps120
  go_wp2
  go_loopw [5, 8] (fun _ i wr => ∃ (k q : Nat), i = .int .i64 ↑k ∧ k ≤ n ∧ (∀ j, j < k → decide (zs[j]! = (s, t)) = false) ∧ wr = (w.alloc (.cells #[.string s, .string t] 155)).drewN q) (fun _ i _ => n - (intOf i).toNat)
  case atStart => exact ⟨0, 0, rfl, by omega, fun j hj => absurd hj (by omega), rfl⟩
  case round =>
    obtain ⟨k, q, rfl, hk, hall, rfl⟩ := hrel
    have HA := Lib.hid hall; clear hall
    by_cases hlt : k < n
    · obtain ⟨b, off, rfl, hbl, x0, x1⟩ := SlId.at_ (hz.below hb0) hlt
      have HS := Lib.hid (any_split (fun y => decide (y = (s, t))) zs k (by rw [HZ.out]; exact hlt))
      have HN : Hid (decide (zs[k]! = (s, t)) = false → ∀ j, j < k + 1 → decide (zs[j]! = (s, t)) = false) := Lib.hid (fun h j hj => by rcases Nat.lt_succ_iff_lt_or_eq.1 hj with h2 | rfl; exact HA.out j h2; exact h)
      generalize hx : zs[k]! = x at *
      obtain ⟨s', t'⟩ := x
      clear hx
      have heq := fun w => (eqId w s t s' t').trans (by rw [show decide ((s, t) = (s', t')) = decide ((s', t') = (s, t)) from decide_eq_decide.2 eq_comm] : _ = Result.ok (.bool (decide ((s', t') = (s, t)))) w)
      cases hq : decide ((s', t') = (s, t))
      · have HQ := Lib.hid hq
        rw [hq] at heq
        clear hq
        go_wp2
        go_quiet (fail)
        go_wp2
        go_roundw
        case rel => exact ⟨k + 1, q + nq, by go_num, by omega, HN.out HQ.out, by first | rfl | rw [World.drewN_drewN]⟩
        case measure => simp [intOf]; omega
      · have HQ := Lib.hid hq
        rw [hq] at heq
        clear hq
        go_wp2
        go_quiet (fail)
        go_wp2
        go_ret
        exact IdxPost.mk (by rw [HS.out HQ.out]; exact decide_eq_true (by omega)) (drewN_below (drewN_below hb0 q) nq)
    · go_wp2
      go_ret
      exact IdxPost.mk (by rw [any_none _ zs (fun j hj => HA.out j (by have := HZ.out; omega))]; rfl) (drewN_below hb0 q)

theorem containsId_any (A : Option Addr) (n c : Nat) (zs : List IdV) (s t : ByteArray) (w : World) (hz : Sl w w.heap.size encId 2 A n zs) (hn : n ≤ 281474976710656) :
    Calls Tryz.prog 84 #[.slice A n c, .agg #[.string s, .string t]] w (RetB w (zs.any (fun y => decide (y = (s, t))))) := by
  have hb0 : Below w.heap.size w (w.alloc (.cells #[.string s, .string t] 155)) := (Below.refl _ w).alloc (Nat.le_refl _) _
  have cI := indexId_any A n c zs s t (w.alloc (.cells #[.string s, .string t] 155)) (hz.belowMore hb0 hb0.size) hn
  generalize zs.any (fun y => decide (y = (s, t))) = b at *
  go_enter Tryz.func84, Tryz.ntmps84
  go_wp2_with fail
  refine cI.mono ?_
  rintro e w' ⟨⟨r, rfl, hr⟩, hb⟩
  have HR := Lib.hid hr; clear hr
  go_wp2
  go_ret
  exact RetB.mk (hb0.trans (hb.mono hb0.size)) HR.out
end Go.Proofs.YtbpmmmnphpkdjaaGreatDoor
