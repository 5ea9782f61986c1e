/- The cells of an identity and of an entry; '==' at them. No condition. -/
import Derived.Test.YthpjneobmmpbnaaGreatDoorGJutP
import Derived.Test.YthpjneobmmpbnaaGreatDoorGAclP
import Derived.Test.YthpjneobmmpbnaaGreatDoorProg
import Derived.Lib.SlicesS
import Derived.Test.YthpjneobmmpbnaaGreatDoorGShelf
import Derived.LoopTactic
import Derived.BigCall
import Derived.Lib.Hide
import Derived.Lib.TrimU
import Derived.Lib.QuoteLoop
import Derived.Lib.OthersKept
import Derived.Test.YthpjneobmmpbnaaGreatDoorGEnv
import Derived.Lib.AtoiAllCases
import Derived.Lib.AppendIntMem
import Derived.Laws.BitsAll
import Derived.Outline
import Derived.Deep.QuietTactic
import Derived.BigQuiet
namespace Go.Proofs.YthpjneobmmpbnaaGreatDoor
open Go.RowKit

def encId (x : IdV) : List Value := [.string x.1, .string x.2]
def encAcl (x : AclV) : List Value := [.int .i32 x.1, .string x.2.1, .string x.2.2]
abbrev SlId (w : World) (B : Nat) (A : Option Addr) (n : Nat) (zs : List IdV) : Prop := Sl w B encId 2 A n zs
abbrev SlAcl (w : World) (B : Nat) (A : Option Addr) (n : Nat) (zs : List AclV) : Prop := Sl w B encAcl 3 A n zs
theorem SlId.at_ {w : World} {B n j : Nat} {A : Option Addr} {zs : List IdV} (h : Sl w B encId 2 A n zs) (hj : j < n) :
    ∃ b off, A = some ⟨b, off, none⟩ ∧ b < B ∧ w.cell? ⟨b, off + j * 2, none⟩ = some (.string zs[j]!.1) ∧ w.cell? ⟨b, off + j * 2 + 1, none⟩ = some (.string zs[j]!.2) := by
  obtain ⟨b, off, e, hb, hc⟩ := h.cells hj
  exact ⟨b, off, e, hb, hc 0 _ rfl, hc 1 _ rfl⟩
theorem SlAcl.at_ {w : World} {B n j : Nat} {A : Option Addr} {zs : List AclV} (h : Sl w B encAcl 3 A n zs) (hj : j < n) :
    ∃ b off, A = some ⟨b, off, none⟩ ∧ b < B ∧ w.cell? ⟨b, off + j * 3, none⟩ = some (.int .i32 zs[j]!.1) ∧ w.cell? ⟨b, off + j * 3 + 1, none⟩ = some (.string zs[j]!.2.1) ∧ w.cell? ⟨b, off + j * 3 + 2, none⟩ = some (.string zs[j]!.2.2) := by
  obtain ⟨b, off, e, hb, hc⟩ := h.cells hj
  exact ⟨b, off, e, hb, hc 0 _ rfl, hc 1 _ rfl, hc 2 _ rfl⟩

theorem bytes_ext {a b : ByteArray} (h : a.toList = b.toList) : a = b := (Lib.bytes_beq_iff a b).1 (by rw [h]; simp)
theorem beq_dec (a b : ByteArray) : (a.toList == b.toList) = decide (a = b) := by
  by_cases h : a = b
  · subst h; simp
  · rw [decide_eq_false h]
    exact beq_eq_false_iff_ne.2 (fun e => h (bytes_ext e))

theorem toList_iff (a b : ByteArray) : (a.toList = b.toList) ↔ a = b := ⟨bytes_ext, fun e => by rw [e]⟩
section
variable (w : World) (a b c d : ByteArray) (p q : Int)
theorem fieldsId : Tryz.prog.underlying 108 = some (.struct (Tryz.prog.fieldsOf 108)) := by kernel_rfl
theorem stoodId : Tryz.prog.stoodInHeld 108 = false := by kernel_rfl
theorem fieldsAcl : Tryz.prog.underlying 110 = some (.struct (Tryz.prog.fieldsOf 110)) := by kernel_rfl
theorem stoodAcl : Tryz.prog.stoodInHeld 110 = false := by kernel_rfl
theorem equalId (k : Nat) : (Op.equalIn (k + 2) 108 (.agg #[.string a, .string b]) (.agg #[.string c, .string d])).run Tryz.prog w = .ok (decide ((a, b) = (c, d))) w := by
  have u3 := Tryz.underlying9
  have a3 := Tryz.isAgg9
  have z3 := Tryz.sizeOf9
  rw [run_equalIn_agg w (k + 1) 108 _ _ fieldsId stoodId]
  simp only [Program.fieldsOf, Tryz.underlying108]
  go_simp
  simp only [toList_iff]
  by_cases h1 : a = c <;> by_cases h2 : b = d <;> simp [h1, h2]
theorem equalAcl (k : Nat) : (Op.equalIn (k + 3) 110 (.agg #[.int .i32 p, .string a, .string b]) (.agg #[.int .i32 q, .string c, .string d])).run Tryz.prog w = .ok (decide ((p, a, b) = (q, c, d))) w := by
  have u3 := Tryz.underlying9
  have a3 := Tryz.isAgg9
  have z3 := Tryz.sizeOf9
  have u1 := Tryz.underlying21
  have a1 := Tryz.isAgg21
  have z1 := Tryz.sizeOf21
  have a2 := Tryz.isAgg108
  have z2 := Tryz.sizeOf108
  have hI := fun w : World => equalId w a b c d k
  rw [run_equalIn_agg w (k + 2) 110 _ _ fieldsAcl stoodAcl]
  simp only [Program.fieldsOf, Tryz.underlying110]
  go_simp
  by_cases h0 : p = q <;> by_cases h1 : a = c <;> by_cases h2 : b = d <;> simp [h0, h1, h2]
theorem eqId : (binOp .eql 108 (.agg #[.string a, .string b]) (.agg #[.string c, .string d])).run Tryz.prog w = .ok (.bool (decide ((a, b) = (c, d)))) w := by
  rw [run_eql_struct, show (10000 : Nat) = 9998 + 2 from rfl, equalId]; rfl
theorem neqId : (binOp .neq 108 (.agg #[.string a, .string b]) (.agg #[.string c, .string d])).run Tryz.prog w = .ok (.bool (!decide ((a, b) = (c, d)))) w := by
  rw [run_neq_struct, show (10000 : Nat) = 9998 + 2 from rfl, equalId]; rfl
theorem neqAcl : (binOp .neq 110 (.agg #[.int .i32 p, .string a, .string b]) (.agg #[.int .i32 q, .string c, .string d])).run Tryz.prog w = .ok (.bool (!decide ((p, a, b) = (q, c, d)))) w := by
  rw [run_neq_struct, show (10000 : Nat) = 9997 + 3 from rfl, equalAcl]; rfl
end
end Go.Proofs.YthpjneobmmpbnaaGreatDoor
namespace Go.Proofs.YthpjneobmmpbnaaGreatDoor
open Go.RowKit

/-- a call that ends in a bool, and leaves all that lay -/
def RetB (w : World) (b : Bool) (e : Ending) (w' : World) : Prop := e = .returned (.bool b) ∧ Below w.heap.size w w'
theorem RetB.mk {w w' : World} {a b : Bool} (h : Below w.heap.size w w') (e : b = a) : RetB w a (.returned (.bool b)) w' := ⟨by rw [e], h⟩
theorem dec_pos (s : ByteArray) (p : Nat) : 1 ≤ (Utf8.decode s p).2 := Lib.width_pos s p

theorem nonempty (s : ByteArray) (h0 : s.size ≠ 0) : s.toList.isEmpty = false := by
  cases hb : s.toList.isEmpty with
  | false => rfl
  | true =>
    exfalso
    have h2 : s.toList = [] := List.isEmpty_iff.1 hb
    rw [ByteArray.toList_eq] at h2
    apply h0
    have h3 : s.data.toList.length = 0 := by rw [h2]; rfl
    simpa using h3

set_option maxHeartbeats 4000000 in
theorem text_any (s : ByteArray) (hs : s.size ≤ 140737488355328) (w : World) (hT : Lib.Utf8Tabs 1 2 w) :
    Calls Tryz.prog 227 #[.string s] w (RetB w (textOk s)) := by
  have cV : Calls Tryz.prog 160 #[.string s] w _ := Tryz.utf8_ValidString s w (by omega) hT
  have hv : Lib.validD s.data.toList = validFrom s 0 := by unfold validFrom; rw [List.drop_zero]
  rw [hv] at cV
  clear hv
  by_cases h0 : s.size = 0
  · have he : s = ByteArray.empty := ByteArray.ext (Array.eq_empty_of_size_eq_zero h0)
    subst he
    clear cV
    go_enter Tryz.func227, Tryz.ntmps227
    go_wp2
    go_ret
    exact RetB.mk (Below.refl _ _) (by simp [textOk])
  have hne : s.toList.isEmpty = false := nonempty s h0
  by_cases h1 : s.size ≤ 256
  · have h1z : ¬ (256 < (s.size : Int)) := by omega
    by_cases hV : validFrom s 0 = true
    · rw [hV] at cV
      have HV := Lib.hid hV; clear hV
      go_enter Tryz.func227, Tryz.ntmps227
      go_wp2_with (go_at_call 160; refine cV.mono ?_; rintro e w1 ⟨rfl, hb1⟩)
      have hdec0 : ∀ p, p < s.size → (Utf8.decode s p).1 ≤ 1114111 := fun p _ => Lib.rune_le s p
      have HB1 := Lib.hid hb1; clear hb1
      go_loopw [] (fun wr => ∃ p : Nat, wr.heap[w1.heap.size]? = some (.stringIter s p) ∧ Below w1.heap.size w1 wr ∧ okFrom s p = okFrom s 0) (fun wr => s.size - wr.iterPos w1.heap.size)
      case atStart => exact ⟨0, World.iter_heap w1 s 0, (Below.refl _ w1).alloc (Nat.le_refl _) _, rfl⟩
      case round =>
        obtain ⟨p, hit, hbw, hF⟩ := hrel
        have HF := Lib.hid hF; clear hF
        by_cases hp : p < s.size
        · have hnx : ∀ ty, (Instr.next (.pointer (some ⟨w1.heap.size, 0, none⟩)) true ty).run Tryz.prog wr = _ := fun ty => Lib.run_next_any_at wr w1.heap.size s p ty hit hp
          have hd1 := Lib.rune_le s p
          have hit2 := Lib.iterAt_heap wr w1.heap.size s p (p + (Utf8.decode s p).2) hit
          have hbw2 := Lib.below_iterAt hbw (k := w1.heap.size) (by omega) s (p + (Utf8.decode s p).2)
          have HIT := Lib.hid hit; have HIT2 := Lib.hid hit2; have HB2 := Lib.hid hbw2
          clear hit hit2 hbw hbw2
          have hw1 := dec_pos s p
          have HR := Lib.hid (okFrom_rune s p hp)
          by_cases c1 : (((Utf8.decode s p).1 : Nat) : Int) < 33
          · have HO : Hid (okB (Utf8.decode s p).1 = false) := Lib.hid (by unfold okB; rw [decide_eq_false (by omega)]; rfl)
            go_wp2
            go_ret
            exact RetB.mk (HB1.out.trans (HB2.out.mono HB1.out.size)) (by unfold textOk; rw [← HF.out, HR.out, HO.out]; simp)
          by_cases c2 : (((Utf8.decode s p).1 : Nat) : Int) = 127
          · have c2b : ((((Utf8.decode s p).1 : Nat) : Int) == 127) = true := by simp [c2]
            have HO : Hid (okB (Utf8.decode s p).1 = false) := Lib.hid (by unfold okB; rw [show (Utf8.decode s p).1 = 127 by omega]; rfl)
            clear c2
            go_wp2
            go_ret
            exact RetB.mk (HB1.out.trans (HB2.out.mono HB1.out.size)) (by unfold textOk; rw [← HF.out, HR.out, HO.out]; simp)
          have c2b : ((((Utf8.decode s p).1 : Nat) : Int) == 127) = false := by simp [c2]
          by_cases c3 : (((Utf8.decode s p).1 : Nat) : Int) = 44
          · have c3b : ((((Utf8.decode s p).1 : Nat) : Int) == 44) = true := by simp [c3]
            have HO : Hid (okB (Utf8.decode s p).1 = false) := Lib.hid (by unfold okB; rw [show (Utf8.decode s p).1 = 44 by omega]; rfl)
            clear c2 c3
            go_wp2
            go_ret
            exact RetB.mk (HB1.out.trans (HB2.out.mono HB1.out.size)) (by unfold textOk; rw [← HF.out, HR.out, HO.out]; simp)
          have c3b : ((((Utf8.decode s p).1 : Nat) : Int) == 44) = false := by simp [c3]
          have HO : Hid (okB (Utf8.decode s p).1 = true) := Lib.hid (by unfold okB; rw [decide_eq_true (by omega), decide_eq_true (by omega), decide_eq_true (by omega)]; rfl)
          clear c2 c3
          go_wp2
          go_roundw
          case rel => exact ⟨p + (Utf8.decode s p).2, HIT2.out, HB2.out, by rw [← HF.out, HR.out, HO.out, Bool.true_and]⟩
          case measure =>
            have e1 := HIT2.out; have e0 := HIT.out
            simp only [World.iterPos, e1, e0]
            omega
        · have hnx : ∀ ty, (Instr.next (.pointer (some ⟨w1.heap.size, 0, none⟩)) true ty).run Tryz.prog wr = _ := fun ty => Lib.run_next_end_at wr w1.heap.size s p ty hit hp
          have HB := Lib.hid hbw; clear hbw
          go_wp2
          go_ret
          exact RetB.mk (HB1.out.trans (HB.out.mono HB1.out.size)) (by unfold textOk; rw [← HF.out, okFrom_end s p hp, HV.out, decide_eq_true (by omega), decide_eq_true h1]; rfl)
    · have hVf : validFrom s 0 = false := by simpa using hV
      rw [hVf] at cV
      clear hV
      have HV := Lib.hid hVf; clear hVf
      go_enter Tryz.func227, Tryz.ntmps227
      go_wp2_with (go_at_call 160; refine cV.mono ?_; rintro e w1 ⟨rfl, hb1⟩)
      go_ret
      exact RetB.mk hb1 (by unfold textOk; rw [HV.out]; simp)
  · have h1z : 256 < (s.size : Int) := by omega
    clear cV
    go_enter Tryz.func227, Tryz.ntmps227
    go_wp2
    go_ret
    exact RetB.mk (Below.refl _ _) (by unfold textOk; rw [decide_eq_false h1]; simp)
end Go.Proofs.YthpjneobmmpbnaaGreatDoor
namespace Go.Proofs.YthpjneobmmpbnaaGreatDoor
open Go.RowKit
open Go.Lib hiding intOf

def RetI (w : World) (n : Int) (e : Ending) (w' : World) : Prop := e = .returned (.int .i64 n) ∧ Below w.heap.size w w'
theorem RetI.mk {w w' : World} {a b : Int} (h : Below w.heap.size w w') (e : b = a) : RetI w a (.returned (.int .i64 b)) w' := ⟨by rw [e], h⟩


set_option maxHeartbeats 1000000 in
theorem decimal_any (s : ByteArray) (hs : s.size ≤ 281474976710656) (most : Int) (h0 : 0 ≤ most) (h1 : most ≤ 255) (w : World) (hE : Env w) :
    Calls Tryz.prog 243 #[.string s, .int .i64 most] w (RetI w (decP s.data.toList most)) := by
  cases hc : atoiAll s.data.toList with
  | ok v =>
    have cA : Calls Tryz.prog 253 #[.string s] w _ := Tryz.strconv_Atoi_ok s (by omega) v hc w
    have cA2 : Calls Tryz.prog 253 #[.string s] w fun e w' => e = .returned (.tuple #[.int .i64 v, .nilIface]) ∧ Below w.heap.size w w' := cA.mono fun _ _ ⟨he, h⟩ => ⟨he, by
      rcases h with rfl | ⟨t, rfl⟩
      · exact Below.refl _ _
      · exact bytesWorld_below _ _ _⟩
    clear cA
    by_cases hv : v < 0 ∨ most < v
    · have HD := Lib.hid (show decP s.data.toList most = -1 by unfold decP; rw [hc]; simp only []; rw [if_pos (by omega)])
      clear hc
      by_cases hv0 : v < 0
      · clear hv
        go_enter Tryz.func243, Tryz.ntmps243
        go_wp2_with (go_at_call 253; refine cA2.mono ?_; rintro e w1 ⟨rfl, hb1⟩)
        go_ret
        exact RetI.mk hb1 HD.out.symm
      · have hv1 : most < v := by omega
        clear hv
        go_enter Tryz.func243, Tryz.ntmps243
        go_wp2_with (go_at_call 253; refine cA2.mono ?_; rintro e w1 ⟨rfl, hb1⟩)
        go_ret
        exact RetI.mk hb1 HD.out.symm
    · have hv0 : 0 ≤ v := by omega
      have hv1 : v ≤ most := by omega
      have cI := fun W (hW : Env W) => Tryz.strconv_Itoa v (by omega) (by omega) W hW.pow
      have HD := Lib.hid (show decP s.data.toList most = if itoa v = s.data.toList then v else -1 by
        unfold decP; rw [hc]; simp only []
        by_cases e : itoa v = s.data.toList
        · rw [if_pos e, if_neg (by rintro (h | h | h); omega; omega; exact h e)]
        · rw [if_neg e, if_pos (.inr (.inr e))])
      clear hc hv
      by_cases he : itoa v = s.data.toList
      · rw [if_pos he] at HD
        have hs2 : (⟨(itoa v).toArray⟩ : ByteArray) = s := by rw [he]
        rw [hs2] at cI
        clear he hs2
        go_enter Tryz.func243, Tryz.ntmps243
        go_wp2_with (first | (go_at_call 253; refine cA2.mono ?_; rintro e w1 ⟨rfl, hb1⟩) | (go_at_call 254; refine (cI _ (hE.below (Nat.le_refl _) hb1)).mono ?_; rintro e w2 ⟨rfl, k, os, rfl⟩))
        go_ret
        exact RetI.mk (hb1.trans (Lib.below_grow _ _ hb1.size k os)) HD.out.symm
      · rw [if_neg he] at HD
        have hne : ((⟨(itoa v).toArray⟩ : ByteArray).toList == s.toList) = false := by
          rw [beq_dec]; exact decide_eq_false fun e => he (by rw [← e])
        have HN := Lib.hid hne
        clear he
        generalize (⟨(itoa v).toArray⟩ : ByteArray) = t at *
        go_enter Tryz.func243, Tryz.ntmps243
        go_wp2_with (first | (go_at_call 253; refine cA2.mono ?_; rintro e w1 ⟨rfl, hb1⟩) | (go_at_call 254; refine (cI _ (hE.below (Nat.le_refl _) hb1)).mono ?_; rintro e w2 ⟨rfl, k, os, rfl⟩))
        go_ret
        exact RetI.mk (hb1.trans (Lib.below_grow _ _ hb1.size k os)) HD.out.symm
  | range =>
    obtain ⟨tp, p, hv⟩ := hE.ran
    have cA : Calls Tryz.prog 253 #[.string s] w _ := Tryz.strconv_Atoi_range_var s (by omega) hc tp p w hv
    have HD := Lib.hid (show decP s.data.toList most = -1 by unfold decP; rw [hc])
    clear hc hv
    generalize atoiSat s.data.toList = v at *
    go_enter Tryz.func243, Tryz.ntmps243
    go_wp2_with (go_at_call 253; refine cA.mono ?_; rintro e w1 ⟨N, rfl, _, _, hb1⟩)
    go_ret
    exact RetI.mk hb1 HD.out.symm
  | _ =>
    obtain ⟨tp, p, hv⟩ := hE.syn
    have cA : Calls Tryz.prog 253 #[.string s] w _ := Tryz.strconv_Atoi_syntax_var s (by omega) hc tp p w hv
    have HD := Lib.hid (show decP s.data.toList most = -1 by unfold decP; rw [hc])
    clear hc hv
    go_enter Tryz.func243, Tryz.ntmps243
    go_wp2_with (go_at_call 253; refine cA.mono ?_; rintro e w1 ⟨N, rfl, _, _, hb1⟩)
    go_ret
    exact RetI.mk hb1 HD.out.symm

def RetA (w : World) (o : Option Int) (e : Ending) (w' : World) : Prop := e = .returned (.tuple #[.int .u32 (o.getD 0), .bool o.isSome]) ∧ Below w.heap.size w w'
theorem RetA.no {w w' : World} {o : Option Int} (h : Below w.heap.size w w') (e : o = none) : RetA w o (.returned (.tuple #[.int .u32 0, .bool false])) w' := ⟨by rw [e]; rfl, h⟩
theorem RetA.yes {w w' : World} {o : Option Int} {a : Int} (h : Below w.heap.size w w') (e : o = some a) : RetA w o (.returned (.tuple #[.int .u32 a, .bool true])) w' := ⟨by rw [e]; rfl, h⟩
def foldB (acc : Int) (xs : List ByteArray) : Option Int := foldD stA acc (xs.map (·.data.toList))
theorem adr_split (s : ByteArray) : adr s = if (splitB ⟨#[46]⟩ 0 (countB s ⟨#[46]⟩) s).length ≠ 4 then none else foldB 0 (splitB ⟨#[46]⟩ 0 (countB s ⟨#[46]⟩) s) := by
  have h : (splitB ⟨#[46]⟩ 0 (countB s ⟨#[46]⟩) s).map (·.data.toList) = split s.data.toList [46] := splitB_data ⟨#[46]⟩ 0 _ s
  unfold adr addrP foldB
  rw [h, ← h, List.length_map]
theorem foldB_drop (acc : Int) (xs : List ByteArray) (k : Nat) (h : k < xs.length) (hd : 0 ≤ decP xs[k]!.data.toList 255) : foldB acc (xs.drop k) = foldB (stA acc (decP xs[k]!.data.toList 255)) (xs.drop (k + 1)) := by
  rw [List.drop_eq_getElem_cons h, getElem!_pos xs k h] at *
  unfold foldB
  rw [List.map_cons, foldD, if_neg (by omega)]
theorem foldB_stop (acc : Int) (xs : List ByteArray) (k : Nat) (h : k < xs.length) (hd : decP xs[k]!.data.toList 255 < 0) : foldB acc (xs.drop k) = none := by
  rw [getElem!_pos xs k h] at hd
  rw [List.drop_eq_getElem_cons h]
  unfold foldB
  rw [List.map_cons, foldD, if_pos hd]
theorem decP_range (l : List UInt8) : -1 ≤ decP l 255 ∧ decP l 255 ≤ 255 := by rw [dec_eq l 255 (by omega)]; exact decR_range l 255 (by omega)
theorem splitB_small (s : ByteArray) (x : ByteArray) (h : x ∈ splitB ⟨#[46]⟩ 0 (countB s ⟨#[46]⟩) s) : x.size ≤ s.size := by
  have all : ∀ (k : Nat) (s x : ByteArray), x ∈ splitB ⟨#[46]⟩ 0 k s → x.size ≤ s.size := by
    intro k
    induction k with
    | zero => intro s x hx; rw [splitB_zero] at hx; rw [List.mem_singleton.1 hx]; exact Nat.le_refl _
    | succ k ih =>
      intro s x hx
      unfold splitB at hx
      split at hx
      · rw [List.mem_singleton.1 hx]; exact Nat.le_refl _
      · rcases List.mem_cons.1 hx with rfl | hx
        · rw [ByteArray.size_extract]; omega
        · have := ih _ _ hx
          rw [ByteArray.size_extract] at this; omega
  exact all _ _ _ h
theorem or_st (acc n : Int) (h0 : 0 ≤ acc) (h1 : acc < 16777216) (h2 : 0 ≤ n) (h3 : n ≤ 255) : bits .or .u32 (acc * 256 % 4294967296) n = stA acc n := by
  rw [u32_or _ _ (by omega) (by omega) (by omega) (by omega), nat_join8 _ _ (by omega) (by omega)]
  unfold stA; omega
theorem pow_le3 (k : Nat) (h : k < 4) : (256 : Int) ^ k ≤ 16777216 := by
  match k, h with
  | 0, _ => decide
  | 1, _ => decide
  | 2, _ => decide
  | 3, _ => decide
theorem Env.later {w w1 : World} (h : Env w) (hb : Below w.heap.size w w1) : Env w1 := h.below (Nat.le_refl _) hb

set_option maxHeartbeats 1000000 in
theorem address_any (s : ByteArray) (hs : s.size < 4294967281) (w : World) (hE : Env w) :
    Calls Tryz.prog 229 #[.string s] w (RetA w (adr s)) := by
  obtain ⟨m, hm⟩ := hE.maxl
  have cS : Calls Tryz.prog 242 #[.string s, .string ⟨#[46]⟩] w _ := Tryz.strings_Split s ⟨#[46]⟩ m w hs hm (by decide)
  have hA := adr_split s
  have hl := splitB_all ⟨#[46]⟩ (by decide) 0 _ s rfl
  have hsm := splitB_small s
  rw [← hl] at cS
  clear hm hl
  generalize splitB ⟨#[46]⟩ 0 (countB s ⟨#[46]⟩) s = xs at *
  have HA := Lib.hid hA; clear hA
  by_cases h4 : xs.length = 4
  · have HA2 : Hid (adr s = foldB 0 (xs.drop 0)) := Lib.hid (by rw [HA.out, if_neg (by simp [h4])]; rfl)
    clear HA
    rw [h4] at cS
    have H4 := Lib.hid h4; clear h4
    have HS := Lib.hid hsm; clear hsm
    go_enter Tryz.func229, Tryz.ntmps229
    go_wp2_with (go_at_call 242; refine cS.mono ?_; rintro e w1 ⟨rfl, rfl⟩)
    go_loopw [5, 16] (fun a i wr => ∃ (k : Nat) (acc : Int), i = .int .i64 ↑k ∧ a = .int .u32 acc ∧ k ≤ 4 ∧ 0 ≤ acc ∧ acc < 256 ^ k ∧ foldB 0 (xs.drop 0) = foldB acc (xs.drop k) ∧ Below (w.heap.size + 1) (w.alloc (.cells (xs.map Value.string).toArray 9)) wr) (fun _ i _ => 4 - (RowKit.intOf i).toNat)
    case atStart => exact ⟨0, 0, rfl, rfl, by omega, by omega, by decide, rfl, (Below.refl _ _)⟩
    case round =>
      obtain ⟨k, acc, rfl, rfl, hk, ha0, ha1, hF, hb⟩ := hrel
      have HF := Lib.hid hF; have HB := Lib.hid hb; clear hF hb
      by_cases hlt : k < 4
      · have hxl : k < xs.length := by rw [H4.out]; exact hlt
        have hbW : Below w.heap.size w wr := (((Below.refl _ w).alloc (Nat.le_refl _) (.cells (xs.map Value.string).toArray 9))).trans (HB.out.mono (by omega))
        have HBW := Lib.hid hbW; clear hbW
        have hcell : wr.cell? ⟨w.heap.size, k, none⟩ = some (.string xs[k]!) := by
          rw [HB.out.cell (p := ⟨w.heap.size, k, none⟩) (by show w.heap.size < w.heap.size + 1; omega), getElem!_pos xs k hxl]
          simp [hxl]
        have hxs : xs[k]!.size ≤ s.size := by rw [getElem!_pos xs k hxl]; exact HS.out _ (List.getElem_mem hxl)
        have cD := fun W (hW : Env W) => decimal_any xs[k]! (by omega) 255 (by omega) (by omega) W hW
        clear hxl hxs
        have hr := decP_range xs[k]!.data.toList
        by_cases hneg : decP xs[k]!.data.toList 255 < 0
        · have HR := Lib.hid (foldB_stop acc xs k (by rw [H4.out]; exact hlt) hneg)
          generalize xs[k]! = x at *
          generalize decP x.data.toList 255 = n at *
          go_wp2_with (go_at_call 243; refine (cD _ (hE.later HBW.out)).mono ?_; rintro e w2 ⟨rfl, hb2⟩)
          go_ret2
          exact RetA.no (HBW.out.trans (hb2.mono HBW.out.size)) (by rw [HA2.out, HF.out, HR.out])
        · have HR := Lib.hid (foldB_drop acc xs k (by rw [H4.out]; exact hlt) (by omega))
          have hn0 : 0 ≤ decP xs[k]!.data.toList 255 := by omega
          generalize xs[k]! = x at *
          generalize decP x.data.toList 255 = n at *
          go_wp2_with (go_at_call 243; refine (cD _ (hE.later HBW.out)).mono ?_; rintro e w2 ⟨rfl, hb2⟩)
          go_roundw
          case rel =>
            have hp := pow_le3 k hlt
            have hq := HB.out.size
            simp only [World.size_alloc] at hq
            exact ⟨k + 1, stA acc n, by go_num, by rw [or_st acc n ha0 (by omega) hn0 hr.2], by omega, by unfold stA; omega, by unfold stA; rw [Int.pow_succ]; omega, by rw [HF.out, HR.out], HB.out.trans (hb2.mono hq)⟩
          case measure => simp [RowKit.intOf]; omega
      · obtain rfl : k = 4 := by omega
        have HQ : Hid (foldB acc (xs.drop 4) = some acc) := Lib.hid (by rw [List.drop_of_length_le (by rw [H4.out]; exact Nat.le_refl _)]; rfl)
        go_wp2
        go_ret2
        exact RetA.yes ((((Below.refl _ w).alloc (Nat.le_refl _) (.cells (xs.map Value.string).toArray 9))).trans (HB.out.mono (by omega))) (by rw [HA2.out, HF.out, HQ.out])
  · have HA2 : Hid (adr s = none) := Lib.hid (by rw [HA.out, if_pos h4])
    have hd : (((xs.length : Nat) : Int) != 4) = true := by simp; omega
    clear HA h4
    go_enter Tryz.func229, Tryz.ntmps229
    go_wp2_with (go_at_call 242; refine cS.mono ?_; rintro e w1 ⟨rfl, rfl⟩)
    go_ret2
    exact RetA.no ((Below.refl _ w).alloc (Nat.le_refl _) _) HA2.out

theorem digest_any (s : ByteArray) (w : World) : Calls Tryz.prog 228 #[.string s] w (RetB w (digestP s)) := by
  have cI : Calls Tryz.prog 241 #[.string s, .string ⟨#[58]⟩] w _ := Tryz.strings_Index_one s 58 w
  rw [indexByte_until] at cI
  have hl : s.data.toList.length = s.size := by simp
  have hle := untilN_le 58 s.data.toList
  rw [hl] at cI hle
  have HD := Lib.hid (show digestP s = (decide (0 < untilN 58 s.data.toList) && decide (untilN 58 s.data.toList < s.size)) from rfl)
  clear hl
  generalize untilN 58 s.data.toList = n at *
  by_cases h : n = s.size
  · rw [if_pos h] at cI
    go_enter Tryz.func228, Tryz.ntmps228
    clear hle
    have H := Lib.hid h; clear h
    go_wp2_with (go_at_call 241; refine cI.mono ?_; rintro e w1 ⟨rfl, rfl⟩)
    go_ret
    exact RetB.mk (Below.refl _ _) (by rw [HD.out, H.out]; simp)
  · rw [if_neg h] at cI
    have h2 : n < s.size := by omega
    by_cases h0 : 0 < n
    all_goals
      go_enter Tryz.func228, Tryz.ntmps228
      go_wp2_with (go_at_call 241; refine cI.mono ?_; rintro e w1 ⟨rfl, rfl⟩)
      go_ret
      exact RetB.mk (Below.refl _ _) (by rw [HD.out]; simp [h0, h2])
end Go.Proofs.YthpjneobmmpbnaaGreatDoor
