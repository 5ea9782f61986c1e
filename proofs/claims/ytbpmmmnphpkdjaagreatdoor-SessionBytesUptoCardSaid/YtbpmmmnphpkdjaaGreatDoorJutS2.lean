/- The walks of the document's Reader: fail, Take, Int, Long, Buffer as text, Text, Count. Condition: at most 2^20 bytes. The walk of the document's Reader's Count. Condition: at most 2^20 bytes. -/
import Derived.Test.YtbpmmmnphpkdjaaGreatDoorJutT
import Derived.Test.YtbpmmmnphpkdjaaGreatDoorRefA6
import Derived.Deep.RegionLaw
namespace Go.Proofs.YtbpmmmnphpkdjaaGreatDoor
open Go.RowKit Go.MapKept Go.Maps
/-- the document's Reader that stands at q; e: how it failed -/
structure Rf (w : World) (rb : Nat) (A : Option Addr) (n c : Nat) (l : Bs) (q : Nat) (e : Int) : Prop where
  cell : w.heap[rb]? = some (.cells #[.slice A n c, .int .i64 (q : Int), .int .i64 e] 121 (0, 0))
  sl : Sl w rb enc8 1 A n l
  at_ : q ≤ n
  small : n ≤ 1048576
  cap : n ≤ c
  nil : A = none → n = 0 ∧ c = 0
section
variable {w w' : World} {rb n c q : Nat} {A : Option Addr} {l : Bs} {e : Int}
theorem Rf.lt (h : Rf w rb A n c l q e) : rb < w.heap.size := (Array.getElem?_eq_some_iff.1 h.cell).1
theorem Rf.c0 (h : Rf w rb A n c l q e) : w.cell? ⟨rb, 0, none⟩ = some (.slice A n c) := by rw [cellH h.cell]; rfl
theorem Rf.c1 (h : Rf w rb A n c l q e) : w.cell? ⟨rb, 1, none⟩ = some (.int .i64 (q : Int)) := by rw [cellH h.cell]; rfl
theorem Rf.c2 (h : Rf w rb A n c l q e) : w.cell? ⟨rb, 2, none⟩ = some (.int .i64 e) := by rw [cellH h.cell]; rfl
theorem Rf.f1 (h : Rf w rb A n c l q e) (o : Nat) : w.frozen? ⟨rb, o, none⟩ = false := by simp [World.frozen?, h.cell]
theorem Rf.len (h : Rf w rb A n c l q e) : l.length = n := h.sl.len
theorem Rf.drewN (h : Rf w rb A n c l q e) (k : Nat) : Rf (w.drewN k) rb A n c l q e := ⟨h.cell, h.sl, h.at_, h.small, h.cap, h.nil⟩
theorem Rf.fr {own : List Nat} (h : Rf w rb A n c l q e) (hf : Fr own w w') (ho : ∀ g ∈ own, rb < g) : Rf w' rb A n c l q e :=
  ⟨(hf.block rb h.lt fun hm => absurd (ho _ hm) (by omega)).trans h.cell, h.sl.fr hf (Nat.le_of_lt h.lt) fun g hg => Nat.le_of_lt (ho g hg), h.at_, h.small, h.cap, h.nil⟩
theorem Rf.below (h : Rf w rb A n c l q e) (hb : Below w.heap.size w w') : Rf w' rb A n c l q e := h.fr (Fr.of_below (own := []) hb) (by simp)
theorem Rf.belowB {B : Nat} (h : Rf w rb A n c l q e) (hb : Below B w w') (hB : rb < B) : Rf w' rb A n c l q e :=
  ⟨(hb.block rb hB).trans h.cell, h.sl.below ⟨hb.os, hb.tape, hb.output, hb.size, fun g hg => hb.block g (by omega)⟩, h.at_, h.small, h.cap, h.nil⟩
/-- another place, another end -/
theorem Rf.set1 (h : Rf w rb A n c l q e) {q2 : Nat} (hq : q2 ≤ n) : Rf (w.setCell ⟨rb, 1, none⟩ (.int .i64 (q2 : Int))) rb A n c l q2 e ∧ Fr [rb] w (w.setCell ⟨rb, 1, none⟩ (.int .i64 (q2 : Int))) := by
  have hf := fr_setJ w rb 1 (.int .i64 (q2 : Int))
  exact ⟨⟨heap_setJ h.cell _, h.sl.fr hf (Nat.le_of_lt h.lt) (fun g hg => by rw [List.mem_singleton.1 hg]; exact Nat.le_refl _), hq, h.small, h.cap, h.nil⟩, hf⟩
theorem Rf.set2 (h : Rf w rb A n c l q e) (e2 : Int) : Rf (w.setCell ⟨rb, 2, none⟩ (.int .i64 e2)) rb A n c l q e2 ∧ Fr [rb] w (w.setCell ⟨rb, 2, none⟩ (.int .i64 e2)) := by
  have hf := fr_setJ w rb 2 (.int .i64 e2)
  exact ⟨⟨heap_setJ h.cell _, h.sl.fr hf (Nat.le_of_lt h.lt) (fun g hg => by rw [List.mem_singleton.1 hg]; exact Nat.le_refl _), h.at_, h.small, h.cap, h.nil⟩, hf⟩
theorem Rf.buf {m : Nat} (h : Rf w rb A n c l q e) (hm : q + m ≤ n) : BufAt rb ((l.drop q).take m) (.slice (if c = q then A else A.map (·.add q)) m (c - q)) w ∧ ((l.drop q).take m).length = m := by
  have hl := h.len
  have hlen : ((l.drop q).take m).length = m := by rw [List.length_take, List.length_drop]; omega
  refine ⟨⟨if c = q then A else A.map (·.add q), c - q, by rw [hlen], ?_, fun e => ?_, by rw [hlen]; have := h.cap; omega⟩, hlen⟩
  · rw [hlen]
    refine ⟨hlen, fun h0 => ?_⟩
    have hc := h.cap
    rw [if_neg (by omega)]
    obtain ⟨b, off, e, hb, hcl⟩ := h.sl.2 (by omega)
    refine ⟨b, off + q, by rw [e]; simp only [Option.map_some, Addr.add]; by_cases h0 : q = 0 <;> simp [h0], hb, fun j hj i u hu => ?_⟩
    have e1 : ((l.drop q).take m)[j]! = l[q + j]! := by
      rw [getElem!_pos _ j (by rw [hlen]; exact hj), getElem!_pos l (q + j) (by omega)]; simp
    have := hcl (q + j) (by omega) i u (by rw [← hu, e1])
    rw [← this]; congr 2; omega
  · have hn : A = none := by
      by_cases h1 : c = q
      · rw [if_pos h1] at e; exact e
      · rw [if_neg h1] at e; simpa using e
    obtain ⟨h1, h2⟩ := h.nil hn
    rw [hlen]; omega
end
/-- what a failed Reader reads: nothing -/
def stP {α : Type} (e : Int) (q : Nat) (x : PR α) : PR α := if e = 0 then x else .error (q, e)
/-- how a call of the document's Reader ends -/
def RfOut {α : Type} (rb : Nat) (A : Option Addr) (n c : Nat) (l : Bs) (w : World) (x : PR α) (R : α → Value → World → Prop) (Z : Value) (e : Ending) (w' : World) : Prop :=
  Fr [rb] w w' ∧ match x with
  | .ok (v, q) => (∃ u, e = .returned u ∧ R v u w') ∧ Rf w' rb A n c l q 0
  | .error (q, k) => k ≠ 0 ∧ e = .returned Z ∧ Rf w' rb A n c l q k
def numP (l : Bs) (m : Nat) (p : Nat) : PR Nat := (takeP l m p).then fun b a => .ok (beN b, a)
set_option maxRecDepth 100000 in
theorem rfFail_any {w : World} {rb n c q : Nat} {A : Option Addr} {l : Bs} (k : Int) (h : Rf w rb A n c l q 0) :
    Calls Tryz.prog 167 #[.pointer (some ⟨rb, 0, none⟩), .int .i64 k] w fun e w' => e = .returned (.tuple #[]) ∧ Rf w' rb A n c l q k ∧ Fr [rb] w w' := by
  have k2 := h.c2; have f2 := h.f1 2
  have HS := Lib.hid (h.set2 k)
  clear h
  go_enter Tryz.func167, Tryz.ntmps167
  go_wp2_with fail
  first | refine bodyPost_normal ?_ | skip
  all_goals first | exact ⟨rfl, .tuple #[], by simp [results, Tryz.results167, go_sem], rfl, HS.out⟩ | (refine bodyPost_ret (results_none rfl _ _ _) rfl ?_; exact ⟨rfl, HS.out⟩)
def TkR (l : Bs) (q m : Nat) (w : World) (x i : Value) (wr : World) : Prop := ∃ k : Nat, x = .int .u64 ((beN ((l.drop q).take k) : Nat) : Int) ∧ i = .int .i64 (k : Int) ∧ k ≤ m ∧ ∃ d, wr = w.drewN d
set_option maxRecDepth 100000 in
theorem rfTake_any {w : World} {rb n c q : Nat} {A : Option Addr} {l : Bs} {e : Int} (mi : Int) (m : Nat) (hmi : mi = (m : Int)) (hm8 : m ≤ 8) (h : Rf w rb A n c l q e) :
    Calls Tryz.prog 134 #[.pointer (some ⟨rb, 0, none⟩), .int .i64 mi] w (RfOut rb A n c l w (stP e q (numP l m q)) (fun v u _ => u = .int .u64 (v : Int)) (.int .u64 0)) := by
  subst hmi
  have H := Lib.hid h
  have k0 := h.c0; have k1 := h.c1; have k2 := h.c2; have f1 := h.f1 1
  have hs := h.small; have ha := h.at_; have hl := h.len
  clear h
  by_cases he : e = 0
  · subst he
    have hw : IntKind.i64.wrap ((n : Int) - (q : Int)) = (n : Int) - (q : Int) := IntWalk.i64_in _ (by omega)
    by_cases hm : q + m ≤ n
    · have hm2 : ¬ ((n : Int) - (q : Int)) < (m : Int) := by omega
      have HG := Lib.hid (show stP 0 q (numP l m q) = .ok (beN ((l.drop q).take m), q + m) by unfold stP numP takeP; rw [if_pos rfl, if_neg (by omega)]; rfl)
      have HS := Lib.hid (H.out.set1 hm)
      have HM := Lib.hid hm
      have HSl := Lib.hid H.out.sl
      clear hm
      go_enter Tryz.func134, Tryz.ntmps134
      go_wp2_with fail
      go_quiet (fail)
      go_wp2_with fail
      go_loopw [5, 6] (fun x i wr => TkR l q m w x i wr) (fun _ i _ => m - (RowKit.intOf i).toNat)
      case atStart => exact ⟨0, rfl, rfl, Nat.zero_le _, _, rfl⟩
      case round =>
        obtain ⟨k, rfl, rfl, hkm0, d, rfl⟩ := hrel
        by_cases hkm : k < m
        · have hlt : (k : Int) < (m : Int) := by omega
          obtain ⟨b, off, rfl, _, x0⟩ := HSl.out.at8 (j := q + k) (by have := HM.out; omega)
          have hk1 : q + k < l.length := by rw [hl]; have := HM.out; omega
          have hst : beN ((l.drop q).take (k + 1)) = beN ((l.drop q).take k) * 256 + l[q + k]!.toNat := by
            rw [List.take_succ_eq_append_getElem (by rw [List.length_drop]; omega), beN_snoc, getElem!_pos l (q + k) hk1, List.getElem_drop]
          have hx : beN ((l.drop q).take k) < 72057594037927936 := Nat.lt_of_lt_of_le (beN_lt _) (pow_le7 _ (by rw [List.length_take, List.length_drop]; omega))
          have hby := l[q + k]!.toNat_lt
          have hor := or_beN (beN ((l.drop q).take k)) l[q + k]!.toNat hx hby
          rw [← hst] at hor
          have hw2 : IntKind.i64.wrap ((q : Int) + (k : Int)) = (q : Int) + (k : Int) := IntWalk.i64_in _ (by omega)
          have hi1 : ¬ ((q : Int) + (k : Int)) < 0 := by omega
          have hi2 : ((q : Int) + (k : Int)) < (n : Int) := by have := HM.out; omega
          have hi3 : ((q : Int) + (k : Int)).toNat = q + k := by omega
          generalize l[q + k]!.toNat = y at *
          generalize hX : beN ((l.drop q).take k) = X at *
          clear hst
          generalize hY : beN ((l.drop q).take (k + 1)) = Y at *
          have HY := Lib.hid hY
          clear hY hX
          go_wp2_with fail
          go_quiet (fail)
          go_wp2_with fail
          go_roundw
          case rel => exact ⟨k + 1, by rw [HY.out]; exact congrArg _ hor, by go_num, by omega, _, rfl⟩
          case measure => simp [RowKit.intOf]; omega
        · have hlt : ¬ (k : Int) < (m : Int) := by omega
          have hkm2 : k = m := by omega
          subst hkm2
          have hw2 : IntKind.i64.wrap ((q : Int) + (k : Int)) = (q : Int) + (k : Int) := IntWalk.i64_in _ (by omega)
          have HS2 := Lib.hid ((H.out.drewN d).set1 HM.out)
          go_wp2_with fail
          go_ret
          rw [HG.out, ← Int.natCast_add]
          exact ⟨(Fr.drewJ w d).transJ HS2.out.2, ⟨_, rfl, rfl⟩, HS2.out.1⟩
    · have hm2 : ((n : Int) - (q : Int)) < (m : Int) := by omega
      have HG := Lib.hid (show stP 0 q (numP l m q) = .error (q, 20) by unfold stP numP takeP; rw [if_pos rfl, if_pos (by omega)]; rfl)
      go_enter Tryz.func134, Tryz.ntmps134
      go_wp2_with fail
      go_quiet (fail)
      go_wp2_with fail
      refine (rfFail_any 20 (H.out.drewN nq)).mono ?_
      rintro e w1 ⟨rfl, hr, hf⟩
      have HR := Lib.hid hr; have HF := Lib.hid hf
      clear hr hf
      go_wp2_with fail
      go_ret
      rw [HG.out]
      exact ⟨(Fr.drewJ w nq).transJ HF.out, by decide, rfl, HR.out⟩
  · have he2 : (e != 0) = true := by simpa using he
    have HG := Lib.hid (show stP e q (numP l m q) = .error (q, e) by unfold stP; rw [if_neg he])
    have HE := Lib.hid he
    clear he
    go_enter Tryz.func134, Tryz.ntmps134
    go_wp2_with fail
    go_ret
    rw [HG.out]
    exact ⟨Fr.refl _ _, HE.out, rfl, H.out⟩
theorem takeP_st {l : Bs} {m q : Nat} {e : Int} {α : Type} (f : Nat → α) : (stP e q (numP l m q)).then (fun v a => .ok (f v, a)) = stP e q ((takeP l m q).then fun b a => .ok (f (beN b), a)) := by
  unfold stP numP
  by_cases h : e = 0
  · rw [if_pos h, if_pos h]
    rcases takeP l m q with e | ⟨b, a⟩ <;> rfl
  · rw [if_neg h, if_neg h]; rfl
theorem numP_lt {l : Bs} {m q v a : Nat} {e : Int} (h : stP e q (numP l m q) = .ok (v, a)) : v < 256 ^ m := by
  unfold stP at h
  by_cases he : e = 0
  · rw [if_pos he] at h
    unfold numP at h
    rcases hT : takeP l m q with e | ⟨b, a'⟩
    · rw [hT] at h; cases h
    · rw [hT] at h
      injection h with h
      injection h with h _
      rw [← h, ← takeP_len hT]
      exact beN_lt b
  · rw [if_neg he] at h; cases h
set_option maxRecDepth 100000 in
theorem rfInt_any {w : World} {rb n c q : Nat} {A : Option Addr} {l : Bs} {e : Int} (h : Rf w rb A n c l q e) :
    Calls Tryz.prog 103 #[.pointer (some ⟨rb, 0, none⟩)] w (RfOut rb A n c l w (stP e q (intP l q)) (fun v u _ => u = .int .i32 v) (.int .i32 0)) := by
  have hN := rfTake_any 4 4 rfl (by decide) h
  have hG : stP e q (intP l q) = _ := (takeP_st (l := l) (m := 4) (q := q) (e := e) i32N).symm
  clear h
  go_enter Tryz.func103, Tryz.ntmps103
  rcases hT : stP e q (numP l 4 q) with ⟨q2, k⟩ | ⟨v, q2⟩
  · rw [hT] at hN hG
    have HN := Lib.hid hN; have HG := Lib.hid hG
    clear hN hG hT
    go_wp2_with fail
    refine HN.out.mono ?_
    rintro e2 w1 ⟨hf, hk, rfl, hr⟩
    have HR := Lib.hid hr; have HF := Lib.hid hf; have HK := Lib.hid hk
    clear hr hf hk
    go_wp2_with fail
    go_ret
    rw [HG.out]
    exact ⟨HF.out, HK.out, rfl, HR.out⟩
  · have hlt : v < 4294967296 := numP_lt hT
    rw [hT] at hN hG
    have HN := Lib.hid hN; have HG := Lib.hid hG
    have HC := Lib.hid (show wrap32 ((v : Int) % 4294967296) = i32N v by unfold i32N wrap32; split <;> omega)
    clear hN hG hT hlt
    go_wp2_with fail
    refine HN.out.mono ?_
    rintro e2 w1 ⟨hf, ⟨u, rfl, rfl⟩, hr⟩
    have HR := Lib.hid hr; have HF := Lib.hid hf
    clear hr hf
    go_wp2_with fail
    go_ret
    rw [HG.out]
    exact ⟨HF.out, ⟨_, rfl, congrArg (Value.int .i32) HC.out⟩, HR.out⟩
theorem wp_app8 {o : Oper} {a : Act} {K : Act → World → Prop} {Q : Exit → Act → World → Prop} {w : World} (s x : Operand)
    (ho : o.op = .call { callee := .builtin .append, args := #[s, x], argTypes := #[41, 41] }) (base : Nat) (A : Option Addr) (n c : Nat) (l : Bs) (hs : a.eval s = .slice A n c)
    (hown : w.ownsRow base 5 1 (.slice A n c) n (l.flatMap enc8)) (A' : Option Addr) (m c' : Nat) (l' : Bs) (hx : a.eval x = .slice A' m c') (hsl : Sl w w.heap.size enc8 1 A' m l')
    (hA' : A' = none → m = 0 ∧ c' = 0) (hn : n + m ≤ 16777216) (hbase : base ≤ w.heap.size)
    (h : ∀ A2 c2 w', w'.ownsRow base 5 1 (.slice A2 (n + m) c2) (n + m) ((l ++ l').flatMap enc8) → Below base w w' → K (a.put o.dst (.slice A2 (n + m) c2)) w') : Oper.wp Tryz.prog o a w K Q := by
  have hinfo : (Tryz.prog.info? 5).map (fun i => (i.zero, i.size, i.bytes)) = some (some (.int .u8 0), 1, 1) := by kernel_rfl
  obtain ⟨i0, hi0, hz0, hz1, hz2⟩ := info_partsI hinfo
  cases A' with
  | none =>
    obtain ⟨rfl, rfl⟩ := hA' rfl
    have hl0 : l' = [] := List.length_eq_zero_iff.1 hsl.len
    subst hl0
    have hrun := run_append_owned_none (P := Tryz.prog) (w := w) base 41 o.type 5 i0 1 Tryz.underlying41 hi0 _ n _ hown
    have h' := h A c w (by rw [List.append_nil]; exact hown) (Below.refl _ _)
    unfold Oper.wp
    simp [execOp, ho, resolve, invoke, builtin, hs, hx, hrun, Result.andThen]
    exact h'
  | some a0 =>
    refine wp_append_own w s x _ ho base 5 i0 _ 1 1 Tryz.underlying41 hi0 hz0 hz1 hz2 rfl (by decide) _ n _ hs hown a0 m c' (l'.flatMap enc8) hx (by rw [flat_len (k := 1) (fun _ => rfl), hsl.len]) (Sl.news (k := 1) (fun _ => rfl) (by decide) hsl) ?_ (by unfold maxLen; omega) (by omega) hbase ?_
    · intro u hu
      obtain ⟨x, _, hx⟩ := List.mem_flatMap.1 hu
      simp only [enc8, List.mem_singleton] at hx
      rw [hx]; rfl
    · intro v' w' h1 h2 _
      obtain ⟨A2, c2, rfl⟩ := own_formI h1
      refine h A2 c2 w' ?_ (own_belowG hown h2 hbase)
      rw [List.flatMap_append]; exact h1
theorem step_app8 {ops : Array Oper} {o : Oper} {a : Act} {K : Act → World → Prop} {Q : Exit → Act → World → Prop} {E : Prop} {w : World} (hg : o.guard = none) (s x : Operand)
    (ho : o.op = .call { callee := .builtin .append, args := #[s, x], argTypes := #[41, 41] }) (base : Nat) (A : Option Addr) (n c : Nat) (l : Bs) (hs : a.eval s = .slice A n c)
    (hown : w.ownsRow base 5 1 (.slice A n c) n (l.flatMap enc8)) (A' : Option Addr) (m c' : Nat) (l' : Bs) (hx : a.eval x = .slice A' m c') (hsl : Sl w w.heap.size enc8 1 A' m l')
    (hA' : A' = none → m = 0 ∧ c' = 0) (hn : n + m ≤ 16777216) (hbase : base ≤ w.heap.size)
    (h : ∀ A2 c2 w', w'.ownsRow base 5 1 (.slice A2 (n + m) c2) (n + m) ((l ++ l').flatMap enc8) → Below base w w' → K (a.put o.dst (.slice A2 (n + m) c2)) w') : if Region.wanted o (yielded ops a.tmps) = true then Oper.wp Tryz.prog o a w K Q else E := by
  have hw : Region.wanted o (yielded ops a.tmps) = true := by simp [Region.wanted, hg]
  rw [if_pos hw]
  exact wp_app8 s x ho base A n c l hs hown A' m c' l' hx hsl hA' hn hbase h
/-- a buffer, or a text -/
def bufP (l : Bs) (m : Nat) (tb : Bool) (q : Nat) : PR Bs := (bytesP l m q).then fun b a => if tb = true ∧ ¬ Lib.validD b = true then .error (q, 22) else .ok (b, a)
theorem bufP_text (l : Bs) (m q : Nat) : bufP l m true q = textP l m q := by
  unfold bufP textP
  rcases bytesP l m q with e | ⟨b, a⟩
  · rfl
  · show (if _ then _ else _) = (if _ then _ else _)
    by_cases h : Lib.validD b = true <;> simp [h]
theorem row8_low {w : World} {B B' n c : Nat} {A : Option Addr} {l : Bs} (h : Row8 w B A n c l) (hb : B' ≤ B) : Row8 w B' A n c l :=
  ⟨h.1, h.2.imp (fun x => x) fun ⟨g, cap, cur, a, b, r⟩ => ⟨g, cap, cur, a, Nat.le_trans hb b, r⟩⟩
theorem bytesP_big {l : Bs} {m q q2 : Nat} {z : Int} (h : intP l q = .ok (z, q2)) (hc : z < 0 ∨ (m : Int) < z) : bytesP l m q = .error (q, 22) := by
  unfold bytesP sizeP; rw [h]; simp [PR.then, hc]
theorem bytesP_end {l : Bs} {m q q2 Z : Nat} (h : intP l q = .ok ((Z : Int), q2)) (hc : ¬ m < Z) (hd : l.length - q2 < Z) : bytesP l m q = .error (q, 20) := by
  unfold bytesP sizeP; rw [h]; simp [PR.then, hc, hd, show ¬ (Z : Int) < 0 by omega]
theorem bytesP_fit {l : Bs} {m q q2 Z : Nat} (h : intP l q = .ok ((Z : Int), q2)) (hc : ¬ m < Z) (hd : ¬ l.length - q2 < Z) : bytesP l m q = .ok ((l.drop q2).take Z, q2 + Z) := by
  unfold bytesP sizeP; rw [h]; simp [PR.then, hc, hd, show ¬ (Z : Int) < 0 by omega]
set_option maxRecDepth 100000 in
set_option maxHeartbeats 1000000 in
theorem rfBuffer_any {w : World} {rb n c q : Nat} {A : Option Addr} {l : Bs} {e : Int} (mi : Int) (m : Nat) (hmi : mi = (m : Int)) (tb : Bool) (h : Rf w rb A n c l q e) :
    Calls Tryz.prog 168 #[.pointer (some ⟨rb, 0, none⟩), .int .i64 mi, .bool tb] w (RfOut rb A n c l w (stP e q (bufP l m tb q)) (fun b u w' => ∃ A2 c2, u = .slice A2 b.length c2 ∧ Row8 w' w.heap.size A2 b.length c2 b) (.slice none 0 0)) := by
  subst hmi
  have hN := rfInt_any h
  have HLt := Lib.hid h.lt
  have hs := h.small; have ha := h.at_; have hl := h.len
  have k1 := h.c1
  clear h
  go_enter Tryz.func168, Tryz.ntmps168
  go_wp2_with fail
  rcases hT : stP e q (intP l q) with ⟨q2, k⟩ | ⟨z, q2⟩
  · have HG := Lib.hid (show stP e q (bufP l m tb q) = .error (q2, k) by
      unfold stP at hT ⊢
      by_cases he : e = 0
      · rw [if_pos he] at hT ⊢
        unfold bufP bytesP sizeP; rw [hT]; rfl
      · rw [if_neg he] at hT ⊢
        injection hT with hT; rw [hT])
    rw [hT] at hN
    refine hN.mono ?_
    rintro e2 w1 ⟨hf, hk, rfl, hr⟩
    have c2 := hr.c2
    have hk2 : (k != 0) = true := by simpa using hk
    have HR := Lib.hid hr; have HF := Lib.hid hf; have HK := Lib.hid hk
    clear hr hf hk hN
    go_wp2_with fail
    go_ret
    rw [HG.out]
    exact ⟨HF.out, HK.out, rfl, HR.out⟩
  · have he : e = 0 := by
      by_cases he : e = 0
      · exact he
      · unfold stP at hT; rw [if_neg he] at hT; cases hT
    subst he
    have hI : intP l q = .ok (z, q2) := by unfold stP at hT; rwa [if_pos rfl] at hT
    obtain ⟨hq2, z1, z2⟩ := intP_ok hI
    have HQ2 := Lib.hid hq2
    have hq3 : q ≤ q2 := by omega
    clear hq2
    rw [hT] at hN
    refine hN.mono ?_
    rintro e2 w1 ⟨hf, ⟨u, rfl, rfl⟩, hr⟩
    have k0 := hr.c0; have k1b := hr.c1; have k2 := hr.c2; have f1 := hr.f1 1
    have hz : IntKind.i64.wrap z = z := IntWalk.i64_in _ (by omega)
    have hqn := hr.at_
    have HR := Lib.hid hr; have HF := Lib.hid hf
    have hw : IntKind.i64.wrap ((n : Int) - (q2 : Int)) = (n : Int) - (q2 : Int) := IntWalk.i64_in _ (by omega)
    -- a failure: back to the place, and the error
    have fin : ∀ (W : World) (k : Int), k ≠ 0 → stP 0 q (bufP l m tb q) = .error (q, k) → Rf W rb A n c l q2 0 → Fr [rb] w W → Rf (W.setCell ⟨rb, 1, none⟩ (.int .i64 (q : Int))) rb A n c l q 0 ∧
        ∀ W2, Rf W2 rb A n c l q k → Fr [rb] (W.setCell ⟨rb, 1, none⟩ (.int .i64 (q : Int))) W2 → RfOut rb A n c l w (stP 0 q (bufP l m tb q)) (fun b u w' => ∃ A2 c2, u = .slice A2 b.length c2 ∧ Row8 w' w.heap.size A2 b.length c2 b) (.slice none 0 0) (.returned (.slice none 0 0)) W2 := fun W k hk hG hr hf => by
      have hs := hr.set1 (q2 := q) (by omega)
      refine ⟨hs.1, fun W2 hr2 hf2 => ?_⟩
      rw [hG]
      exact ⟨(hf.transJ hs.2).transJ hf2, hk, rfl, hr2⟩
    have FIN := Lib.hid fin
    clear hr hf hN fin
    by_cases hc : z < 0 ∨ (m : Int) < z
    · have HG := Lib.hid (show stP 0 q (bufP l m tb q) = .error (q, 22) by
        unfold stP bufP; rw [if_pos rfl, bytesP_big hI hc]; rfl)
      obtain ⟨hf1, hf2⟩ := FIN.out w1 22 (by decide) HG.out HR.out HF.out
      have HA := Lib.hid hf1; have HB := Lib.hid hf2
      clear hf1 hf2
      rcases Int.lt_or_le z 0 with h0 | h0
      · go_wp2_with fail
        refine (rfFail_any 22 HA.out).mono ?_
        rintro e3 w3 ⟨rfl, hr3, hf3⟩
        have HE := Lib.hid (HB.out _ hr3 hf3)
        clear hr3 hf3
        go_wp2_with fail
        go_ret
        exact HE.out
      · have h1 : (m : Int) < z := by omega
        have h2 : ¬ z < 0 := by omega
        go_wp2_with fail
        refine (rfFail_any 22 HA.out).mono ?_
        rintro e3 w3 ⟨rfl, hr3, hf3⟩
        have HE := Lib.hid (HB.out _ hr3 hf3)
        clear hr3 hf3
        go_wp2_with fail
        go_ret
        exact HE.out
    · have h1 : ¬ (m : Int) < z := by omega
      have h2 : ¬ z < 0 := by omega
      obtain ⟨Z, hZ⟩ : ∃ Z : Nat, z = (Z : Int) := ⟨z.toNat, by omega⟩
      have HI := Lib.hid (show intP l q = .ok ((Z : Int), q2) by rw [← hZ]; exact hI)
      have HZZ := Lib.hid hZ
      have h4 : ¬ m < Z := by omega
      have HZn := Lib.hid (show ((n - q2 : Nat) < Z) ↔ (n : Int) - (q2 : Int) < z by omega)
      clear hc hT hI hZ
      by_cases hd : n - q2 < Z
      · have HG := Lib.hid (show stP 0 q (bufP l m tb q) = .error (q, 20) by
          unfold stP bufP; rw [if_pos rfl, bytesP_end HI.out h4 (by rw [hl]; omega)]; rfl)
        have h3 : ((n : Int) - (q2 : Int)) < z := HZn.out.1 hd
        go_wp2_with fail
        go_quiet (fail)
        obtain ⟨hf1, hf2⟩ := FIN.out (w1.drewN nq) 20 (by decide) HG.out (HR.out.drewN nq) (HF.out.transJ (Fr.drewJ _ nq))
        have HA := Lib.hid hf1; have HB := Lib.hid hf2
        clear hf1 hf2
        go_wp2_with fail
        refine (rfFail_any 20 HA.out).mono ?_
        rintro e3 w3 ⟨rfl, hr3, hf3⟩
        have HE := Lib.hid (HB.out _ hr3 hf3)
        clear hr3 hf3
        go_wp2_with fail
        go_ret
        exact HE.out
      · have h3 : ¬ ((n : Int) - (q2 : Int)) < z := fun h => hd (HZn.out.2 h)
        go_wp2_with fail
        go_quiet (fail)
        have HR1 := Lib.hid (HR.out.drewN nq)
        have HF1 := Lib.hid (HF.out.transJ (Fr.drewJ _ nq))
        clear k0 k1b k2 f1
        generalize w1.drewN nq = W1 at HR1 HF1 ⊢
        have k0 := HR1.out.c0; have k1b := HR1.out.c1; have k2 := HR1.out.c2; have f1 := HR1.out.f1 1
        have hB := bytesP_fit (m := m) HI.out h4 (by rw [hl]; omega)
        obtain ⟨hbuf, hbl⟩ := HR1.out.buf (m := Z) (by omega)
        obtain ⟨bs, hbs⟩ : ∃ bs, (l.drop q2).take Z = bs := ⟨_, rfl⟩
        rw [hbs] at hB hbuf hbl
        have hmid := slice_mid A n c q2 Z (by omega) HR1.out.cap
        rw [← HZZ.out] at hmid
        generalize (if c = q2 then A else A.map (·.add q2)) = A5 at hbuf hmid
        generalize c - q2 = c5 at hbuf hmid
        obtain ⟨A6, c6, e6, hsl6, hn6, hc6⟩ := hbuf
        injection e6 with e6 e6b e6c
        subst e6; subst e6c
        rw [hbl] at hsl6 hn6
        have hw3 : IntKind.i64.wrap ((q2 : Int) + z) = (q2 : Int) + z := IntWalk.i64_in _ (by have := HZZ.out; omega)
        have hcv := fun q => conv_sl (c := c5) (hsl6.drewN q)
        have HS6 := Lib.hid hsl6; have HN6 := Lib.hid hn6; have HBL := Lib.hid hbl; have HBP := Lib.hid hB
        have HQZ := Lib.hid (show q2 + Z ≤ n by omega)
        have hbs8 : (toBA bs).size ≤ 140737488355328 := by show bs.toArray.size ≤ _; rw [List.size_toArray, hbl]; omega
        have hvf : validFrom (toBA bs) 0 = Lib.validD bs := by unfold validFrom toBA; simp
        have hU := fun q => utf8_any (toBA bs) hbs8 (W1.drewN q)
        rw [hvf] at hU
        clear hsl6 hn6 hbl hB hc6 e6b hbs hbs8 hvf
        by_cases hv : tb = true ∧ ¬ Lib.validD bs = true
        · have HG := Lib.hid (show stP 0 q (bufP l m tb q) = .error (q, 22) by
            unfold stP bufP; rw [if_pos rfl, HBP.out]; exact if_pos hv)
          obtain ⟨rfl, hv⟩ := hv
          have hv2 : Lib.validD bs = false := by simpa using hv
          have HU := Lib.hid (show ∀ q, Calls Tryz.prog 196 #[.string (toBA bs)] (W1.drewN q) fun e w' => e = .returned (.bool false) ∧ ∃ n, w' = W1.drewN n from fun q => by
            refine (hU q).mono ?_
            rintro e w' ⟨rfl, rfl⟩
            exact ⟨by rw [hv2], q, rfl⟩)
          clear hv hv2 hU
          go_wp2_with fail
          go_quiet (with_reducible exact HU.out _)
          obtain ⟨hf1, hf2⟩ := FIN.out (W1.drewN nq) 22 (by decide) HG.out (HR1.out.drewN nq) (HF1.out.transJ (Fr.drewJ _ nq))
          have HA := Lib.hid hf1; have HB := Lib.hid hf2
          clear hf1 hf2
          go_wp2_with fail
          refine (rfFail_any 22 HA.out).mono ?_
          rintro e3 w3 ⟨rfl, hr3, hf3⟩
          have HE := Lib.hid (HB.out _ hr3 hf3)
          clear hr3 hf3
          go_wp2_with fail
          go_ret
          exact HE.out
        · have HG := Lib.hid (show stP 0 q (bufP l m tb q) = .ok (bs, q2 + Z) by
            unfold stP bufP; rw [if_pos rfl, HBP.out]; exact if_neg hv)
          go_upto_region 10 with fail
          go_cut [44] from 45 to 65 (fun v wx => v = .bool false ∧ ∃ d, wx = W1.drewN d)
          case first =>
            cases tb with
            | true =>
              have hv2 : Lib.validD bs = true := by simpa using hv
              have HU := Lib.hid (show ∀ q, Calls Tryz.prog 196 #[.string (toBA bs)] (W1.drewN q) fun e w' => e = .returned (.bool true) ∧ ∃ n, w' = W1.drewN n from fun q => by
                refine (hU q).mono ?_
                rintro e w' ⟨rfl, rfl⟩
                exact ⟨by rw [hv2], q, rfl⟩)
              clear hv hv2 hU
              go_quiet (with_reducible exact HU.out _)
              go_wp2_with fail
              go_meet
              exact ⟨rfl, nq, rfl⟩
            | false =>
              clear hv hU
              go_quiet (fail)
              go_wp2_with fail
              go_meet
              exact ⟨rfl, nq, rfl⟩
          case rest =>
          obtain ⟨rfl, d, rfl⟩ := hcut
          clear hU hv
          have HR2 := Lib.hid (HR1.out.drewN d)
          have HF2 := Lib.hid (HF1.out.transJ (Fr.drewJ _ d))
          have HSs := Lib.hid (show Sl (W1.drewN d) rb enc8 1 A5 Z bs from HS6.out)
          clear k0 k1b k2 f1 hcv
          generalize W1.drewN d = W2 at HR2 HF2 HSs ⊢
          have k0 := HR2.out.c0; have k1b := HR2.out.c1
          have hne : rb ≠ W2.heap.size := Nat.ne_of_lt HR2.out.lt
          have hal : Below W2.heap.size W2 (W2.alloc (.cells #[] 5)) := (Below.refl _ W2).alloc (Nat.le_refl _) _
          have HAL := Lib.hid hal
          have HO := Lib.hid (own_empty (T := 5) (k := 1) W2)
          have HSA := Lib.hid ((HSs.out.more (Nat.le_of_lt HR2.out.lt)).belowMore hal hal.size)
          have HNN := Lib.hid (show 0 + Z ≤ 16777216 by have := HQZ.out; omega)
          have ka0 : (W2.alloc (.cells #[] 5)).cell? ⟨rb, 0, none⟩ = some (.slice A n c) := (hal.cell (p := ⟨rb, 0, none⟩) HR2.out.lt).trans k0
          have ka1 : (W2.alloc (.cells #[] 5)).cell? ⟨rb, 1, none⟩ = some (.int .i64 (q2 : Int)) := (hal.cell (p := ⟨rb, 1, none⟩) HR2.out.lt).trans k1b
          clear hal
          go_upto_region 16 with fail
          go_cut [10] from 75 to 91 (fun v wx => ∃ A8 c8, v = .slice A8 Z c8 ∧ Row8 wx W2.heap.size A8 Z c8 bs ∧ Below W2.heap.size W2 wx)
          case first =>
            go_region_law (refine step_app8 rfl (.tmp 75) (.tmp 90) rfl W2.heap.size (some ⟨W2.heap.size, 0, none⟩) 0 0 [] (by simp [Act.eval, Act.put]) HO.out A5 Z c5 bs (by simp [Act.eval, Act.put]) HSA.out HN6.out HNN.out HAL.out.size ?_; intro A8 c8 w8 hv8 hb8)
            all_goals go_wp2_with fail
            all_goals go_meet
            all_goals exact ⟨A8, c8, rfl, by simpa [Row8] using hv8, ⟨hb8.os, hb8.tape, hb8.output, Nat.le_trans HAL.out.size hb8.size, fun g hg => (hb8.block g hg).trans (HAL.out.block g hg)⟩⟩
          case rest =>
          obtain ⟨A8, c8, rfl, hrow, hbw⟩ := hcut
          have HR9 := Lib.hid (HR2.out.below hbw)
          have HF9 := Lib.hid (HF2.out.transJ (Fr.of_below hbw))
          have HRow := Lib.hid hrow
          clear k0 k1b ka0 ka1 hrow hbw
          have k1 := HR9.out.c1; have f1 := HR9.out.f1 1
          have HS9 := Lib.hid (HR9.out.set1 HQZ.out)
          have HRow9 := Lib.hid (row8_low (own_fr HRow.out HS9.out.2 (by have := HR2.out.lt; simp; omega)) HF2.out.size)
          go_wp2_with fail
          go_ret
          rw [HZZ.out, ← Int.natCast_add, HG.out]
          exact ⟨HF9.out.transJ HS9.out.2, ⟨_, rfl, A8, c8, by rw [HBL.out]; rfl, by rw [HBL.out]; exact HRow9.out⟩, HS9.out.1⟩
set_option maxRecDepth 100000 in
theorem rfText_any {w : World} {rb n c q : Nat} {A : Option Addr} {l : Bs} {e : Int} (mi : Int) (m : Nat) (hmi : mi = (m : Int)) (h : Rf w rb A n c l q e) :
    Calls Tryz.prog 136 #[.pointer (some ⟨rb, 0, none⟩), .int .i64 mi] w (RfOut rb A n c l w (stP e q (textP l m q)) (fun b u _ => u = .string (toBA b)) (.string ⟨#[]⟩)) := by
  subst hmi
  have hN := rfBuffer_any _ m rfl true h
  rw [bufP_text] at hN
  clear h
  go_enter Tryz.func136, Tryz.ntmps136
  rcases hT : stP e q (textP l m q) with ⟨q2, k⟩ | ⟨b, q2⟩
  · rw [hT] at hN
    have HN := Lib.hid hN
    have hcn : ∀ w : World, (convert 41 9 (.slice none 0 0)).run Tryz.prog w = .ok (.string ⟨#[]⟩) w := fun w => Lib.run_convert_nil_bytes w 41 9 5 0 Tryz.underlying41 Tryz.underlying5 Tryz.underlying9
    clear hN hT
    go_wp2_with fail
    refine HN.out.mono ?_
    rintro e2 w1 ⟨hf, hk, rfl, hr⟩
    have HR := Lib.hid hr; have HF := Lib.hid hf; have HK := Lib.hid hk
    clear hr hf hk
    go_wp2_with fail
    go_ret
    exact ⟨HF.out, HK.out, rfl, HR.out⟩
  · rw [hT] at hN
    have HN := Lib.hid hN
    clear hN hT
    go_wp2_with fail
    refine HN.out.mono ?_
    rintro e2 w1 ⟨hf, ⟨u, rfl, A2, c2, rfl, hrow⟩, hr⟩
    have HR := Lib.hid hr; have HF := Lib.hid hf
    have hcv := conv_sl (c := c2) (Row8.sl hrow rfl)
    clear hr hf hrow
    go_wp2_with fail
    go_ret
    exact ⟨HF.out, ⟨_, rfl, rfl⟩, HR.out⟩
end Go.Proofs.YtbpmmmnphpkdjaaGreatDoor
namespace Go.Proofs.YtbpmmmnphpkdjaaGreatDoor
open Go.RowKit Go.MapKept Go.Maps
theorem countP_k {l : Bs} {m k q q2 z : Nat} (hs : sizeP l m q = .ok (z, q2)) : countP l m k q = if 1 ≤ k ∧ (l.length - q2) / k < z then .error (q, 20) else .ok (z, q2) := by
  unfold countP; rw [hs]; rfl
theorem sizeP_big {l : Bs} {m q q2 : Nat} {z : Int} (h : intP l q = .ok (z, q2)) (hc : z < 0 ∨ (m : Int) < z) : sizeP l m q = .error (q, 22) := by
  unfold sizeP; rw [h]; simp [PR.then, hc]
theorem sizeP_fit {l : Bs} {m q q2 Z : Nat} (h : intP l q = .ok ((Z : Int), q2)) (hc : ¬ m < Z) : sizeP l m q = .ok (Z, q2) := by
  unfold sizeP; rw [h]; simp [PR.then, hc, show ¬ (Z : Int) < 0 by omega]
set_option maxRecDepth 100000 in
set_option maxHeartbeats 1000000 in
theorem rfCount_any {w : World} {rb n c q : Nat} {A : Option Addr} {l : Bs} (mi : Int) (m : Nat) (hmi : mi = (m : Int)) (ki : Int) (k : Nat) (hki : ki = (k : Int)) (hk : 1 ≤ k) (hk2 : k ≤ 1048576) (h : Rf w rb A n c l q 0) :
    Calls Tryz.prog 135 #[.pointer (some ⟨rb, 0, none⟩), .int .i64 mi, .int .i64 ki] w (RfOut rb A n c l w (countP l m k q) (fun v u _ => u = .int .i64 (v : Int)) (.int .i64 0)) := by
  subst hmi; subst hki
  have hN := rfInt_any h
  have hs := h.small; have ha := h.at_; have hl := h.len
  have k1 := h.c1
  clear h
  go_enter Tryz.func135, Tryz.ntmps135
  go_wp2_with fail
  rcases hT : stP 0 q (intP l q) with ⟨q2, e0⟩ | ⟨z, q2⟩
  · have HG := Lib.hid (show countP l m k q = .error (q2, e0) by
      unfold stP at hT
      rw [if_pos rfl] at hT
      unfold countP sizeP; rw [hT]; rfl)
    rw [hT] at hN
    refine hN.mono ?_
    rintro e2 w1 ⟨hf, hk, rfl, hr⟩
    have c2 := hr.c2
    have hk2 : (e0 != 0) = true := by simpa using hk
    have HR := Lib.hid hr; have HF := Lib.hid hf; have HK := Lib.hid hk
    clear hr hf hk hN
    go_wp2_with fail
    go_ret
    rw [HG.out]
    exact ⟨HF.out, HK.out, rfl, HR.out⟩
  · have hI : intP l q = .ok (z, q2) := by unfold stP at hT; rwa [if_pos rfl] at hT
    obtain ⟨hq2, z1, z2⟩ := intP_ok hI
    have hq3 : q ≤ q2 := by omega
    clear hq2
    rw [hT] at hN
    refine hN.mono ?_
    rintro e2 w1 ⟨hf, ⟨u, rfl, rfl⟩, hr⟩
    have k0 := hr.c0; have k1b := hr.c1; have k2 := hr.c2; have f1 := hr.f1 1
    have hz : IntKind.i64.wrap z = z := IntWalk.i64_in _ (by omega)
    have hqn := hr.at_
    have HR := Lib.hid hr; have HF := Lib.hid hf
    have hw : IntKind.i64.wrap ((n : Int) - (q2 : Int)) = (n : Int) - (q2 : Int) := IntWalk.i64_in _ (by omega)
    have fin : ∀ (W : World) (e : Int), e ≠ 0 → countP l m k q = .error (q, e) → Rf W rb A n c l q2 0 → Fr [rb] w W → Rf (W.setCell ⟨rb, 1, none⟩ (.int .i64 (q : Int))) rb A n c l q 0 ∧
        ∀ W2, Rf W2 rb A n c l q e → Fr [rb] (W.setCell ⟨rb, 1, none⟩ (.int .i64 (q : Int))) W2 → RfOut rb A n c l w (countP l m k q) (fun v u _ => u = .int .i64 (v : Int)) (.int .i64 0) (.returned (.int .i64 0)) W2 := fun W e hk hG hr hf => by
      have hs := hr.set1 (q2 := q) (by omega)
      refine ⟨hs.1, fun W2 hr2 hf2 => ?_⟩
      rw [hG]
      exact ⟨(hf.transJ hs.2).transJ hf2, hk, rfl, hr2⟩
    have FIN := Lib.hid fin
    clear hr hf hN fin hT
    by_cases hc : z < 0 ∨ (m : Int) < z
    · have HG := Lib.hid (show countP l m k q = .error (q, 22) by
        unfold countP; rw [sizeP_big hI hc]; rfl)
      obtain ⟨hf1, hf2⟩ := FIN.out w1 22 (by decide) HG.out HR.out HF.out
      have HA := Lib.hid hf1; have HB := Lib.hid hf2
      clear hf1 hf2
      rcases Int.lt_or_le z 0 with h0 | h0
      · go_wp2_with fail
        refine (rfFail_any 22 HA.out).mono ?_
        rintro e3 w3 ⟨rfl, hr3, hf3⟩
        have HE := Lib.hid (HB.out _ hr3 hf3)
        clear hr3 hf3
        go_wp2_with fail
        go_ret
        exact HE.out
      · have h1 : (m : Int) < z := by omega
        have h2 : ¬ z < 0 := by omega
        go_wp2_with fail
        refine (rfFail_any 22 HA.out).mono ?_
        rintro e3 w3 ⟨rfl, hr3, hf3⟩
        have HE := Lib.hid (HB.out _ hr3 hf3)
        clear hr3 hf3
        go_wp2_with fail
        go_ret
        exact HE.out
    · have h1 : ¬ (m : Int) < z := by omega
      have h2 : ¬ z < 0 := by omega
      obtain ⟨Z, hZ⟩ : ∃ Z : Nat, z = (Z : Int) := ⟨z.toNat, by omega⟩
      have HS := Lib.hid (sizeP_fit (m := m) (show intP l q = .ok ((Z : Int), q2) by rw [← hZ]; exact hI) (by omega))
      have hk1 : ((k : Nat) : Int) ≥ 1 := by omega
      have hk0 : ¬ ((k : Nat) : Int) = 0 := by omega
      have hq : ((n : Int) - (q2 : Int)) / (k : Int) = (((n - q2) / k : Nat) : Int) := by
        rw [show (n : Int) - (q2 : Int) = ((n - q2 : Nat) : Int) by omega, ← Int.natCast_ediv]
      have hX : (n - q2) / k ≤ 1048576 := Nat.le_trans (Nat.div_le_self (n - q2) k) (by omega)
      have HZZ := Lib.hid hZ
      by_cases hd : (n - q2) / k < Z
      · have HG := Lib.hid (show countP l m k q = .error (q, 20) by
          rw [countP_k HS.out, if_pos ⟨hk, by rw [hl]; exact hd⟩])
        have h3 : (((n - q2) / k : Nat) : Int) < z := by omega
        have h5 : z > 0 := by have := Nat.zero_le ((n - q2) / k); omega
        have hqw : wrap64 (((n - q2) / k : Nat) : Int) = (((n - q2) / k : Nat) : Int) := by
          unfold wrap64
          generalize (n - q2) / k = X at hX ⊢
          omega
        generalize (n - q2) / k = X at hq h3 hd hqw hX
        clear hc hI hZ hd
        go_wp2_with fail
        go_quiet (fail)
        obtain ⟨hf1, hf2⟩ := FIN.out (w1.drewN nq) 20 (by decide) HG.out (HR.out.drewN nq) (HF.out.transJ (Fr.drewJ _ nq))
        have HA := Lib.hid hf1; have HB := Lib.hid hf2
        clear hf1 hf2
        go_wp2_with fail
        refine (rfFail_any 20 HA.out).mono ?_
        rintro e3 w3 ⟨rfl, hr3, hf3⟩
        have HE := Lib.hid (HB.out _ hr3 hf3)
        clear hr3 hf3
        go_wp2_with fail
        go_ret
        exact HE.out
      · have HG := Lib.hid (show countP l m k q = .ok (Z, q2) by
          rw [countP_k HS.out, if_neg (fun h => hd (by rw [hl] at h; exact h.2))])
        have hmz : (decide ((k : Int) ≥ 1)) = true := decide_eq_true hk1
        have h3 : ¬ (((n - q2) / k : Nat) : Int) < z := by omega
        have hqw : wrap64 (((n - q2) / k : Nat) : Int) = (((n - q2) / k : Nat) : Int) := by
          unfold wrap64
          generalize (n - q2) / k = X at hX ⊢
          omega
        generalize (n - q2) / k = X at hq h3 hd hqw hX
        clear hc hI hZ hd
        have h3b : decide ((X : Int) < z) = false := decide_eq_false h3
        rcases Int.lt_or_le 0 z with h5 | h5
        · have h5b : decide (z > 0) = true := decide_eq_true h5
          go_wp2_with fail
          go_quiet (fail)
          go_wp2_with fail
          go_ret
          rw [HG.out]
          exact ⟨HF.out.transJ (Fr.drewJ _ nq), ⟨_, rfl, congrArg (Value.int .i64) HZZ.out⟩, HR.out.drewN nq⟩
        · have h6 : ¬ z > 0 := by omega
          have h7 : decide (z > 0) = false := decide_eq_false h6
          have h8 : decide (0 < z) = false := decide_eq_false h6
          go_wp2_with fail
          go_quiet (fail)
          go_wp2_with fail
          go_ret
          rw [HG.out]
          exact ⟨HF.out.transJ (Fr.drewJ _ nq), ⟨_, rfl, congrArg (Value.int .i64) HZZ.out⟩, HR.out.drewN nq⟩
end Go.Proofs.YtbpmmmnphpkdjaaGreatDoor
