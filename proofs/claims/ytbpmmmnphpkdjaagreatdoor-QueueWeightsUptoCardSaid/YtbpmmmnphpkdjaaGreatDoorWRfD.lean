/- Two queues of a law's own, apart in memory: each call on one keeps the other. -/
import Derived.Test.YtbpmmmnphpkdjaaGreatDoorWVtr
import Derived.Test.YtbpmmmnphpkdjaaGreatDoorWRgtP
import Derived.Test.YtbpmmmnphpkdjaaGreatDoorWPlnD
import Derived.Test.YtbpmmmnphpkdjaaGreatDoorWNfc
import Derived.Test.YtbpmmmnphpkdjaaGreatDoorWRfB
namespace Go.Proofs.YtbpmmmnphpkdjaaGreatDoor
set_option linter.unusedSimpArgs false
set_option maxRecDepth 100000
set_option maxHeartbeats 20000000
open Go.RowKit Go.MapKept Go.Maps
section
variable {w0 w w' : World} {ba bb : Nat} {sa sb sa' : QuT} {xa xb : QuX} {Ra Rb : Nat → Prop}
end
open Go.RowKit Go.MapKept Go.Maps
theorem qhv {w : World} {g base k : Nat} {T : TypeId} (h : w.heap[g]? = some (.cells #[] T (0, 0))) (hb : base ≤ g) : w.ownsRow base T k (.slice (some ⟨g, 0, none⟩) 0 0) 0 [] :=
 ⟨by simp, .inr ⟨g, 0, #[], rfl, hb, h, Nat.le_refl _, by decide, by simp, by simp⟩⟩
section
variable {α : Type} [Inhabited α] {enc : α → List Value} {ST T : TypeId} {k bs : Nat} {z : Value}
theorem qjA (hu : Tryz.prog.underlying ST = some (.slice T)) (hin : (Tryz.prog.info? T).map (fun i => (i.zero, i.size, i.bytes)) = some (some z, k, bs)) (hsz : z.cells.size = k) (hlen : ∀ x, (enc x).length = k) (hpos : 0 < k) (hone : ∀ x u, u ∈ enc x → u.oneCell' = true)
  {w : World} (ty : TypeId) (b a0 : Addr) (m c' : Nat) (l : List α) (hsl : Sl w w.heap.size enc k (some a0) m l) (hm : 0 < m) (hmx : m ≤ 16777216) (hby : m * bs ≤ 140737488355328) :
  ∃ c2 w', (Builtin.append_ #[ST, ST] ty #[.slice (some b) 0 0, .slice (some a0) m c']).run Tryz.prog w = .ok (.slice (some ⟨w.heap.size, 0, none⟩) m c2) w' ∧ w'.ownsRow w.heap.size T k (.slice (some ⟨w.heap.size, 0, none⟩) m c2) m (l.flatMap enc) ∧ Below w.heap.size w w' := by
 obtain ⟨i0, hi0, hz0, hz1, hz2⟩ := qcj hin
 have hl : (l.flatMap enc).length = m * k := by rw [qch hlen, hsl.len]
 have hnews := Sl.news hlen hpos hsl
 have h1 : ∀ u ∈ l.flatMap enc, u.oneCell' = true := by
  intro u hu
  obtain ⟨x, _, hx⟩ := List.mem_flatMap.1 hu
  exact hone x u hx
 obtain ⟨v', w', hrun, r1, r2, _⟩ := run_append_own (P := Tryz.prog) w w.heap.size ST ty T i0 z k bs hu hi0 hz0 hz1 hz2 hsz hpos (.slice none 0 0) 0 [] (World.ownsRow_nil w _ _ k) a0 m c' (l.flatMap enc) hl hnews h1 (by unfold maxLen; omega) (by rw [Nat.zero_add]; exact hby) (Nat.le_refl _)
 have hr := run_append_nil (P := Tryz.prog) w ST ty T i0 z hu hi0 hz0 a0 m c' (l.flatMap enc) (by rw [hz1]; exact hl) hnews (by omega) (by omega) (by rw [hz2]; omega)
 have hg := run_append_grow (P := Tryz.prog) w ST ty T i0 z hu hi0 hz0 b 0 0 [] (by simp) (by simp) a0 m c' (l.flatMap enc) (by rw [hz1]; exact hl) hnews (by omega) (by omega) (growslice_fits (by omega) (by rw [Nat.zero_add, hz2]; exact hby))
 simp only [Nat.zero_add, List.nil_append, Array.empty_append] at hr hg hrun r1
 rw [hr] at hrun
 injection hrun with e1 e2
 subst e1; subst e2
 refine ⟨_, _, hg, r1, ?_⟩
 exact (Below.refl _ w).grown r2 (Nat.le_refl _) (fun j hj => by cases hj)
theorem qfi (E : Elem enc ST T k bs z) {ops : Array Oper} {o : Oper} {a : Act} {K : Act → World → Prop} {Q : Exit → Act → World → Prop} {E0 : Prop} {w : World} (hg : o.guard = none) (s x : Operand)
  (ho : o.op = .call { callee := .builtin .append, args := #[s, x], argTypes := #[ST, ST] }) (b : Addr) (hs : a.eval s = .slice (some b) 0 0) (a0 : Addr) (m c' : Nat) (l : List α) (hx : a.eval x = .slice (some a0) m c') (hsl : Sl w w.heap.size enc k (some a0) m l) (hm : 0 < m) (hn : m ≤ 16777216)
  (h : ∀ c2 w', w'.ownsRow w.heap.size T k (.slice (some ⟨w.heap.size, 0, none⟩) m c2) m (l.flatMap enc) → Below w.heap.size w w' → K (a.put o.dst (.slice (some ⟨w.heap.size, 0, none⟩) m c2)) w') : if Region.wanted o (yielded ops a.tmps) = true then Oper.wp Tryz.prog o a w K Q else E0 := by
 have hw : Region.wanted o (yielded ops a.tmps) = true := by simp [Region.wanted, hg]
 rw [if_pos hw]
 obtain ⟨c2, w', hr, h2, h3⟩ := qjA E.under E.info E.size E.len E.pos E.one (w := w) o.type b a0 m c' l hsl hm hn (by have := Nat.mul_le_mul hn E.small; omega)
 unfold Oper.wp execOp
 simp only [ho, resolve, invoke, builtin, Sem.run_bind, Sem.run_pure, Result.andThen_ok, List.map_toArray, List.map_cons, List.map_nil, hs, hx, hr]
 exact h c2 w' h2 h3
end
open Go.RowKit
def RiR (l : List IdV) (n : Nat) (w : World) (i : Value) (wr : World) : Prop := ∃ k : Nat, i = .int .i64 ↑k ∧ k ≤ n ∧ (∀ j, j < k → qbb l[j]! = true ∧ (l.take j).any (fun y => decide (y = l[j]!)) = false) ∧ Below w.heap.size w wr
def RjR (l : List IdV) (k : Nat) (w1 : World) (i : Value) (wr : World) : Prop := ∃ (j q : Nat), i = .int .i64 ↑j ∧ j ≤ k ∧ (∀ a, a < j → l[a]! ≠ l[k]!) ∧ wr = w1.drewN q
theorem qjI (A : Option Addr) (n c : Nat) (l : List IdV) (w : World) (hz : Sl w w.heap.size qaz 2 A n l) (hn : n ≤ 1048576) (hs : qhN l n 1048576) : Calls Tryz.prog 85 #[.slice A n c] w (qkX l w) := by
 have HZ := Lib.hid hz; have HS := Lib.hid hs; have HL := Lib.hid hz.len
 clear hz hs
 go_enter Tryz.func85, Tryz.ntmps85
 go_wp2_with fail
 go_loopw [3] (fun i wr => RiR l n w i wr) (fun i _ => n - (RowKit.intOf i).toNat)
 case atStart => exact ⟨0, rfl, Nat.zero_le _, fun j hj => absurd hj (by omega), Below.refl _ _⟩
 case round =>
  obtain ⟨k, rfl, hk, hall, hb⟩ := hrel
  have HA := Lib.hid hall; have HB := Lib.hid hb
  clear hall hb
  by_cases hkn : k < n
  ·have hkn2 : ((k : Nat) : Int) < (n : Int) := by omega
   obtain ⟨b, off, hA, hbl, x0, x1⟩ := SlId.at_ (HZ.out.below HB.out) hkn
   have HSM := Lib.hid (HS.out k hkn)
   have HI := Lib.hid (show qbb l[k]! = true → (l.take k).any (fun y => decide (y = l[k]!)) = false → ∀ j, j < k + 1 → qbb l[j]! = true ∧ (l.take j).any (fun y => decide (y = l[j]!)) = false from fun h1 h2 j hj => by rcases Nat.lt_succ_iff_lt_or_eq.1 hj with h | rfl; exact HA.out j h; exact ⟨h1, h2⟩)
   have HJ := Lib.hid (show qcf l → qbb l[k]! = true ∧ (l.take k).any (fun y => decide (y = l[k]!)) = false from fun h => h k (by rw [HL.out]; exact hkn))
   subst hA
   obtain ⟨zk, hzk⟩ : ∃ z, l[k]! = z := ⟨_, rfl⟩
   have HZK := Lib.hid hzk
   rw [hzk] at x0 x1
   clear hzk
   obtain ⟨s, t⟩ := zk
   have HSM2 := Lib.hid (show s.size ≤ 1048576 ∧ t.size ≤ 1048576 by have := HSM.out; rw [HZK.out] at this; exact this)
   have cI := qhW s t (Nat.le_trans HSM2.out.2 (by decide)) wr
   cases hid : qbb (s, t) with
   | false =>
    have HF := Lib.hid (show ¬ qcf l from fun h => by have := (HJ.out h).1; rw [HZK.out, hid] at this; cases this)
    rw [hid] at cI
    clear hid
    go_wp2_with fail
    refine cI.mono ?_
    rintro e w5 ⟨rfl, hb5⟩
    have HB5 := Lib.hid (HB.out.trans (hb5.mono HB.out.size))
    clear hb5
    go_wp2_with fail
    go_ret
    exact ⟨⟨false, rfl, by simp [HF.out]⟩, HB5.out⟩
   | true =>
    have HID := Lib.hid hid
    rw [hid] at cI
    clear hid
    go_wp2_with fail
    refine cI.mono ?_
    rintro e w5 ⟨rfl, hb5⟩
    have HB5 := Lib.hid (HB.out.trans (hb5.mono HB.out.size))
    clear hb5 x0 x1 cI
    go_wp2_with fail
    go_loopw [4] (fun i wr => RjR l k w5 i wr) (fun i _ => k - (RowKit.intOf i).toNat)
    case atStart => exact ⟨0, 0, rfl, Nat.zero_le _, fun a ha => absurd ha (by omega), rfl⟩
    case round =>
     obtain ⟨j, q, rfl, hj, hne, rfl⟩ := hrel
     have HNE := Lib.hid hne
     clear hne
     by_cases hjk : j < k
     ·have hjk2 : ((j : Nat) : Int) < (k : Int) := by omega
      have hjn : ((j : Nat) : Int) < (n : Int) := by omega
      obtain ⟨b2, off2, hA2, _, p0, p1⟩ := SlId.at_ (HZ.out.below HB5.out) (show j < n by omega)
      obtain ⟨b3, off3, hA3, _, r0, r1⟩ := SlId.at_ (HZ.out.below HB5.out) hkn
      injection hA2 with hA2
      injection hA2 with hA4 hA5
      subst hA4 hA5
      injection hA3 with hA3
      injection hA3 with hA4 hA5
      subst hA4 hA5
      rw [HZK.out] at r0 r1
      obtain ⟨zj, hzj⟩ : ∃ z, l[j]! = z := ⟨_, rfl⟩
      have HZJ := Lib.hid hzj
      rw [hzj] at p0 p1
      clear hzj
      obtain ⟨s', t'⟩ := zj
      cases hd : decide ((s', t') = (s, t)) with
      | true =>
       have HF := Lib.hid (show ¬ qcf l from fun h => by
        have h2 := (HJ.out h).2
        rw [List.any_eq_false] at h2
        have hll := HL.out
        refine h2 l[j]! ?_ (by rw [HZJ.out, HZK.out]; exact hd)
        rw [getElem!_pos l j (by omega)]
        exact List.mem_take_iff_getElem.2 ⟨j, by omega, rfl⟩)
       have hq := fun w : World => (eqId w s' t' s t).trans (by rw [hd] : _ = Result.ok (.bool true) w)
       clear hd
       go_wp2_with fail
       go_quiet (fail)
       go_wp2_with fail
       go_ret
       exact ⟨⟨false, rfl, by simp [HF.out]⟩, qac (qac HB5.out q) nq⟩
      | false =>
       have HN2 := Lib.hid (show ∀ a, a < j + 1 → l[a]! ≠ l[k]! from fun a ha => by
        rcases Nat.lt_succ_iff_lt_or_eq.1 ha with h | rfl
        ·exact HNE.out a h
        ·rw [HZJ.out, HZK.out]; exact of_decide_eq_false hd)
       have hq := fun w : World => (eqId w s' t' s t).trans (by rw [hd] : _ = Result.ok (.bool false) w)
       clear hd
       go_wp2_with fail
       go_quiet (fail)
       go_wp2_with fail
       go_roundw
       case rel => exact ⟨j + 1, q + nq, by go_num, by omega, HN2.out, by first | rfl | rw [World.drewN_drewN]⟩
       case measure => simp [RowKit.intOf]; omega
     ·have hjk2 : ¬ ((j : Nat) : Int) < (k : Int) := by omega
      have HANY := Lib.hid (show (l.take k).any (fun y => decide (y = l[k]!)) = false by
       rw [List.any_eq_false]
       intro y hy
       obtain ⟨a, ha, e⟩ := List.mem_take_iff_getElem.1 hy
       have h2 := HNE.out a (by omega)
       rw [getElem!_pos l a (by omega), e] at h2
       simpa using h2)
      have HI2 := Lib.hid (HI.out (by rw [HZK.out]; exact HID.out) HANY.out)
      go_wp2_with fail
      go_roundw
      case rel => exact ⟨k + 1, by go_num, by omega, HI2.out, qac HB5.out q⟩
      case measure => simp [RowKit.intOf]; omega
  ·have hkn2 : ¬ ((k : Nat) : Int) < (n : Int) := by omega
   have HT := Lib.hid (show qcf l from fun j hj => HA.out j (by rw [HL.out] at hj; omega))
   go_wp2_with fail
   go_ret
   exact ⟨⟨true, rfl, by simp [HT.out]⟩, HB.out⟩
open Classical in
theorem qgO (i tm : Int) (A : Option Addr) (n c : Nat) (l : List IdV) (w : World) (h : SesOk w (i, tm, A, n, c) l 1048576) : Calls Tryz.prog 45 #[.agg #[.int .i64 i, .int .i32 tm, .slice A n c]] w (RetB w (decide (qco (i, tm, l)))) := by
 obtain ⟨_, h2, h3, h4, h5, h6⟩ := h
 have hl : l.length = n := h3.len
 have hb0 : Below w.heap.size w (w.alloc (.cells #[.int .i64 i, .int .i32 tm, .slice A n c] 47)) := (Below.refl _ w).alloc (Nat.le_refl _) _
 obtain ⟨bb, HBB⟩ : ∃ bb, Hid (decide (qco (i, tm, l)) = bb) := ⟨_, Lib.hid rfl⟩
 rw [HBB.out]
 have HB := Lib.hid hb0
 by_cases hr : 0 < i ∧ 4 ≤ tm ∧ tm ≤ 1048576 ∧ n ≤ 16
 ·obtain ⟨r1, r2, r3, r4⟩ := hr
  have r5 : (n : Int) ≤ 16 := by omega
  have cI := qjI A n c l _ (h3.belowMore hb0 hb0.size) h5 h6
  have HRI := Lib.hid (show qco (i, tm, l) ↔ qcf l by
   show (0 < i ∧ 4 ≤ tm ∧ tm ≤ 1048576 ∧ l.length ≤ 16 ∧ qcf l) ↔ qcf l
   rw [hl]
   exact ⟨fun h => h.2.2.2.2, fun h => ⟨r1, r2, r3, r4, h⟩⟩)
  clear hb0 h3 h4 h6
  go_enter Tryz.func45, Tryz.ntmps45
  go_wp2_with fail
  refine cI.mono ?_
  rintro e w5 ⟨⟨b, rfl, hb⟩, hb5⟩
  have HB5 := Lib.hid (HB.out.trans (hb5.mono HB.out.size))
  have HE := Lib.hid (show b = bb by rw [← HBB.out, Bool.eq_iff_iff, decide_eq_true_iff, HRI.out]; exact hb)
  clear hb hb5
  cases b
  all_goals (
   go_wp2_with fail
   go_ret
   exact RetB.mk HB5.out HE.out)
 ·have HE := Lib.hid (show false = bb by
   rw [← HBB.out, eq_comm, decide_eq_false_iff_not]
   rintro ⟨a1, a2, a3, a4, _⟩
   exact hr ⟨a1, a2, a3, by rw [← hl]; exact a4⟩)
  have hc : ¬ 0 < i ∨ (0 < i ∧ ¬ 4 ≤ tm) ∨ (0 < i ∧ 4 ≤ tm ∧ ¬ tm ≤ 1048576) ∨ (0 < i ∧ 4 ≤ tm ∧ tm ≤ 1048576 ∧ ¬ (n : Int) ≤ 16) := by
   by_cases a1 : 0 < i
   ·by_cases a2 : 4 ≤ tm
    ·by_cases a3 : tm ≤ 1048576
     ·exact .inr (.inr (.inr ⟨a1, a2, a3, fun a4 => hr ⟨a1, a2, a3, by omega⟩⟩))
     ·exact .inr (.inr (.inl ⟨a1, a2, a3⟩))
    ·exact .inr (.inl ⟨a1, a2⟩)
   ·exact .inl a1
  clear hr hb0 h3 h4 h6 hl
  rcases hc with a1 | ⟨a1, a2⟩ | ⟨a1, a2, a3⟩ | ⟨a1, a2, a3, a4⟩
  all_goals (
   go_enter Tryz.func45, Tryz.ntmps45
   go_wp2_with fail
   go_ret
   exact RetB.mk HB.out HE.out)
open Go.RowKit Go.MapKept
open Classical in
/-- what the switch over types finds -/
noncomputable def swR (z : Int) (v : TxF) : Bool :=
 if v.n.ty = 120 then (!v.n.qh || decide (v.n.qc < -1) || decide (v.n.qb < -1)) else if v.n.ty = -10 then (decide (v.n.si ≠ 0) || !decide (qco (z, v.n.st, v.ids))) else if v.n.ty = -1 then decide (0 ≤ v.n.co) else false
noncomputable def oddR (z : Int) (v : TxF) : Bool := v.acl.any (fun a => !qeV a.2.1 || !qeV a.2.2) || qbR v.paths || swR z v
theorem qmG (s : ByteArray) : qaM s 0 = qeV s := by unfold qaM qeV; rw [List.drop_zero]
theorem qmB (v : TxF) (h : qbR v.paths = true) : v.paths ≠ [] := by
 intro e
 rw [e] at h
 revert h
 decide
theorem qnZ (z : Int) (v : TxF) (k : Nat) : (qbJ v k || oddR z v) = oddB z v k := by
 unfold oddB oddR swR
 cases ha : v.acl.any (fun a => !qeV a.2.1 || !qeV a.2.2) with
 | true => simp
 | false =>
  rw [Bool.false_or, Bool.false_or]
  cases hs : qbJ v k with
  | true => simp
  | false =>
   rw [Bool.false_or, Bool.false_or]
   by_cases h11 : v.n.ty = -11
   ·rw [if_pos h11, if_neg (by omega), if_neg (by omega), if_neg (by omega), Bool.or_false]
   ·rw [if_neg h11]
    have hf : qbR v.paths = false := by
     cases hf : qbR v.paths with
     | false => rfl
     | true =>
      have hp := qmB v hf
      have : qbJ v k = true := by
       unfold qbJ
       rw [decide_eq_false h11, decide_eq_true hp]
       simp
      rw [this] at hs; cases hs
    rw [hf, Bool.false_or]
theorem qjU (a b : ByteArray) (ha : a.size < 2147483648) (hb : b.size < 2147483648) (w : World) (q x : Nat) : Calls Tryz.prog 216 #[.string a, .string b] (w.drewN (q + x)) fun e w' => e = .returned (.int .i64 (cmpB a b)) ∧ ∃ n, w' = w.drewN (q + n) :=
 (qhY a b ha hb (w.drewN (q + x))).mono fun _ _ h => ⟨h.1, by
  obtain ⟨_, n, e⟩ := h
  exact ⟨x + n, by rw [e, World.drewN_drewN, Nat.add_assoc]⟩⟩
theorem qkf (z : Int) (h : TxH) (v : TxF) (w : World) (R : Nat → Prop) (hv : locTx w R h v) (hsm : TxSm 1048576 v h.s.2.1) (hz : in64 z) :
  Calls Tryz.prog 188 #[txV h, .int .i64 z] w (RetB w (oddR z v)) := by
 have hn := hv.1
 have hal := hv.2.2.1.len; have hpl := hv.2.2.2.2.len; have hil := hv.2.2.2.1.len
 have ha9 : h.a.2.1 ≤ 1048576 := by have := hsm.2.2.2.1; omega
 have hp9 : h.p.2.1 ≤ 1048576 := by have := hsm.2.2.2.2.2.1; omega
 have HAS := Lib.hid (fun j (hj : j < h.a.2.1) => (show v.acl[j]!.2.1.size ≤ 140737488355328 ∧ v.acl[j]!.2.2.size ≤ 140737488355328 by have := hsm.2.2.2.2.2.2.2.1 j (by omega); omega))
 have HPS := Lib.hid (fun j (hj : j < h.p.2.1) => (show v.paths[j]!.size < 2147483648 by have := hsm.2.2.2.2.2.2.2.2.2 j (by omega); omega))
 have HSS := Lib.hid (fun (V : World) (hV : Sl V V.heap.size qaz 2 h.i.1 h.i.2.1 v.ids) => (show SesOk V (z, h.n.st, h.i) v.ids 1048576 from ⟨hz, by have := hsm.1.2.2.2.2.2.2.2.1; rw [hn] at this; exact this, hV, hv.2.2.2.1.hd, by have := hsm.2.2.2.2.1; show h.i.2.1 ≤ _; omega, fun j hj => by have := hsm.2.2.2.2.2.2.2.2.1 j (by show j < _; have : j < h.i.2.1 := hj; omega); exact this⟩))
 have HSW := Lib.hid (show swR z v = if h.n.ty = 120 then (!h.n.qh || decide (h.n.qc < -1) || decide (h.n.qb < -1)) else if h.n.ty = -10 then (decide (h.n.si ≠ 0) || !(@decide (qco (z, h.n.st, v.ids)) (Classical.propDecidable _))) else if h.n.ty = -1 then decide (0 ≤ h.n.co) else false by unfold swR; rw [hn])
 have HD := Lib.hid (show oddR z v = (v.acl.any (fun a => !qeV a.2.1 || !qeV a.2.2) || qbR v.paths || swR z v) from rfl)
 have HAL := Lib.hid hal; have HPL := Lib.hid hpl
 clear hn hsm hz hal hpl hil
 have hb0 : Below w.heap.size w (w.alloc (.cells (rwTx h) 52)) := (Below.refl _ w).alloc (Nat.le_refl _) _
 have HG := Lib.hid (qab w (.cells (rwTx h) 52))
 have HZ := Lib.hid (sz1 w (.cells (rwTx h) 52))
 have HL := Lib.hid (hv.down hb0)
 have HB := Lib.hid hb0
 clear hb0
 unfold txV
 go_enter Tryz.func188, Tryz.ntmps188
 go_upto_region 1 with fail
 generalize w.alloc (.cells (rwTx h) 52) = W at *
 have HC0 := Lib.hid (show ∀ V : World, Below W.heap.size W V → V.cell? ⟨w.heap.size, 0, none⟩ = some (.int .i32 h.n.ty) from fun V hV => by rw [qaf ((hV.block _ (by have := HZ.out; omega)).trans HG.out)]; rfl)
 have HC3 := Lib.hid (show ∀ V : World, Below W.heap.size W V → V.cell? ⟨w.heap.size, 3, none⟩ = some (slV h.a) from fun V hV => by rw [qaf ((hV.block _ (by have := HZ.out; omega)).trans HG.out)]; rfl)
 have HC7 := Lib.hid (show ∀ V : World, Below W.heap.size W V → V.cell? ⟨w.heap.size, 7, none⟩ = some (.bool h.n.qh) from fun V hV => by rw [qaf ((hV.block _ (by have := HZ.out; omega)).trans HG.out)]; rfl)
 have HC8 := Lib.hid (show ∀ V : World, Below W.heap.size W V → V.cell? ⟨w.heap.size, 8, none⟩ = some (.int .i64 h.n.qc) from fun V hV => by rw [qaf ((hV.block _ (by have := HZ.out; omega)).trans HG.out)]; rfl)
 have HC9 := Lib.hid (show ∀ V : World, Below W.heap.size W V → V.cell? ⟨w.heap.size, 9, none⟩ = some (.int .i64 h.n.qb) from fun V hV => by rw [qaf ((hV.block _ (by have := HZ.out; omega)).trans HG.out)]; rfl)
 have HC10 := Lib.hid (show ∀ V : World, Below W.heap.size W V → V.cell? ⟨w.heap.size, 10, none⟩ = some (.int .i64 h.n.si) from fun V hV => by rw [qaf ((hV.block _ (by have := HZ.out; omega)).trans HG.out)]; rfl)
 have HC11 := Lib.hid (show ∀ V : World, Below W.heap.size W V → V.cell? ⟨w.heap.size, 11, none⟩ = some (.int .i32 h.n.st) from fun V hV => by rw [qaf ((hV.block _ (by have := HZ.out; omega)).trans HG.out)]; rfl)
 have HC12 := Lib.hid (show ∀ V : World, Below W.heap.size W V → V.cell? ⟨w.heap.size, 12, none⟩ = some (slV h.i) from fun V hV => by rw [qaf ((hV.block _ (by have := HZ.out; omega)).trans HG.out)]; rfl)
 have HC13 := Lib.hid (show ∀ V : World, Below W.heap.size W V → V.cell? ⟨w.heap.size, 13, none⟩ = some (slV h.p) from fun V hV => by rw [qaf ((hV.block _ (by have := HZ.out; omega)).trans HG.out)]; rfl)
 have HC14 := Lib.hid (show ∀ V : World, Below W.heap.size W V → V.cell? ⟨w.heap.size, 14, none⟩ = some (.int .i32 h.n.co) from fun V hV => by rw [qaf ((hV.block _ (by have := HZ.out; omega)).trans HG.out)]; rfl)
 generalize (Value.agg (rwTx h)) = arg0 at *
 have x3 := HC3.out W (Below.refl _ _)
 have HSA := Lib.hid (HL.out.2.2.1.sl (fun _ => by simp [qao]))
 have HSI := Lib.hid (HL.out.2.2.2.1.sl (fun _ => by simp [qaz]))
 have HSP := Lib.hid (HL.out.2.2.2.2.sl (fun _ => by simp [qay]))
 go_wp2_with fail
 go_loop [5] (fun i => ∃ j : Nat, i = .int .i64 ↑j ∧ j ≤ h.a.2.1 ∧ ∀ k, k < j → (!qeV v.acl[k]!.2.1 || !qeV v.acl[k]!.2.2) = false) (fun i => h.a.2.1 - (intOf i).toNat)
 case atStart => exact ⟨0, rfl, Nat.zero_le _, fun k hk => absurd hk (by omega)⟩
 case round =>
 obtain ⟨j, rfl, hj, hno⟩ := hrel
 have HNO := Lib.hid hno; clear hno
 by_cases hlt : j < h.a.2.1
 ·obtain ⟨b, off, eb, hbl, hcb⟩ := HSA.out.cells hlt
  have c1 : W.cell? ⟨b, off + j * 3 + 1, none⟩ = some (.string v.acl[j]!.2.1) := by have := hcb 1 _ rfl; simpa using this
  have c2 : W.cell? ⟨b, off + j * 3 + 2, none⟩ = some (.string v.acl[j]!.2.2) := by have := hcb 2 _ rfl; simpa using this
  have xs : W.cell? ⟨w.heap.size, 3, none⟩ = some (.slice (some ⟨b, off, none⟩) h.a.2.1 h.a.2.2) := by rw [HC3.out W (Below.refl _ _), ← eb]
  have hU1 := qeJ v.acl[j]!.2.1 (HAS.out j hlt).1 W
  have hU2 := qeJ v.acl[j]!.2.2 (HAS.out j hlt).2 W
  rw [qmG] at hU1 hU2
  have HBA := Lib.hid (fun (e : (!qeV v.acl[j]!.2.1 || !qeV v.acl[j]!.2.2) = true) => (show oddR z v = true by
   rw [HD.out, show v.acl.any (fun a => !qeV a.2.1 || !qeV a.2.2) = true from by
    rw [List.any_eq_true]
    exact ⟨_, List.getElem_mem (by rw [HAL.out]; exact hlt), by rw [← getElem!_pos v.acl j (by rw [HAL.out]; exact hlt)]; exact e⟩]
   rfl))
  have hji : (j : Int) < (h.a.2.1 : Int) := by omega
  have hj0 : (0 : Int) ≤ (j : Int) := by omega
  clear hcb hbl eb x3
  have HSTEP := Lib.hid (fun (e : (!qeV v.acl[j]!.2.1 || !qeV v.acl[j]!.2.2) = false) => (show ∀ k, k < j + 1 → (!qeV v.acl[k]!.2.1 || !qeV v.acl[k]!.2.2) = false from fun k hk => by
   rcases Nat.lt_succ_iff_lt_or_eq.1 hk with h3 | rfl
   ·exact HNO.out k h3
   ·exact e))
  generalize v.acl[j]!.2.1 = s1 at *
  generalize v.acl[j]!.2.2 = s2 at *
  cases h1 : qeV s1 with
  | false =>
   rw [h1] at hU1
   have HN := Lib.hid (HBA.out (by rw [h1]; rfl))
   have HU1 := Lib.hid hU1; clear hU1 hU2 h1 HBA HSTEP
   go_wp2_with fail
   refine HU1.out.mono ?_
   rintro e W ⟨rfl, rfl⟩
   go_wp2_with fail
   go_ret
   exact RetB.mk HB.out HN.out.symm
  | true =>
   rw [h1] at hU1
   cases h2 : qeV s2 with
   | false =>
    rw [h2] at hU2
    have HN := Lib.hid (HBA.out (by rw [h1, h2]; rfl))
    have HU1 := Lib.hid hU1; have HU2 := Lib.hid hU2; clear hU1 hU2 h1 h2 HBA HSTEP
    go_wp2_with fail
    refine HU1.out.mono ?_
    rintro e W ⟨rfl, rfl⟩
    go_wp2_with fail
    refine HU2.out.mono ?_
    rintro e W ⟨rfl, rfl⟩
    go_wp2_with fail
    go_ret
    exact RetB.mk HB.out HN.out.symm
   | true =>
    rw [h2] at hU2
    have HN := Lib.hid (HSTEP.out (by rw [h1, h2]; rfl))
    have HU1 := Lib.hid hU1; have HU2 := Lib.hid hU2; clear hU1 hU2 h1 h2 HBA HSTEP
    go_wp2_with fail
    refine HU1.out.mono ?_
    rintro e W ⟨rfl, rfl⟩
    go_wp2_with fail
    refine HU2.out.mono ?_
    rintro e W ⟨rfl, rfl⟩
    go_wp2_with fail
    go_round
    case rel => exact ⟨j + 1, by go_num, by omega, HN.out⟩
    case measure => simp [intOf]; omega
 obtain rfl : j = h.a.2.1 := by omega
 have HD2 := Lib.hid (show oddR z v = (qbR v.paths || swR z v) by
  rw [HD.out, show v.acl.any (fun a => !qeV a.2.1 || !qeV a.2.2) = false from by
   rw [List.any_eq_false]
   intro x hx
   obtain ⟨k, hk, rfl⟩ := List.getElem_of_mem hx
   have := HNO.out k (by rw [← HAL.out]; exact hk)
   rw [getElem!_pos v.acl k hk] at this
   rw [this]; decide]
  rfl)
 clear HD HNO hlt
 go_wp2_with fail
 go_loopw [6] (fun i wr => ∃ j q : Nat, i = .int .i64 ↑(j + 1) ∧ (j = 0 ∨ j < h.p.2.1) ∧ (∀ k, k < j → cmpB v.paths[k]! v.paths[k + 1]! < 0) ∧ wr = W.drewN q) (fun i _ => h.p.2.1 - (intOf i).toNat)
 case atStart => exact ⟨0, 0, rfl, .inl rfl, fun k hk => absurd hk (by omega), rfl⟩
 case round =>
 obtain ⟨j, q, rfl, hj, hno, rfl⟩ := hrel
 have HNO := Lib.hid hno; clear hno
 clear x3
 have x13 : W.cell? ⟨w.heap.size, 13, none⟩ = some (slV h.p) := HC13.out W (Below.refl _ _)
 by_cases hlt : j + 1 < h.p.2.1
 ·obtain ⟨b, off, eb, hbl, hcb⟩ := HSP.out.cells hlt
  have hc2 := HSP.out
  have hc0 : ∀ i u, (qay v.paths[j]!)[i]? = some u → W.cell? ⟨b, off + j * 1 + i, none⟩ = some u := by
   obtain ⟨b', off', eb', _, hcb'⟩ := HSP.out.cells (show j < h.p.2.1 by omega)
   rw [eb] at eb'; injection eb' with e1; injection e1 with e2 e3
   subst e2 e3
   exact hcb'
  have c1 : W.cell? ⟨b, off + j, none⟩ = some (.string v.paths[j]!) := by have := hc0 0 _ rfl; simpa using this
  have c2 : W.cell? ⟨b, off + (j + 1), none⟩ = some (.string v.paths[j + 1]!) := by have := hcb 0 _ rfl; simpa using this
  have xs : W.cell? ⟨w.heap.size, 13, none⟩ = some (.slice (some ⟨b, off, none⟩) h.p.2.1 h.p.2.2) := by rw [x13, ← eb]
  have HO := Lib.hid (fun x => qjU v.paths[j]! v.paths[j + 1]! (HPS.out j (by omega)) (HPS.out (j + 1) hlt) W q x)
  have HFA := Lib.hid (fun (e : 0 ≤ cmpB v.paths[j]! v.paths[j + 1]!) => (show oddR z v = true by
   rw [HD2.out, show qbR v.paths = true from by
    unfold qbR
    rw [List.any_eq_true]
    exact ⟨j, List.mem_range.2 (by rw [HPL.out]; omega), decide_eq_true e⟩]
   rfl))
  have HSTEP := Lib.hid (fun (e : cmpB v.paths[j]! v.paths[j + 1]! < 0) => (show ∀ k, k < j + 1 → cmpB v.paths[k]! v.paths[k + 1]! < 0 from fun k hk => by
   rcases Nat.lt_succ_iff_lt_or_eq.1 hk with h3 | rfl
   ·exact HNO.out k h3
   ·exact e))
  have hw1 : IntKind.i64.wrap (j : Int) = (j : Int) := by rw [IntKind.wrap_i64]; omega
  have hw2 : (0 : Int) ≤ (j : Int) + 1 ∧ (j : Int) + 1 < (h.p.2.1 : Int) := by omega
  have hw3 : ((j : Int) + 1).toNat = j + 1 := by omega
  have hw4 : (0 : Int) ≤ (j : Int) ∧ (j : Int) < (h.p.2.1 : Int) := by omega
  have hji : (j : Int) < (h.p.2.1 : Int) := by omega
  have hj0 : (0 : Int) ≤ (j : Int) := by omega
  clear hcb hc0 hc2 hbl eb x13 hj
  generalize v.paths[j]! = p1 at *
  generalize v.paths[j + 1]! = p2 at *
  generalize cmpB p1 p2 = cc at *
  by_cases hc : 0 ≤ cc
  ·have d1 : decide (0 ≤ cc) = true := decide_eq_true hc
   have HN := Lib.hid (HFA.out hc)
   clear hc HFA HSTEP
   go_wp2_with fail
   go_quiet (exact HO.out _)
   go_wp2_with fail
   go_ret
   exact RetB.mk (qac (qac HB.out _) _) HN.out.symm
  ·have d1 : decide (0 ≤ cc) = false := decide_eq_false hc
   have HN := Lib.hid (HSTEP.out (by omega))
   clear hc HFA HSTEP
   go_wp2_with fail
   go_quiet (exact HO.out _)
   go_wp2_with fail
   go_roundw
   case rel => exact ⟨j + 1, _, by go_num, .inr (by omega), HN.out, by (try simp only [World.drewN_drewN]); rfl⟩
   case measure => simp [intOf]; omega
 have HD3 := Lib.hid (show oddR z v = swR z v by
  rw [HD2.out, show qbR v.paths = false from by
   unfold qbR
   rw [List.any_eq_false]
   intro k hk
   have hk' := List.mem_range.1 hk
   rw [HPL.out] at hk'
   have := HNO.out k (by omega)
   show ¬ decide (0 ≤ cmpB v.paths[k]! v.paths[k + 1]!) = true
   rw [decide_eq_true_eq]; omega]
  rfl)
 clear HD2 HNO
 have HBQ := Lib.hid (qbl W q)
 have y0 := HC0.out _ HBQ.out; have y7 := HC7.out _ HBQ.out; have y8 := HC8.out _ HBQ.out; have y9 := HC9.out _ HBQ.out; have y10 := HC10.out _ HBQ.out; have y11 := HC11.out _ HBQ.out; have y12 := HC12.out _ HBQ.out; have y13 := HC13.out _ HBQ.out; have y14 := HC14.out _ HBQ.out
 have HB2 := Lib.hid (HB.out.trans (HBQ.out.mono HB.out.size))
 have HSI2 := Lib.hid (HSI.out.belowMore HBQ.out HBQ.out.size)
 clear x13 HBQ HB HSI HSP HSA HG HZ HL
 clear HC0 HC3 HC7 HC8 HC9 HC10 HC11 HC12 HC13 HC14
 generalize W.drewN q = V at *
 have hlt2 : decide (j + 1 < h.p.2.1) = false := decide_eq_false hlt
 have hjb : (j : Int) ≤ 1048576 := by rcases hj with e | e <;> omega
 by_cases h120 : h.n.ty = 120
 ·rw [if_pos h120] at HSW
  have t1 : (h.n.ty == 120) = true := by rw [h120]; rfl
  clear h120
  cases hqh : h.n.qh with
  | false =>
   rw [hqh] at y7
   have HN := Lib.hid (show oddR z v = true by rw [HD3.out, HSW.out, hqh]; rfl)
   clear hqh
   go_wp2_with fail
   go_ret
   exact RetB.mk HB2.out HN.out.symm
  | true =>
   rw [hqh] at y7
   by_cases hqc : h.n.qc < -1
   ·have d1 : decide (h.n.qc < -1) = true := decide_eq_true hqc
    have HN := Lib.hid (show oddR z v = true by rw [HD3.out, HSW.out, hqh, d1]; rfl)
    clear hqh hqc
    go_wp2_with fail
    go_ret
    exact RetB.mk HB2.out HN.out.symm
   ·have d1 : decide (h.n.qc < -1) = false := decide_eq_false hqc
    have HN := Lib.hid (show oddR z v = decide (h.n.qb < -1) by rw [HD3.out, HSW.out, hqh, d1]; rfl)
    clear hqh hqc
    go_wp2_with fail
    go_ret
    exact RetB.mk HB2.out HN.out.symm
 rw [if_neg h120] at HSW
 have t1 : (h.n.ty == 120) = false := beq_eq_false_iff_ne.2 h120
 by_cases h10 : h.n.ty = -10
 ·rw [if_pos h10] at HSW
  have t2 : (h.n.ty == -10) = true := by rw [h10]; rfl
  clear h10 h120
  have hbs : Below V.heap.size V (V.alloc (.cells #[.int .i64 z, .int .i32 h.n.st, slV h.i] 47)) := (Below.refl _ V).alloc (Nat.le_refl _) _
  have y10' := qaC y10 hbs
  by_cases hsi : h.n.si ≠ 0
  ·have d1 : (h.n.si != 0) = true := bne_iff_ne.2 hsi
   have HN := Lib.hid (show oddR z v = true by rw [HD3.out, HSW.out, decide_eq_true hsi]; rfl)
   have HB4 := Lib.hid (HB2.out.trans ((show Below V.heap.size V (V.alloc (.cells #[.int .i64 z, .int .i32 h.n.st, slV h.i] 47)) from (Below.refl _ V).alloc (Nat.le_refl _) _).mono HB2.out.size))
   clear hsi
   go_wp2_with fail
   go_ret
   exact RetB.mk HB4.out HN.out.symm
  ·have d1 : (h.n.si != 0) = false := by simpa using hsi
   have HN := Lib.hid (show oddR z v = !(@decide (qco (z, h.n.st, v.ids)) (Classical.propDecidable _)) by rw [HD3.out, HSW.out, decide_eq_false hsi]; rfl)
   have HB4 := Lib.hid (HB2.out.trans (hbs.mono HB2.out.size))
   have HR := Lib.hid (qgO z h.n.st h.i.1 h.i.2.1 h.i.2.2 v.ids _ (HSS.out _ (HSI2.out.belowMore hbs hbs.size)))
   clear hsi hbs
   go_wp2_with fail
   refine HR.out.mono ?_
   rintro e w5 ⟨rfl, hb5⟩
   have HB5 := Lib.hid (HB4.out.trans (hb5.mono HB4.out.size)); clear hb5
   go_wp2_with fail
   go_ret
   refine RetB.mk HB5.out (Eq.trans ?_ HN.out.symm)
   by_cases hr : qco (z, h.n.st, v.ids)
   ·simp [hr]
   ·simp [hr]
 rw [if_neg h10] at HSW
 have t2 : (h.n.ty == -10) = false := beq_eq_false_iff_ne.2 h10
 by_cases h1 : h.n.ty = -1
 ·rw [if_pos h1] at HSW
  have t3 : (h.n.ty == -1) = true := by rw [h1]; rfl
  have HN := Lib.hid (show oddR z v = decide (0 ≤ h.n.co) by rw [HD3.out, HSW.out])
  clear h1 h10 h120
  go_wp2_with fail
  go_ret
  exact RetB.mk HB2.out HN.out.symm
 ·rw [if_neg h1] at HSW
  have t3 : (h.n.ty == -1) = false := beq_eq_false_iff_ne.2 h1
  have HN := Lib.hid (show oddR z v = false by rw [HD3.out, HSW.out])
  clear h1 h10 h120
  go_wp2_with fail
  go_ret
  exact RetB.mk HB2.out HN.out.symm
end Go.Proofs.YtbpmmmnphpkdjaaGreatDoor
