/- The walk of delta.plain: all fields but the parts are the same. -/
import Derived.Test.YtbpmmmnphpkdjaaGreatDoorWPln1
import Derived.Test.YtbpmmmnphpkdjaaGreatDoorWPln2
import Derived.Test.YtbpmmmnphpkdjaaGreatDoorWPln3
import Derived.Test.YtbpmmmnphpkdjaaGreatDoorWPln4
import Derived.Test.YtbpmmmnphpkdjaaGreatDoorWRfG
import Derived.Test.YtbpmmmnphpkdjaaGreatDoorWDltG
import Derived.Deep.Cut
import Derived.Deep.CutBlock
namespace Go.Proofs.YtbpmmmnphpkdjaaGreatDoor
set_option linter.unusedSimpArgs false
set_option maxRecDepth 100000
set_option maxHeartbeats 20000000
open Go.RowKit Go.MapKept
theorem Sl.heapEq {α : Type} [Inhabited α] {w w' : World} {B k n : Nat} {enc : α → List Value} {A : Option Addr} {zs : List α} (h : Sl w B enc k A n zs) (e : w'.heap = w.heap) : Sl w' B enc k A n zs :=
 h.keep fun p _ => by simp only [World.cell?, e]
theorem qoq {w : World} {R R' : Nat → Prop} {h k : TxH} {v u : TxF} (hv : locTx w R h v) (hu : locTx w R' k u) (m : Nat) (hm : m ≤ 281474976710656) (s1 : v.acl.length ≤ m ∧ v.ids.length ≤ m ∧ v.paths.length ≤ m) (s2 : u.acl.length ≤ m ∧ u.ids.length ≤ m ∧ u.paths.length ≤ m) (W : World) (hW : Below w.heap.size w W) :
  PlC W h k (decide (v.data = u.data)) (decide (v.acl = u.acl)) (decide (v.ids = u.ids)) (decide (v.paths = u.paths)) := by
 obtain ⟨_, v1, v2, v3, v4⟩ := hv
 obtain ⟨_, u1, u2, u3, u4⟩ := hu
 have a1 := (v1.sl (fun _ => by simp [enc8])).below hW; have b1 := (u1.sl (fun _ => by simp [enc8])).below hW
 have a2 := (v2.sl (fun _ => by simp [qao])).below hW; have b2 := (u2.sl (fun _ => by simp [qao])).below hW
 have a3 := (v3.sl (fun _ => by simp [qaz])).below hW; have b3 := (u3.sl (fun _ => by simp [qaz])).below hW
 have a4 := (v4.sl (fun _ => by simp [qay])).below hW; have b4 := (u4.sl (fun _ => by simp [qay])).below hW
 have l2 := v2.len; have l3 := v3.len; have l4 := v4.len; have m2 := u2.len; have m3 := u3.len; have m4 := u4.len
 exact ⟨fun X e => qgp _ _ _ _ _ _ _ _ X _ (a1.heapEq e) (b1.heapEq e) v1.hd.1 u1.hd.1,
  fun X e => qiN _ _ _ _ _ _ _ _ X _ (a2.heapEq e) (b2.heapEq e) (by omega) (by omega),
  fun X e => qgN _ _ _ _ _ _ _ _ X _ (a3.heapEq e) (b3.heapEq e) (by omega) (by omega),
  fun X e => qgf _ _ _ _ _ _ _ _ X _ (a4.heapEq e) (b4.heapEq e) (by omega) (by omega)⟩
theorem qli (h k : TxH) (bd ba bi bp : Bool) (w : World) (HC : PlC ((w.alloc (qba h)).alloc (qba k)) h k bd ba bi bp) : Calls Tryz.prog 178 #[txV h, txV k] w (PlR w (plB h k bd ba bi bp)) := by
 by_cases e0 : h.n.ty = k.n.ty
 case neg => exact qnw h k bd ba bi bp w (Lib.hid HC) e0
 by_cases e1 : h.n.path = k.n.path
 case neg => exact qnP h k bd ba bi bp w (Lib.hid HC) e0 e1
 cases bd with
 | false => exact qnH h k ba bi bp w (Lib.hid HC) e0 e1
 | true =>
 cases ba with
 | false => exact qof h k bi bp w (Lib.hid HC) e0 e1
 | true =>
 by_cases e4 : h.n.ow = k.n.ow
 case neg => exact qnq h k bi bp w (Lib.hid HC) e0 e1 e4
 by_cases e5 : h.n.ve = k.n.ve
 case neg => exact qnr h k bi bp w (Lib.hid HC) e0 e1 e4 e5
 by_cases e6 : h.n.cr = k.n.cr
 case neg => exact qnj h k bi bp w (Lib.hid HC) e0 e1 e4 e5 e6
 by_cases e7 : (h.n.qh, h.n.qc, h.n.qb) = (k.n.qh, k.n.qc, k.n.qb)
 case neg => exact qnT h k bi bp w (Lib.hid HC) e0 e1 e4 e5 e6 e7
 by_cases e8 : h.n.si = k.n.si
 case neg => exact qni h k bi bp w (Lib.hid HC) e0 e1 e4 e5 e6 e7 e8
 by_cases e9 : h.n.st = k.n.st
 case neg => exact qnu h k bi bp w (Lib.hid HC) e0 e1 e4 e5 e6 e7 e8 e9
 cases bi with
 | false => exact qlE h k bp w (Lib.hid HC) e0 e1 e4 e5 e6 e7 e8 e9
 | true =>
 cases bp with
 | false => exact qms h k  w (Lib.hid HC) e0 e1 e4 e5 e6 e7 e8 e9
 | true =>
 by_cases e12 : h.n.co = k.n.co
 case neg => exact qmo h k  w (Lib.hid HC) e0 e1 e4 e5 e6 e7 e8 e9 e12
 exact qlA h k w (Lib.hid HC) e0 e1 e4 e5 e6 e7 e8 e9 e12
theorem TxF.eq_iff (v u : TxF) : v = u ↔ v.n = u.n ∧ v.data = u.data ∧ v.acl = u.acl ∧ v.ids = u.ids ∧ v.paths = u.paths := by
 constructor
 ·intro e; rw [e]; simp
 ·intro ⟨a, b, c, d, e⟩; cases v; cases u; simp_all
theorem TxN.eq_iff (v u : TxN) : v = u ↔ v.ty = u.ty ∧ v.path = u.path ∧ v.ow = u.ow ∧ v.ve = u.ve ∧ v.cr = u.cr ∧ v.qh = u.qh ∧ v.qc = u.qc ∧ v.qb = u.qb ∧ v.si = u.si ∧ v.st = u.st ∧ v.co = u.co := by
 constructor
 ·intro e; rw [e]; simp
 ·intro ⟨a, b, c, d, e, f, g, h, i, j, k⟩; cases v; cases u; simp_all
open Classical in
theorem qkU (h k : TxH) (v u : TxF) (w : World) (R R' : Nat → Prop) (hv : locTx w R h v) (hu : locTx w R' k u) (m : Nat) (hm : m ≤ 281474976710656) (s1 : v.acl.length ≤ m ∧ v.ids.length ≤ m ∧ v.paths.length ≤ m) (s2 : u.acl.length ≤ m ∧ u.ids.length ≤ m ∧ u.paths.length ≤ m) :
  Calls Tryz.prog 178 #[txV h, txV k] w (PlR w (decide (v = u))) := by
 have hb := qli h k _ _ _ _ w (qoq hv hu m hm s1 s2 _ (qak w (qba h) (qba k)))
 refine hb.mono ?_
 rintro e w' ⟨rfl, h2⟩
 refine PlR.mk h2 ?_
 rw [Bool.eq_iff_iff, decide_eq_true_iff, TxF.eq_iff, TxN.eq_iff, hv.1, hu.1]
 unfold plB
 simp only [Bool.and_eq_true, decide_eq_true_eq, Prod.mk.injEq]
 constructor
 ·rintro ⟨⟨⟨⟨⟨⟨⟨⟨⟨⟨⟨⟨a1, a2⟩, a3⟩, a4⟩, a5⟩, a6⟩, a7⟩, a8, a9, a10⟩, a11⟩, a12⟩, a13⟩, a14⟩, a15⟩
  exact ⟨⟨a1, a2, a5, a6, a7, a8, a9, a10, a11, a12, a15⟩, a3, a4, a13, a14⟩
 ·rintro ⟨⟨a1, a2, a5, a6, a7, a8, a9, a10, a11, a12, a15⟩, a3, a4, a13, a14⟩
  exact ⟨⟨⟨⟨⟨⟨⟨⟨⟨⟨⟨⟨a1, a2⟩, a3⟩, a4⟩, a5⟩, a6⟩, a7⟩, a8, a9, a10⟩, a11⟩, a12⟩, a13⟩, a14⟩, a15⟩
open Go.RowKit Go.MapKept
theorem qhz (s : ByteArray) (hs : s.size < 2147483648) (w : World) (hE : Env w) : Calls Tryz.prog 147 #[.string s] w (RetB w (qeV s)) :=
 (Tryz.utf8_ValidString s w (by omega) hE.tabs).mono fun _ _ h => h
theorem qmL (p : Int) (s t : ByteArray) (hs : s.size < 2147483648) (ht : t.size < 2147483648) (w : World) (hE : Env w) : Calls Tryz.prog 176 #[.agg #[.int .i32 p, .string s, .string t]] w (RetB w (!qeV s || !qeV t)) := by
 have hb0 : Below w.heap.size w (w.alloc (.cells #[.int .i32 p, .string s, .string t] 246)) := (Below.refl _ w).alloc (Nat.le_refl _) _
 have z1 : (w.alloc (.cells #[.int .i32 p, .string s, .string t] 246)).cell? ⟨w.heap.size, 2, none⟩ = some (.string t) := by simp
 have HE := Lib.hid (hE.below (Nat.le_refl _) hb0)
 have HB := Lib.hid hb0; have HZ := Lib.hid z1
 have cS := Lib.hid (fun W (hW : Env W) => qhz s hs W hW)
 have cT := Lib.hid (fun W (hW : Env W) => qhz t ht W hW)
 clear hb0 z1 hE
 cases hq : qeV s with
 | false =>
  rw [hq] at cS
  clear hq
  go_enter Tryz.func176, Tryz.ntmps176
  go_wp2_with (go_at_call 147; refine (cS.out _ HE.out).mono ?_; rintro e w1 ⟨rfl, hb⟩)
  go_ret
  exact RetB.mk (HB.out.trans (hb.mono HB.out.size)) rfl
 | true =>
  rw [hq] at cS
  clear hq
  go_enter Tryz.func176, Tryz.ntmps176
  go_wp2_with fail
  refine (cS.out _ HE.out).mono ?_
  rintro e w1 ⟨rfl, hb⟩
  have y1 := qaC HZ.out hb
  have HE1 := Lib.hid (HE.out.below (Nat.le_refl _) hb)
  go_wp2_with fail
  refine (cT.out _ HE1.out).mono ?_
  rintro e w2 ⟨rfl, hb2⟩
  go_wp2_with fail
  go_ret
  exact RetB.mk (HB.out.trans ((hb.trans (hb2.mono hb.size)).mono HB.out.size)) (by simp)
/-- what is read of a transaction with those of its fields that its type has -/
def qeM (v : TxF) : TxF :=
 ⟨⟨v.n.ty, if v.n.ty = 14 ∨ v.n.ty = -10 ∨ v.n.ty = -11 ∨ v.n.ty = -1 then ⟨#[]⟩ else v.n.path, if v.n.ty = 1 then v.n.ow else 0, if v.n.ty = 5 ∨ v.n.ty = 7 ∨ v.n.ty = 13 then v.n.ve else 0, if v.n.ty = 1 then v.n.cr else 0,
  if v.n.ty = 120 then v.n.qh else false, if v.n.ty = 120 then v.n.qc else 0, if v.n.ty = 120 then v.n.qb else 0, if v.n.ty = -10 then v.n.si else 0, if v.n.ty = -10 then v.n.st else 0, if v.n.ty = -1 then v.n.co else 0⟩,
  if v.n.ty = 1 ∨ v.n.ty = 5 then v.data else [], if v.n.ty = 1 ∨ v.n.ty = 7 then v.acl else [], if v.n.ty = -10 then v.ids else [], if v.n.ty = -11 then v.paths else []⟩
theorem qgm {α : Type} (c : Prop) [Decidable c] (l : List α) (m : Nat) (h : l.length ≤ m) : (if c then l else []).length ≤ m := by
 split
 ·exact h
 ·simp
theorem SlR.ite {α : Type} [Inhabited α] {w : World} {R : Nat → Prop} {enc : α → List Value} {k : Nat} {h : SlC} {zs : List α} (H : SlR w R enc k h zs) (c : Prop) [Decidable c] : SlR w R enc k (if c then h else nilS) (if c then zs else []) := by
 split
 ·exact H
 ·exact SlR.nil_
theorem locTx.kept {w : World} {R : Nat → Prop} {h : TxH} {v : TxF} (H : locTx w R h v) : locTx w R (qat h) (qeM v) := by
 obtain ⟨hn, h1, h2, h3, h4⟩ := H
 unfold qat qeM
 rw [hn]
 exact ⟨rfl, h1.ite _, h2.ite _, h3.ite _, h4.ite _⟩
open Classical in
theorem qmt (v : TxF) (k : Nat) (hk : qbt v.n.ty = true) : qbJ v k = (!decide (v = qeM v) || decide (k ≠ if v.n.ty = 14 then k else 0)) := by
 rw [Bool.eq_iff_iff, Bool.or_eq_true, Bool.not_eq_true', decide_eq_false_iff_not, decide_eq_true_iff, TxF.eq_iff, TxN.eq_iff]
 unfold qbJ qeM qbg
 rw [show ByteArray.empty = (⟨#[]⟩ : ByteArray) from rfl]
 simp only [Bool.or_eq_true, Bool.and_eq_true, Bool.not_eq_true', decide_eq_true_eq, decide_eq_false_iff_not]
 by_cases a0 : v.n.ty = 1
 ·simp [a0]; (try grind)
 by_cases a1 : v.n.ty = 2
 ·simp [a1]; (try grind)
 by_cases a2 : v.n.ty = 5
 ·simp [a2]; (try grind)
 by_cases a3 : v.n.ty = 7
 ·simp [a3]; (try grind)
 by_cases a4 : v.n.ty = 13
 ·simp [a4]; (try grind)
 by_cases a5 : v.n.ty = 120
 ·simp [a5]; (try grind)
 by_cases a6 : v.n.ty = 121
 ·simp [a6]; (try grind)
 by_cases a7 : v.n.ty = 14
 ·simp [a7]; (try grind)
 by_cases a8 : v.n.ty = -10
 ·simp [a8]; (try grind)
 by_cases a9 : v.n.ty = -11
 ·simp [a9]; (try grind)
 by_cases a10 : v.n.ty = -1
 ·simp [a10]; (try grind)
 simp [qbt, qbg, a0, a1, a2, a3, a4, a5, a6, a7, a8, a9, a10] at hk

def OddP (z : Int) (v : TxF) (k : Nat) (w : World) (e : Ending) (w' : World) : Prop := (∃ b, e = .returned (.bool b) ∧ b = oddB z v k) ∧ Below w.heap.size w w'
theorem OddP.mk {z : Int} {v : TxF} {k : Nat} {w w' : World} {b : Bool} (hb : Below w.heap.size w w') (h : oddB z v k = b) : OddP z v k w (.returned (.bool b)) w' := ⟨⟨b, rfl, h.symm⟩, hb⟩
/-- what the switch answers -/
noncomputable def swB (z : Int) (v : TxF) : Bool := by
 classical exact (if v.n.ty = -11 then qbR v.paths else if v.n.ty = 120 then (!v.n.qh || decide (v.n.qc < -1) || decide (v.n.qb < -1)) else if v.n.ty = -10 then (decide (v.n.si ≠ 0) || !decide (qco (z, v.n.st, v.ids))) else if v.n.ty = -1 then decide (0 ≤ v.n.co) else false)
theorem qkn (z : Int) (v : TxF) (k : Nat) : oddB z v k = (v.acl.any (fun a => !qeV a.2.1 || !qeV a.2.2) || qbJ v k || swB z v) := rfl
theorem qnX (a b : ByteArray) (W : World) (q x : Nat) : Calls Tryz.prog 179 #[.string a, .string b] (W.drewN (q + x)) fun e w' => e = .returned (.int .i64 (Lib.compareBytes a.data.toList b.data.toList)) ∧ ∃ n, w' = W.drewN (q + n) :=
 (qlb a b _).mono fun _ _ h => ⟨h.1, x, h.2⟩
open Classical in
theorem qnL (z : Int) (h : TxH) (v : TxF) (w : World) (R : Nat → Prop) (hv : locTx w R h v) (hE : Env w) (hkn : qbt v.n.ty = true) (hsm : TxSm 1048576 v h.s.2.1) (hwz : in64 z) : Calls Tryz.prog 139 #[txV h, .int .i64 z] w (OddP z v h.s.2.1 w) := by
 have hb0 := qek w h
 have hE0 := hE.below (Nat.le_refl _) hb0
 obtain ⟨q0, _, _, sa, si, sp, _, qa, qi, qp⟩ := hsm
 have za := (hv.2.2.1.sl (fun _ => by simp [qao])).belowMore hb0 hb0.size
 have hal := hv.2.2.1.len
 have cA := Lib.hid (qcR h.a.1 h.a.2.1 h.a.2.2 176 #[] (enters_of Tryz.func176 (by kernel_rfl) rfl) v.acl (fun a => !qeV a.2.1 || !qeV a.2.2) _ za (by omega) (fun W k hk hbW => qmL _ _ _ (by have := (qa k (by omega)).2.1; omega) (by have := (qa k (by omega)).2.2; omega) W (hE0.below (Nat.le_refl _) hbW)))
 have HG0 := Lib.hid (qab w (.cells (rwTx h) 52))
 have HB := Lib.hid hb0; have HV := Lib.hid hv; have HE0 := Lib.hid hE0
 have HO := Lib.hid (qkn z v h.s.2.1)
 clear hb0 za hE0 hE hal
 unfold txV
 cases hq : v.acl.any (fun a => !qeV a.2.1 || !qeV a.2.2) with
 | true =>
  rw [hq] at cA
  have HR := Lib.hid (show oddB z v h.s.2.1 = true by rw [HO.out, hq]; rfl)
  clear hq HO
  go_enter Tryz.func139, Tryz.ntmps139
  go_wp2_with (go_at_call 173; refine cA.out.mono ?_; rintro e w1 ⟨rfl, hb⟩)
  go_ret
  exact OddP.mk (HB.out.trans (hb.mono HB.out.size)) HR.out
 | false =>
  rw [hq] at cA
  have HR := Lib.hid (show oddB z v h.s.2.1 = (qbJ v h.s.2.1 || swB z v) by rw [HO.out, hq]; rfl)
  clear hq HO
  go_enter Tryz.func139, Tryz.ntmps139
  go_wp2_with fail
  refine cA.out.mono ?_
  rintro e w1 ⟨rfl, hb⟩
  have g1 := (hb.block w.heap.size (by simp)).trans HG0.out
  have HB1 := Lib.hid (HB.out.trans (hb.mono HB.out.size))
  have HX1 := Lib.hid hb
  have HG1 := Lib.hid g1
  clear hb
  go_wp2_with (first     | (apply qai 52 52; exact rfl; exact rfl; exact rfl; (first | (with_reducible rfl) | (exact sz1 _ _) | (exact sz2 _ _ _) | (exact sz3 _ _ _ _)); exact rfl; exact qap; exact rfl; simp [Value.oneCell'])     | (apply qaw 52 52; exact rfl; exact rfl; exact rfl; (first | assumption | (refine qaa ?_; assumption) | (exact qab _ _) | (exact qae _ _ _) | (exact qag _ _ _ _) | (exact qas _ _ _ _ _) | (exact qaa (qab _ _)) | (exact qaa (qae _ _ _)) | (exact qaa (qag _ _ _ _)) | (exact qaa (qaa (qab _ _))) | (exact qaa (qaa (qae _ _ _))) | (exact qaa (qaa (qaa (qab _ _))))); exact qaF; exact rfl; exact qap)     | (apply qam 52 52; exact rfl; exact rfl; exact rfl; exact rfl; (first | assumption | (refine qaa ?_; assumption) | (exact qab _ _) | (exact qae _ _ _) | (exact qag _ _ _ _) | (exact qas _ _ _ _ _) | (exact qaa (qab _ _)) | (exact qaa (qae _ _ _)) | (exact qaa (qag _ _ _ _)) | (exact qaa (qaa (qab _ _))) | (exact qaa (qaa (qae _ _ _))) | (exact qaa (qaa (qaa (qab _ _))))); exact qap; exact rfl; simp [Value.oneCell'])     | fail)
  refine (qlT h w1).mono ?_
  rintro e w2 ⟨rfl, hb⟩
  have g2 := (hb.block w.heap.size (Array.getElem?_eq_some_iff.1 HG1.out).1).trans HG1.out
  have HB2 := Lib.hid (HB1.out.trans (hb.mono HB1.out.size))
  have HX2 := Lib.hid (HX1.out.trans (hb.mono HX1.out.size))
  have HG2 := Lib.hid g2
  clear hb g1 HG1
  unfold txV
  go_wp2_with (first     | (apply qai 52 52; exact rfl; exact rfl; exact rfl; (first | (with_reducible rfl) | (exact sz1 _ _) | (exact sz2 _ _ _) | (exact sz3 _ _ _ _)); exact rfl; exact qap; exact rfl; simp [Value.oneCell'])     | (apply qaw 52 52; exact rfl; exact rfl; exact rfl; (first | assumption | (refine qaa ?_; assumption) | (exact qab _ _) | (exact qae _ _ _) | (exact qag _ _ _ _) | (exact qas _ _ _ _ _) | (exact qaa (qab _ _)) | (exact qaa (qae _ _ _)) | (exact qaa (qag _ _ _ _)) | (exact qaa (qaa (qab _ _))) | (exact qaa (qaa (qae _ _ _))) | (exact qaa (qaa (qaa (qab _ _))))); exact qaF; exact rfl; exact qap)     | (apply qam 52 52; exact rfl; exact rfl; exact rfl; exact rfl; (first | assumption | (refine qaa ?_; assumption) | (exact qab _ _) | (exact qae _ _ _) | (exact qag _ _ _ _) | (exact qas _ _ _ _ _) | (exact qaa (qab _ _)) | (exact qaa (qae _ _ _)) | (exact qaa (qag _ _ _ _)) | (exact qaa (qaa (qab _ _))) | (exact qaa (qaa (qae _ _ _))) | (exact qaa (qaa (qaa (qab _ _))))); exact qap; exact rfl; simp [Value.oneCell'])     | fail)
  have hb3 : Below w2.heap.size w2 (w2.alloc (.cells #[.int .i32 (qat h).n.ty, .string (qat h).n.path, slV (qat h).d, slV (qat h).a, .int .i64 (qat h).n.ow, .int .i32 (qat h).n.ve, .int .i32 (qat h).n.cr, .bool (qat h).n.qh, .int .i64 (qat h).n.qc, .int .i64 (qat h).n.qb, .int .i64 (qat h).n.si, .int .i32 (qat h).n.st, slV (qat h).i, slV (qat h).p, .int .i32 (qat h).n.co, slV (qat h).s] 52)) := (Below.refl _ w2).alloc (Nat.le_refl _) _
  have HB3 := Lib.hid (HB2.out.trans (hb3.mono HB2.out.size))
  have HX3 := Lib.hid (HX2.out.trans (hb3.mono HX2.out.size))
  have HG3 := Lib.hid (qaa (o := .cells #[.int .i32 (qat h).n.ty, .string (qat h).n.path, slV (qat h).d, slV (qat h).a, .int .i64 (qat h).n.ow, .int .i32 (qat h).n.ve, .int .i32 (qat h).n.cr, .bool (qat h).n.qh, .int .i64 (qat h).n.qc, .int .i64 (qat h).n.qb, .int .i64 (qat h).n.si, .int .i32 (qat h).n.st, slV (qat h).i, slV (qat h).p, .int .i32 (qat h).n.co, slV (qat h).s] 52) HG2.out)
  have HK3 := Lib.hid (qab w2 (.cells #[.int .i32 (qat h).n.ty, .string (qat h).n.path, slV (qat h).d, slV (qat h).a, .int .i64 (qat h).n.ow, .int .i32 (qat h).n.ve, .int .i32 (qat h).n.cr, .bool (qat h).n.qh, .int .i64 (qat h).n.qc, .int .i64 (qat h).n.qb, .int .i64 (qat h).n.si, .int .i32 (qat h).n.st, slV (qat h).i, slV (qat h).p, .int .i32 (qat h).n.co, slV (qat h).s] 52))
  have hv3 : locTx (w2.alloc (.cells #[.int .i32 (qat h).n.ty, .string (qat h).n.path, slV (qat h).d, slV (qat h).a, .int .i64 (qat h).n.ow, .int .i32 (qat h).n.ve, .int .i32 (qat h).n.cr, .bool (qat h).n.qh, .int .i64 (qat h).n.qc, .int .i64 (qat h).n.qb, .int .i64 (qat h).n.si, .int .i32 (qat h).n.st, slV (qat h).i, slV (qat h).p, .int .i32 (qat h).n.co, slV (qat h).s] 52)) (· < w.heap.size) h v := by
   have := HV.out
   refine locTx.keep (fun p hp => HB3.out.cell hp) ?_
   exact ⟨this.1, this.2.1.more (fun b hb _ => hb) (fun _ => by simp [enc8]), this.2.2.1.more (fun b hb _ => hb) (fun _ => by simp [qao]), this.2.2.2.1.more (fun b hb _ => hb) (fun _ => by simp [qaz]), this.2.2.2.2.more (fun b hb _ => hb) (fun _ => by simp [qay])⟩
  refine (qkU h (qat h) v (qeM v) _ _ _ hv3 hv3.kept 1048576 (by omega) ⟨sa, si, sp⟩ ⟨qgm _ _ _ sa, qgm _ _ _ si, qgm _ _ _ sp⟩).mono ?_
  rintro e w4 ⟨rfl, hb⟩
  have g4 := (hb.block w.heap.size (Array.getElem?_eq_some_iff.1 HG3.out).1).trans HG3.out
  have k4 := (hb.block w2.heap.size (Array.getElem?_eq_some_iff.1 HK3.out).1).trans HK3.out
  have HB4 := Lib.hid (HB3.out.trans (hb.mono HB3.out.size))
  have HX4 := Lib.hid (HX3.out.trans (hb.mono HX3.out.size))
  have HS := qmt v h.s.2.1 hkn
  have hvn := HV.out.1
  clear hb g2 HG2 HG3 HK3 hv3
  have z0 : w4.cell? ⟨w.heap.size, 0, none⟩ = some (.int .i32 h.n.ty) := by rw [qaf g4]; rfl
  have z3 : w4.cell? ⟨w.heap.size, 3, none⟩ = some (slV h.a) := by rw [qaf g4]; rfl
  have z7 : w4.cell? ⟨w.heap.size, 7, none⟩ = some (.bool h.n.qh) := by rw [qaf g4]; rfl
  have z8 : w4.cell? ⟨w.heap.size, 8, none⟩ = some (.int .i64 h.n.qc) := by rw [qaf g4]; rfl
  have z9 : w4.cell? ⟨w.heap.size, 9, none⟩ = some (.int .i64 h.n.qb) := by rw [qaf g4]; rfl
  have z10 : w4.cell? ⟨w.heap.size, 10, none⟩ = some (.int .i64 h.n.si) := by rw [qaf g4]; rfl
  have z11 : w4.cell? ⟨w.heap.size, 11, none⟩ = some (.int .i32 h.n.st) := by rw [qaf g4]; rfl
  have z12 : w4.cell? ⟨w.heap.size, 12, none⟩ = some (slV h.i) := by rw [qaf g4]; rfl
  have z13 : w4.cell? ⟨w.heap.size, 13, none⟩ = some (slV h.p) := by rw [qaf g4]; rfl
  have z14 : w4.cell? ⟨w.heap.size, 14, none⟩ = some (.int .i32 h.n.co) := by rw [qaf g4]; rfl
  have z15 : w4.cell? ⟨w.heap.size, 15, none⟩ = some (slV h.s) := by rw [qaf g4]; rfl
  have y15 : w4.cell? ⟨w2.heap.size, 15, none⟩ = some (slV (qat h).s) := by rw [qaf k4]; rfl
  clear g4 k4
  have hks : (qat h).s.2.1 = if v.n.ty = 14 then h.s.2.1 else 0 := by show (if h.n.ty = 14 then h.s else nilS).2.1 = _; rw [hvn]; split <;> rfl
  cases hp : decide (v = qeM v) with
  | false =>
   have HT := Lib.hid (show oddB z v h.s.2.1 = true by rw [HR.out, HS, hp]; rfl)
   clear hp HS
   go_wp2_with fail
   go_ret
   exact OddP.mk HB4.out HT.out
  | true =>
  rw [hp, Bool.not_true, Bool.false_or, ← hks] at HS
  clear hp hks
  cases hq2 : decide (h.s.2.1 ≠ (qat h).s.2.1) with
  | true =>
   have HT := Lib.hid (show oddB z v h.s.2.1 = true by rw [HR.out, HS, hq2]; rfl)
   have d1 : ((h.s.2.1 : Int) != ((qat h).s.2.1 : Int)) = true := by
    have := of_decide_eq_true hq2
    exact bne_iff_ne.2 fun e => this (by omega)
   clear hq2 HS
   go_wp2_with fail
   go_ret
   exact OddP.mk HB4.out HT.out
  | false =>
  have HT := Lib.hid (show oddB z v h.s.2.1 = swB z v by rw [HR.out, HS, hq2]; rfl)
  have d1 : ((h.s.2.1 : Int) != ((qat h).s.2.1 : Int)) = false := by
   have := of_decide_eq_false hq2
   have : h.s.2.1 = (qat h).s.2.1 := Classical.byContradiction this
   rw [← this]; simp
  clear hq2 HS HR
  have HVN := Lib.hid hvn
  by_cases t1 : h.n.ty = -11
  ·have e1 : (h.n.ty == -11) = true := by rw [t1]; rfl
   have HF := Lib.hid (show oddB z v h.s.2.1 = qbR v.paths by rw [HT.out]; unfold swB; rw [hvn, if_pos t1])
   have HZP := Lib.hid ((HV.out.2.2.2.2.sl (fun _ => by simp [qay])).below HB4.out)
   have HPL := Lib.hid HV.out.2.2.2.2.len
   clear t1 HT hvn
   go_wp2_with fail
   go_loopw [6] (fun i wr => ∃ k q : Nat, i = .int .i64 ((k + 1 : Nat) : Int) ∧ k ≤ h.p.2.1 - 1 ∧ (∀ j, j < k → decide (0 ≤ cmpB v.paths[j]! v.paths[j + 1]!) = false) ∧ wr = w4.drewN q) (fun i _ => h.p.2.1 + 1 - (intOf i).toNat)
   case atStart => exact ⟨0, 0, rfl, by omega, fun j hj => absurd hj (by omega), rfl⟩
   case round =>
    obtain ⟨k, q, rfl, hk, hall, rfl⟩ := hrel
    have HA := Lib.hid hall; clear hall
    by_cases hlt : k + 1 < h.p.2.1
    ·obtain ⟨b, off, hA, _, x0⟩ := SlStr.at_ HZP.out (show k < h.p.2.1 by omega)
     obtain ⟨b', off', hA', _, x1⟩ := SlStr.at_ HZP.out hlt
     have z13n : w4.cell? ⟨w.heap.size, 13, none⟩ = some (.slice (some ⟨b, off, none⟩) h.p.2.1 h.p.2.2) := by rw [z13, ← hA]
     clear z13
     have hbo : b' = b ∧ off' = off := by rw [hA] at hA'; injection hA' with hA'; injection hA' with p1 p2; exact ⟨p1.symm, p2.symm⟩
     obtain ⟨rfl, rfl⟩ := hbo
     have HCO := Lib.hid (qnX v.paths[k]! v.paths[k + 1]! w4 q)
     have HN1 := Lib.hid (show decide (0 ≤ Lib.compareBytes v.paths[k]!.data.toList v.paths[k + 1]!.data.toList) = true → qbR v.paths = true from fun hh => by
      unfold qbR
      rw [List.any_eq_true]
      exact ⟨k, List.mem_range.2 (by rw [HPL.out]; omega), hh⟩)
     have HN2 := Lib.hid (show decide (0 ≤ Lib.compareBytes v.paths[k]!.data.toList v.paths[k + 1]!.data.toList) = false → ∀ j, j < k + 1 → decide (0 ≤ cmpB v.paths[j]! v.paths[j + 1]!) = false from fun hh j hj => by
      rcases Nat.lt_succ_iff_lt_or_eq.1 hj with h2 | rfl
      ·exact HA.out j h2
      ·exact hh)
     clear hA hA'
     have hplb : h.p.2.1 ≤ 1048576 := by have := HPL.out; omega
     have hk0 : k < h.p.2.1 := by omega
     have hI1 : 0 ≤ (k : Int) + 1 ∧ (k : Int) + 1 < (h.p.2.1 : Int) := by omega
     have hT1 : ((k : Int) + 1).toNat = k + 1 := by omega
     have hwk : IntKind.i64.wrap (k : Int) = k := by rw [IntKind.wrap_i64]; omega
     generalize v.paths[k]! = pa at *
     generalize v.paths[k + 1]! = pb at *
     generalize hPL : h.p.2.1 = pl at *
     generalize Lib.compareBytes pa.data.toList pb.data.toList = cc at *
     clear z0 z3 z7 z8 z9 z10 z11 z12 z14 z15 y15 d1 e1
     cases hcc : decide (0 ≤ cc) with
     | true =>
      have HY := Lib.hid (HN1.out hcc)
      go_wp2_with fail
      go_quiet (exact HCO.out _)
      go_wp2_with fail
      go_ret
      exact OddP.mk (qac (qac HB4.out _) _) (by rw [HF.out, HY.out])
     | false =>
      have HY := Lib.hid (HN2.out hcc)
      go_wp2_with fail
      go_quiet (exact HCO.out _)
      go_wp2_with fail
      go_roundw
      case rel => exact ⟨k + 1, q + nq, by go_num, by omega, HY.out, rfl⟩
      case measure => simp [intOf]; omega
    ·have HN := Lib.hid (show qbR v.paths = false by
      unfold qbR
      rw [List.any_eq_false]
      intro j hj
      have := List.mem_range.1 hj
      rw [HA.out j (by rw [HPL.out] at this; omega)]; simp)
     go_wp2_with fail
     go_ret
     exact OddP.mk (qac HB4.out _) (by rw [HF.out, HN.out])
  have e1 : (h.n.ty == -11) = false := beq_eq_false_iff_ne.2 t1
  by_cases t2 : h.n.ty = 120
  ·have e2 : (h.n.ty == 120) = true := by rw [t2]; rfl
   have HF := Lib.hid (show oddB z v h.s.2.1 = (!h.n.qh || decide (h.n.qc < -1) || decide (h.n.qb < -1)) by rw [HT.out]; unfold swB; rw [hvn, if_neg t1, if_pos t2])
   clear t1 t2 HT hvn
   cases hqh : h.n.qh with
   | false =>
    rw [hqh] at z7 HF
    go_wp2_with fail
    go_ret
    exact OddP.mk HB4.out (by rw [HF.out]; rfl)
   | true =>
    rw [hqh] at z7 HF
    cases hqc : decide (h.n.qc < -1) with
    | true =>
     rw [hqc] at HF
     go_wp2_with fail
     go_ret
     exact OddP.mk HB4.out (by rw [HF.out]; rfl)
    | false =>
     rw [hqc] at HF
     go_wp2_with fail
     go_ret
     exact OddP.mk HB4.out (by rw [HF.out]; rfl)
  have e2 : (h.n.ty == 120) = false := beq_eq_false_iff_ne.2 t2
  by_cases t3 : h.n.ty = -10
  ·have e3 : (h.n.ty == -10) = true := by rw [t3]; rfl
   have hse : ∀ b : Bool, b = (decide (h.n.si ≠ 0) || !decide (qco (z, h.n.st, v.ids))) → oddB z v h.s.2.1 = b := fun b hb => by
    rw [HT.out, hb]; unfold swB; rw [hvn, if_neg t1, if_neg t2, if_pos t3]
   have HF := Lib.hid hse
   have hb5 : Below w4.heap.size w4 (w4.alloc (.cells #[.int .i64 z, .int .i32 h.n.st, slV h.i] 47)) := (Below.refl _ w4).alloc (Nat.le_refl _) _
   have HB5 := Lib.hid (HB4.out.trans (hb5.mono HB4.out.size))
   have hil := HV.out.2.2.2.1.len
   have hE5 := HE0.out.below (Nat.le_refl _) ((show Below (w.alloc (.cells (rwTx h) 52)).heap.size (w.alloc (.cells (rwTx h) 52)) w4 from HX4.out).trans (hb5.mono HX4.out.size))
   have CR := Lib.hid (qlj z h.n.st h.i.1 h.i.2.1 h.i.2.2 v.ids _ hE5 ⟨hwz, by rw [← hvn]; exact q0.2.2.2.2.2.2.2.1, (HV.out.2.2.2.1.sl (fun _ => by simp [qaz])).belowMore HB5.out HB5.out.size, HV.out.2.2.2.1.hd, (show h.i.2.1 ≤ 1048576 by omega), fun j hj => qi j (by have hj' : j < h.i.2.1 := hj; omega)⟩)
   have w10 := qaC z10 hb5
   clear hse t1 t2 t3 HT hvn hil hE5 hb5
   cases hsi : decide (h.n.si ≠ 0) with
   | true =>
    have d5 : (h.n.si != 0) = true := by
     have := of_decide_eq_true hsi
     exact bne_iff_ne.2 this
    clear hsi
    go_wp2_with fail
    go_ret
    exact OddP.mk HB5.out (HF.out _ (by rw [bne_iff_ne] at d5; rw [decide_eq_true d5]; rfl))
   | false =>
    have d5 : (h.n.si != 0) = false := by
     have := of_decide_eq_false hsi
     have : h.n.si = 0 := Classical.byContradiction this
     rw [this]; rfl
    go_wp2_with fail
    refine CR.out.mono ?_
    rintro e w6 ⟨rfl, hb6⟩
    go_wp2_with fail
    go_ret
    exact OddP.mk (HB5.out.trans (hb6.mono HB5.out.size)) (HF.out _ (by rw [hsi]; rfl))
  have e3 : (h.n.ty == -10) = false := beq_eq_false_iff_ne.2 t3
  by_cases t4 : h.n.ty = -1
  ·have e4 : (h.n.ty == -1) = true := by rw [t4]; rfl
   have HF := Lib.hid (show oddB z v h.s.2.1 = decide (0 ≤ h.n.co) by rw [HT.out]; unfold swB; rw [hvn, if_neg t1, if_neg t2, if_neg t3, if_pos t4])
   clear t1 t2 t3 t4 HT hvn
   go_wp2_with fail
   go_ret
   exact OddP.mk HB4.out HF.out
  have e4 : (h.n.ty == -1) = false := beq_eq_false_iff_ne.2 t4
  have HF := Lib.hid (show oddB z v h.s.2.1 = false by rw [HT.out]; unfold swB; rw [hvn, if_neg t1, if_neg t2, if_neg t3, if_neg t4])
  clear t1 t2 t3 t4 HT hvn
  go_wp2_with fail
  go_ret
  exact OddP.mk HB4.out HF.out
open Go.RowKit Go.MapKept
def OwnEP (z : Int) (v : TxF) (k : Nat) (w : World) (e : Ending) (w' : World) : Prop := e = .returned (.int .i64 (ownE z v k)) ∧ Below w.heap.size w w'
theorem OwnEP.mk {z : Int} {v : TxF} {k : Nat} {w w' : World} {x : Int} (hb : Below w.heap.size w w') (h : ownE z v k = x) : OwnEP z v k w (.returned (.int .i64 x)) w' := ⟨by rw [h], hb⟩
theorem locTx.down {w W : World} {R : Nat → Prop} {h : TxH} {v : TxF} (H : locTx w R h v) (hb : Below w.heap.size w W) : locTx W (· < w.heap.size) h v :=
 locTx.keep (fun p hp => hb.cell hp) ⟨H.1, H.2.1.more (fun b hb _ => hb) (fun _ => by simp [enc8]), H.2.2.1.more (fun b hb _ => hb) (fun _ => by simp [qao]), H.2.2.2.1.more (fun b hb _ => hb) (fun _ => by simp [qaz]), H.2.2.2.2.more (fun b hb _ => hb) (fun _ => by simp [qay])⟩
theorem qhr (z : Int) (h : TxH) (v : TxF) (w : World) (R : Nat → Prop) (hv : locTx w R h v) (hE : Env w) (hkn : qbt v.n.ty = true) (hsm : TxSm 1048576 v h.s.2.1) (hwz : in64 z) : Calls Tryz.prog 107 #[txV h, .int .i64 z] w (OwnEP z v h.s.2.1 w) := by
 have hb0 := qek w h
 have HN := Lib.hid (fun W (hW : Below w.heap.size w W) => qky h v W _ (hv.down hW) (hE.below (Nat.le_refl _) hW) (by have := hsm.2.1; omega) hsm.2.2.2.2.2.1 (fun j hj => by have := hsm.2.2.2.2.2.2.2.2.2 j hj; omega))
 have HG := Lib.hid (fun W (hW : Below w.heap.size w W) => qkp h v W _ (hv.down hW) hsm.2.2.2.1 hsm.2.2.2.2.1)
 have HO := Lib.hid (fun W (hW : Below w.heap.size w W) => qnL z h v W _ (hv.down hW) (hE.below (Nat.le_refl _) hW) hkn hsm hwz)
 have HC0 := Lib.hid (qab w (.cells (rwTx h) 52))
 have HB := Lib.hid hb0
 have HD := Lib.hid (show ownE z v h.s.2.1 = if qbH v then 30 else if qbz v h.s.2.1 then 3 else if oddB z v h.s.2.1 then 1 else 0 from rfl)
 clear hb0 hv hE hsm
 generalize qbH v = bn at *
 generalize qbz v h.s.2.1 = bg at *
 unfold txV
 go_enter Tryz.func107, Tryz.ntmps107
 go_wp2_with (first     | (apply qai 52 52; exact rfl; exact rfl; exact rfl; (first | (with_reducible rfl) | (exact sz1 _ _) | (exact sz2 _ _ _) | (exact sz3 _ _ _ _)); exact rfl; exact qap; exact rfl; simp [Value.oneCell'])     | (apply qaw 52 52; exact rfl; exact rfl; exact rfl; (first | assumption | (refine qaa ?_; assumption) | (exact qab _ _) | (exact qae _ _ _) | (exact qag _ _ _ _) | (exact qas _ _ _ _ _) | (exact qaa (qab _ _)) | (exact qaa (qae _ _ _)) | (exact qaa (qag _ _ _ _)) | (exact qaa (qaa (qab _ _))) | (exact qaa (qaa (qae _ _ _))) | (exact qaa (qaa (qaa (qab _ _))))); exact qaF; exact rfl; exact qap)     | (apply qam 52 52; exact rfl; exact rfl; exact rfl; exact rfl; (first | assumption | (refine qaa ?_; assumption) | (exact qab _ _) | (exact qae _ _ _) | (exact qag _ _ _ _) | (exact qas _ _ _ _ _) | (exact qaa (qab _ _)) | (exact qaa (qae _ _ _)) | (exact qaa (qag _ _ _ _)) | (exact qaa (qaa (qab _ _))) | (exact qaa (qaa (qae _ _ _))) | (exact qaa (qaa (qaa (qab _ _))))); exact qap; exact rfl; simp [Value.oneCell'])     | fail)
 refine (HN.out _ HB.out).mono ?_
 rintro e w1 ⟨rfl, hb⟩
 have g1 := (hb.block w.heap.size (by simp)).trans HC0.out
 have HB1 := Lib.hid (HB.out.trans (hb.mono HB.out.size))
 have HG1 := Lib.hid g1
 clear hb
 cases bn with
 | true =>
  go_wp2_with fail
  go_ret
  exact OwnEP.mk HB1.out (by rw [HD.out]; rfl)
 | false =>
 go_wp2_with (first     | (apply qai 52 52; exact rfl; exact rfl; exact rfl; (first | (with_reducible rfl) | (exact sz1 _ _) | (exact sz2 _ _ _) | (exact sz3 _ _ _ _)); exact rfl; exact qap; exact rfl; simp [Value.oneCell'])     | (apply qaw 52 52; exact rfl; exact rfl; exact rfl; (first | assumption | (refine qaa ?_; assumption) | (exact qab _ _) | (exact qae _ _ _) | (exact qag _ _ _ _) | (exact qas _ _ _ _ _) | (exact qaa (qab _ _)) | (exact qaa (qae _ _ _)) | (exact qaa (qag _ _ _ _)) | (exact qaa (qaa (qab _ _))) | (exact qaa (qaa (qae _ _ _))) | (exact qaa (qaa (qaa (qab _ _))))); exact qaF; exact rfl; exact qap)     | (apply qam 52 52; exact rfl; exact rfl; exact rfl; exact rfl; (first | assumption | (refine qaa ?_; assumption) | (exact qab _ _) | (exact qae _ _ _) | (exact qag _ _ _ _) | (exact qas _ _ _ _ _) | (exact qaa (qab _ _)) | (exact qaa (qae _ _ _)) | (exact qaa (qag _ _ _ _)) | (exact qaa (qaa (qab _ _))) | (exact qaa (qaa (qae _ _ _))) | (exact qaa (qaa (qaa (qab _ _))))); exact qap; exact rfl; simp [Value.oneCell'])     | fail)
 refine (HG.out _ HB1.out).mono ?_
 rintro e w2 ⟨rfl, hb⟩
 have g2 := (hb.block w.heap.size (Array.getElem?_eq_some_iff.1 HG1.out).1).trans HG1.out
 have HB2 := Lib.hid (HB1.out.trans (hb.mono HB1.out.size))
 clear hb g1 HG1
 cases bg with
 | true =>
  go_wp2_with fail
  go_ret
  exact OwnEP.mk HB2.out (by rw [HD.out]; rfl)
 | false =>
 go_wp2_with (first     | (apply qai 52 52; exact rfl; exact rfl; exact rfl; (first | (with_reducible rfl) | (exact sz1 _ _) | (exact sz2 _ _ _) | (exact sz3 _ _ _ _)); exact rfl; exact qap; exact rfl; simp [Value.oneCell'])     | (apply qaw 52 52; exact rfl; exact rfl; exact rfl; (first | assumption | (refine qaa ?_; assumption) | (exact qab _ _) | (exact qae _ _ _) | (exact qag _ _ _ _) | (exact qas _ _ _ _ _) | (exact qaa (qab _ _)) | (exact qaa (qae _ _ _)) | (exact qaa (qag _ _ _ _)) | (exact qaa (qaa (qab _ _))) | (exact qaa (qaa (qae _ _ _))) | (exact qaa (qaa (qaa (qab _ _))))); exact qaF; exact rfl; exact qap)     | (apply qam 52 52; exact rfl; exact rfl; exact rfl; exact rfl; (first | assumption | (refine qaa ?_; assumption) | (exact qab _ _) | (exact qae _ _ _) | (exact qag _ _ _ _) | (exact qas _ _ _ _ _) | (exact qaa (qab _ _)) | (exact qaa (qae _ _ _)) | (exact qaa (qag _ _ _ _)) | (exact qaa (qaa (qab _ _))) | (exact qaa (qaa (qae _ _ _))) | (exact qaa (qaa (qaa (qab _ _))))); exact qap; exact rfl; simp [Value.oneCell'])     | fail)
 refine (HO.out _ HB2.out).mono ?_
 rintro e w3 ⟨⟨bo, rfl, hbo⟩, hb⟩
 have HB3 := Lib.hid (HB2.out.trans (hb.mono HB2.out.size))
 have HBO := Lib.hid hbo
 clear hb g2 hbo
 cases bo with
 | true =>
  go_wp2_with fail
  go_ret
  exact OwnEP.mk HB3.out (by rw [HD.out, ← HBO.out]; rfl)
 | false =>
  go_wp2_with fail
  go_ret
  exact OwnEP.mk HB3.out (by rw [HD.out, ← HBO.out]; rfl)

def RgtP (d : DlT) (w : World) (e : Ending) (w' : World) : Prop := e = .returned (.int .i64 (qaQ d)) ∧ Below w.heap.size w w'
theorem RgtP.mk {d : DlT} {w w' : World} {x : Int} (hb : Below w.heap.size w w') (h : qaQ d = x) : RgtP d w (.returned (.int .i64 x)) w' := ⟨by rw [h], hb⟩
theorem qeA {w : World} {b o : Nat} {cs : Array Value} {T : TypeId} {fr : Nat × Nat} {pre mid post : List Value} (h : w.heap[b]? = some (.cells cs T fr)) (hc : cs.toList = pre ++ (mid ++ post)) (hp : pre.length = o) : w.rangeAt b o mid := fun j v hv => by
 have hj : j < mid.length := (List.getElem?_eq_some_iff.1 hv).1
 rw [qaf h, ← Array.getElem?_toList, hc, ← hp, List.getElem?_append_right (by omega), show pre.length + j - pre.length = j by omega, List.getElem?_append_left hj]
 exact hv
theorem qdk {w w' : World} {b o : Nat} {cs : List Value} (h : w.rangeAt b o cs) (hb : Below w.heap.size w w') : w'.rangeAt b o cs := fun j v hv => qaC (h j v hv) hb
theorem qfJ (z : Int) (l : List TxT) (k : Nat) (hk : k < l.length) : qbL z (l.drop k) = if !qbg l[k]!.v.n.ty then 110 else if ownE z l[k]!.v l[k]!.subs.length ≠ 0 then ownE z l[k]!.v l[k]!.subs.length else qbL z (l.drop (k + 1)) := by
 rw [List.drop_eq_getElem_cons hk, getElem!_pos l k hk]; rfl
theorem qjK {t : Int} (h : qbg t = true) : qbt t = true := by unfold qbt; rw [h]; rfl
theorem qiC (h : DlH) (d : DlT) (w : World) (R : Nat → Prop) (hd : DlAt w R h d) (hE : Env w) (hsm : DlSm 1048576 d) : Calls Tryz.prog 63 #[dlV h] w (RgtP d w) := by
 obtain ⟨⟨e0, e1, e2, e3⟩, ht⟩ := hd
 obtain ⟨⟨_, _, q2, _⟩, hok⟩ := hsm
 have hl := ht.loc
 obtain ⟨L, hL, hsub⟩ := ht.subs_at
 have hn := hl.1
 have hlen := ht.len
 have hb0 : Below w.heap.size w (w.alloc (.cells (rwDl h) 54)) := (Below.refl _ w).alloc (Nat.le_refl _) _
 have hg0 := qab w (.cells (rwDl h) 54)
 have hr0 : (w.alloc (.cells (rwDl h) 54)).rangeAt w.heap.size 4 (qar h.t) := qeA hg0 (pre := [.int .i64 h.se, .int .i32 h.xi, .int .i64 h.zx, .int .i64 h.ti]) (post := []) rfl rfl
 have HO := Lib.hid (fun (hk : qbt d.t.v.n.ty = true) => qhr d.zx h.t d.t.v _ _ (hl.down hb0) (hE.below (Nat.le_refl _) hb0) hk (by have := hok.top; rw [hlen] at this; exact this) q2)
 have HS := Lib.hid (fun (W : World) (hW : Below w.heap.size w W) (k : Nat) (hk : k < h.t.s.2.1) (hp : qbg d.t.subs[k]!.v.n.ty = true) => qhr d.zx L[k]! d.t.subs[k]!.v W _ ((hsub k hk).loc.down hW) (hE.below (Nat.le_refl _) hW) (qjK hp) (by have := (hok.subAt (j := k) (by rw [hlen]; exact hk)).top; rw [(hsub k hk).len] at this; exact this) q2)
 have HLC := Lib.hid (fun (k : Nat) (hk : k < h.t.s.2.1) => (hsub k hk).loc.1)
 have HLN := Lib.hid (fun (k : Nat) (hk : k < h.t.s.2.1) => (hsub k hk).len)
 have HL := Lib.hid hL; have HLEN := Lib.hid hlen
 have HB := Lib.hid hb0; have HN := Lib.hid hn
 have HR := Lib.hid (show qaQ d = if !qbt h.t.n.ty then 110 else if h.zx < 1 then 1 else if ownE d.zx d.t.v h.t.s.2.1 ≠ 0 then ownE d.zx d.t.v h.t.s.2.1 else qbL d.zx d.t.subs by unfold qaQ; rw [hn, hlen]; rw [e2])
 have HSB := Lib.hid (show h.t.s.2.1 ≤ 1048576 by have := hok.top.2.2.2.2.2.2.1; rw [hlen] at this; exact this)
 have HK := Lib.hid (fun W => qkq h.t.n.ty W)
 have z2 : (w.alloc (.cells (rwDl h) 54)).cell? ⟨w.heap.size, 2, none⟩ = some (.int .i64 h.zx) := by simp
 have z19 : (w.alloc (.cells (rwDl h) 54)).cell? ⟨w.heap.size, 19, none⟩ = some (slV h.t.s) := by simp
 have HZ2 := Lib.hid z2; have HZ19 := Lib.hid z19
 have E2 := Lib.hid e2
 clear ht hok hl hL hsub hn hlen hb0 hg0 hE z2 z19 e0 e1 e3
 rw [e2] at HO HS
 cases hkn : qbt h.t.n.ty with
 | false =>
  have HV := Lib.hid (show qaQ d = 110 by rw [HR.out, hkn]; rfl)
  rw [hkn] at HK
  clear hr0 hkn
  go_enter Tryz.func63, Tryz.ntmps63
  go_wp2_with (go_at_call 106; refine (HK.out _).mono ?_; rintro e w1 ⟨rfl, rfl⟩)
  go_ret
  exact RgtP.mk HB.out HV.out
 | true =>
 rw [hkn] at HK HR
 have HO1 := Lib.hid (HO.out (by rw [HN.out]; exact hkn))
 clear hkn HO
 by_cases hz : h.zx < 1
 ·have HV := Lib.hid (show qaQ d = 1 by rw [HR.out, if_pos hz]; rfl)
  clear hr0
  go_enter Tryz.func63, Tryz.ntmps63
  go_wp2_with (go_at_call 106; refine (HK.out _).mono ?_; rintro e w1 ⟨rfl, rfl⟩)
  go_ret
  exact RgtP.mk HB.out HV.out
 have HV := Lib.hid (show qaQ d = if ownE d.zx d.t.v h.t.s.2.1 ≠ 0 then ownE d.zx d.t.v h.t.s.2.1 else qbL d.zx d.t.subs by rw [HR.out, if_neg hz]; rfl)
 clear HR
 go_enter Tryz.func63, Tryz.ntmps63
 go_wp2_with (first | (go_at_call 106; refine (HK.out _).mono ?_; rintro e w1 ⟨rfl, rfl⟩) | (apply qau 52; exact rfl; exact rfl; exact rfl; assumption; exact qaF; exact rfl; exact qap) | fail)
 refine HO1.out.mono ?_
 rintro e w1 ⟨rfl, hb⟩
 rw [← E2.out]
 have z2 := qaC HZ2.out hb
 have z19 := qaC HZ19.out hb
 have HB1 := Lib.hid hb
 clear hb hr0
 by_cases ho : ownE d.zx d.t.v h.t.s.2.1 = 0
 case neg =>
  have HV2 := Lib.hid (show qaQ d = ownE d.zx d.t.v h.t.s.2.1 by rw [HV.out, if_pos ho])
  generalize ownE d.zx d.t.v h.t.s.2.1 = x at *
  have d1 : (x != 0) = true := bne_iff_ne.2 ho
  go_wp2_with fail
  go_ret
  exact RgtP.mk (HB.out.trans (HB1.out.mono HB.out.size)) HV2.out
 have HV2 := Lib.hid (show qaQ d = qbL d.zx d.t.subs by rw [HV.out, if_neg (by simp [ho])])
 rw [ho]
 clear ho HV
 go_wp2_with fail
 go_loopw [29] (fun i wr => ∃ k : Nat, i = .int .i64 ↑k ∧ k ≤ h.t.s.2.1 ∧ qbL d.zx (d.t.subs.drop k) = qbL d.zx d.t.subs ∧ Below (w.alloc (.cells (rwDl h) 54)).heap.size (w.alloc (.cells (rwDl h) 54)) wr) (fun i _ => h.t.s.2.1 - (intOf i).toNat)
 case atStart => exact ⟨0, rfl, Nat.zero_le _, rfl, HB1.out⟩
 case round =>
  obtain ⟨k, rfl, hk, hS, hb⟩ := hrel
  have HSS := Lib.hid hS; have HBR := Lib.hid hb
  have HBW := Lib.hid (HB.out.trans (hb.mono HB.out.size))
  clear hS
  by_cases hlt : k < h.t.s.2.1
  ·have hlb := HSB.out
   obtain ⟨b, off, hA, _, hc⟩ := HL.out.2.2 (by omega)
   have hr : wr.rangeAt b (off + k * 16) (qar L[k]!) := qdk (fun j u hu => hc k hlt j u hu) HBW.out
   have HST := Lib.hid (qfJ d.zx d.t.subs k (by rw [HLEN.out]; exact hlt))
   have HOW := Lib.hid (HS.out (wr.alloc (.cells (qar L[k]!).toArray 52)) (HBW.out.alloc HBW.out.size _) k hlt)
   have y2 := qaC HZ2.out ((HBR.out.alloc HBR.out.size (.cells #[.int .i32 L[k]!.n.ty, .string L[k]!.n.path, slV L[k]!.d, slV L[k]!.a, .int .i64 L[k]!.n.ow, .int .i32 L[k]!.n.ve, .int .i32 L[k]!.n.cr, .bool L[k]!.n.qh, .int .i64 L[k]!.n.qc, .int .i64 L[k]!.n.qb, .int .i64 L[k]!.n.si, .int .i32 L[k]!.n.st, slV L[k]!.i, slV L[k]!.p, .int .i32 L[k]!.n.co, slV L[k]!.s] 52)))
   have y19 := qaC HZ19.out hb
   have hln := HLN.out k hlt
   have hlc := HLC.out k hlt
   rw [hlc, hln] at HST
   rw [hlc] at HOW
   have hsl : slV h.t.s = .slice (some ⟨b, off, none⟩) h.t.s.2.1 h.t.s.2.2 := by rw [← hA]
   rw [hsl]
   have HSL := Lib.hid hsl
   clear hc hA hb hln hlc z2 z19 hsl
   generalize d.t.subs[k]!.v = vj at *
   generalize L[k]! = hj at *
   have g5 := qab wr (.cells (rwTx hj) 52)
   cases hpt : qbg hj.n.ty with
   | false =>
    have HPT := Lib.hid (fun W => qdZ hj.n.ty W)
    rw [hpt] at HST HPT
    have HX := Lib.hid (show qaQ d = 110 by rw [HV2.out, ← HSS.out, HST.out]; rfl)
    clear hpt HOW
    go_wp2_with (first | (go_at_call 108; refine (HPT.out _).mono ?_; rintro e w2 ⟨rfl, rfl⟩) | (apply qau 52; exact rfl; exact rfl; exact rfl; assumption; exact qaF; exact rfl; exact qap) | (apply qai 52 52; exact rfl; exact rfl; exact rfl; (first | (with_reducible rfl) | (exact sz1 _ _) | (exact sz2 _ _ _) | (exact sz3 _ _ _ _)); exact rfl; exact qap; exact rfl; simp [Value.oneCell']) | fail)
    go_ret
    exact RgtP.mk (HBW.out.alloc HBW.out.size _) HX.out
   | true =>
    have HPT := Lib.hid (fun W => qdZ hj.n.ty W)
    have HOX := Lib.hid (HOW.out hpt)
    rw [hpt] at HST HPT
    clear hpt HOW
    go_wp2_with (first | (go_at_call 108; refine (HPT.out _).mono ?_; rintro e w2 ⟨rfl, rfl⟩) | (apply qau 52; exact rfl; exact rfl; exact rfl; assumption; exact qaF; exact rfl; exact qap) | (apply qai 52 52; exact rfl; exact rfl; exact rfl; (first | (with_reducible rfl) | (exact sz1 _ _) | (exact sz2 _ _ _) | (exact sz3 _ _ _ _)); exact rfl; exact qap; exact rfl; simp [Value.oneCell']) | (apply qaw 52 52; exact rfl; exact rfl; exact rfl; (first | assumption | (refine qaa ?_; assumption) | (exact qab _ _) | (exact qae _ _ _) | (exact qag _ _ _ _) | (exact qas _ _ _ _ _) | (exact qaa (qab _ _)) | (exact qaa (qae _ _ _)) | (exact qaa (qag _ _ _ _)) | (exact qaa (qaa (qab _ _))) | (exact qaa (qaa (qae _ _ _))) | (exact qaa (qaa (qaa (qab _ _))))); exact qaF; exact rfl; exact qap) | fail)
    refine HOX.out.mono ?_
    rintro e w5 ⟨rfl, hb5⟩
    have HE2 := Lib.hid (show ownE d.zx vj hj.s.2.1 = ownE h.zx vj hj.s.2.1 by rw [E2.out])
    rw [HE2.out] at HST
    have HB5 := Lib.hid ((HBW.out.alloc HBW.out.size (.cells (qar hj).toArray 52)).trans (hb5.mono (HBW.out.alloc HBW.out.size (.cells (qar hj).toArray 52)).size))
    have HB6 := Lib.hid ((HBR.out.alloc HBR.out.size (.cells (qar hj).toArray 52)).trans (hb5.mono (HBR.out.alloc HBR.out.size (.cells (qar hj).toArray 52)).size))
    clear hb5 HOX hr g5 y2
    by_cases ho : ownE h.zx vj hj.s.2.1 = 0
    ·rw [ho]
     have HX := Lib.hid (show qbL d.zx (d.t.subs.drop (k + 1)) = qbL d.zx d.t.subs by rw [← HSS.out, HST.out, ho]; rfl)
     clear HST ho
     go_wp2_with fail
     go_roundw
     case rel => ((try rw [← HSL.out]); exact ⟨k + 1, by go_num, by omega, HX.out, HB6.out⟩)
     case measure => simp [intOf]; omega
    ·have HX := Lib.hid (show qaQ d = ownE h.zx vj hj.s.2.1 by rw [HV2.out, ← HSS.out, HST.out, if_neg (by simp), if_pos ho])
     clear HST
     generalize ownE h.zx vj hj.s.2.1 = x at *
     have d1 : (x != 0) = true := bne_iff_ne.2 ho
     go_wp2_with fail
     go_ret
     exact RgtP.mk HB5.out HX.out
  ·have hkn : k = h.t.s.2.1 := by omega
   have HX := Lib.hid (show qaQ d = 0 by rw [HV2.out, ← HSS.out, hkn, List.drop_of_length_le (by rw [HLEN.out]; exact Nat.le_refl _)]; rfl)
   clear hkn hb
   go_wp2_with fail
   go_ret
   exact RgtP.mk HBW.out HX.out
end Go.Proofs.YtbpmmmnphpkdjaaGreatDoor
