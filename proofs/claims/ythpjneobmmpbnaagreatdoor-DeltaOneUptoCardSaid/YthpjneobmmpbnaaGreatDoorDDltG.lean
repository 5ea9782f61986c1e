/- Which deltas may be (plain). No program; no condition. The bytes of a delta, and what is read off bytes as one, by definition. -/
import Derived.Test.YthpjneobmmpbnaaGreatDoorDOpenS
import Derived.Test.YthpjneobmmpbnaaGreatDoorDRplP
import Derived.Test.YthpjneobmmpbnaaGreatDoorDPathW
import Derived.Test.YthpjneobmmpbnaaGreatDoorDPlnD
import Derived.Lib.Bytealg
import Derived.Test.YthpjneobmmpbnaaGreatDoorDJutG
import Derived.Test.YthpjneobmmpbnaaGreatDoorDAclF
import Derived.Test.YthpjneobmmpbnaaGreatDoorDRows2
import Derived.Test.YthpjneobmmpbnaaGreatDoorDRefA6
namespace Go.Proofs.YthpjneobmmpbnaaGreatDoor
open Go.RowKit
/-! ### Which deltas may be -/
def badB (s : ByteArray) : Bool := !validP s || decide (s = sSlash)
def namedB (v : TxF) : Bool := if v.n.ty = 1 ∨ v.n.ty = 2 then badB v.n.path else if partB v.n.ty then !validP v.n.path else if v.n.ty = -11 then v.paths.any badB else false
def longB (x : IdV) : Bool := decide (256 < x.1.size) || decide (256 < x.2.size)
def greatB (v : TxF) (k : Nat) : Bool := decide (1048575 < v.data.length) || decide (16 < v.acl.length) || decide (1024 < v.paths.length) || decide (1024 < k) || v.acl.any (fun a => longB a.2) || v.ids.any longB
def spareB (v : TxF) (k : Nat) : Bool :=
  (!partB v.n.ty && decide (v.n.path ≠ ByteArray.empty)) || (!decide (v.n.ty = 1 ∨ v.n.ty = 5) && decide (v.data ≠ [])) || (!decide (v.n.ty = 1 ∨ v.n.ty = 7) && decide (v.acl ≠ [])) ||
  (!decide (v.n.ty = 1) && decide (v.n.ow ≠ 0)) || (!decide (v.n.ty = 1) && decide (v.n.cr ≠ 0)) || (!decide (v.n.ty = 5 ∨ v.n.ty = 7 ∨ v.n.ty = 13) && decide (v.n.ve ≠ 0)) ||
  (!decide (v.n.ty = 120) && (v.n.qh || decide (v.n.qc ≠ 0) || decide (v.n.qb ≠ 0))) || (!decide (v.n.ty = -11) && decide (v.paths ≠ [])) || (!decide (v.n.ty = -1) && decide (v.n.co ≠ 0)) || (!decide (v.n.ty = 14) && decide (k ≠ 0)) ||
  (!decide (v.n.ty = -10) && (decide (v.n.si ≠ 0) || decide (v.n.st ≠ 0) || decide (v.ids ≠ [])))
def utf8B (s : ByteArray) : Bool := Lib.validD s.data.toList
def cmpB (a b : ByteArray) : Int := Lib.compareBytes a.data.toList b.data.toList
/-- do paths not rise? -/
def fallB (l : List ByteArray) : Bool := (List.range (l.length - 1)).any fun j => decide (0 ≤ cmpB l[j]! l[j + 1]!)
open Classical in
noncomputable def oddB (z : Int) (v : TxF) (k : Nat) : Bool :=
  v.acl.any (fun a => !utf8B a.2.1 || !utf8B a.2.2) || spareB v k ||
  (if v.n.ty = -11 then fallB v.paths else if v.n.ty = 120 then (!v.n.qh || decide (v.n.qc < -1) || decide (v.n.qb < -1)) else if v.n.ty = -10 then (decide (v.n.si ≠ 0) || !decide (rightS (z, v.n.st, v.ids))) else if v.n.ty = -1 then decide (0 ≤ v.n.co) else false)
noncomputable def ownE (z : Int) (v : TxF) (k : Nat) : Int := if namedB v then 30 else if greatB v k then 3 else if oddB z v k then 1 else 0
/-- the error of the first part that is wrong -/
noncomputable def subsE (z : Int) : List TxT → Int
  | [] => 0
  | t :: r => if !partB t.v.n.ty then 110 else if ownE z t.v t.subs.length ≠ 0 then ownE z t.v t.subs.length else subsE z r
noncomputable def rightE (d : DlT) : Int :=
  if !knownB d.t.v.n.ty then 110 else if d.zx < 1 then 1 else if ownE d.zx d.t.v d.t.subs.length ≠ 0 then ownE d.zx d.t.v d.t.subs.length else subsE d.zx d.t.subs
end Go.Proofs.YthpjneobmmpbnaaGreatDoor
namespace Go.Proofs.YthpjneobmmpbnaaGreatDoor
def bufB (d : Bs) : Bs := beB d.length 4 ++ d
def aclsB (l : List AclV) : Bs := beB l.length 4 ++ l.flatMap aclB
def idsB (l : List IdV) : Bs := beB l.length 4 ++ l.flatMap idB
def txtsB (l : List ByteArray) : Bs := beB l.length 4 ++ l.flatMap txtB
/-- the bytes of a transaction without parts, behind its type -/
def leafB (v : TxF) : Bs :=
  if v.n.ty = 1 then txtB v.n.path ++ bufB v.data ++ aclsB v.acl ++ beB (m64 v.n.ow) 8 ++ beB (m32 v.n.cr) 4
  else if v.n.ty = 2 ∨ v.n.ty = 121 then txtB v.n.path
  else if v.n.ty = 5 then txtB v.n.path ++ bufB v.data ++ beB (m32 v.n.ve) 4
  else if v.n.ty = 7 then txtB v.n.path ++ aclsB v.acl ++ beB (m32 v.n.ve) 4
  else if v.n.ty = 13 then txtB v.n.path ++ beB (m32 v.n.ve) 4
  else if v.n.ty = 120 then txtB v.n.path ++ beB (m64 v.n.qc) 8 ++ beB (m64 v.n.qb) 8
  else if v.n.ty = -10 then beB (m32 v.n.st) 4 ++ idsB v.ids
  else if v.n.ty = -11 then txtsB v.paths
  else if v.n.ty = -1 then beB (m32 v.n.co) 4
  else []
def partBs (t : TxT) : Bs := beB (m32 t.v.n.ty) 4 ++ leafB t.v
def bodyB (t : TxT) : Bs := if t.v.n.ty = 14 then beB t.subs.length 4 ++ t.subs.flatMap partBs else leafB t.v
def headB (d : DlT) : Bs := beB (m64 d.se) 8 ++ beB (m32 d.xi) 4 ++ beB (m64 d.zx) 8 ++ beB (m64 d.ti) 8 ++ beB (m32 d.t.v.n.ty) 4
def encB (d : DlT) : Bs := headB d ++ bodyB d.t
/-! ### read -/
def blkF (ty : Int) : TxF := ⟨⟨ty, ⟨#[]⟩, 0, 0, 0, false, 0, 0, 0, 0, 0⟩, [], [], [], []⟩
/-- a transaction without parts, behind its type -/
def leafP (l : Bs) (ty : Int) (p : Nat) : PR TxF :=
  if ty = 1 then (textP l 4096 p).then fun s a => (bytesP l 1048575 a).then fun d a => (listP l 16 12 (aclP l) a).then fun z a => (longP l a).then fun o a => (intP l a).then fun n a => .ok (⟨⟨ty, toBA s, o, 0, n, false, 0, 0, 0, 0, 0⟩, d, z.map aclV, [], []⟩, a)
  else if ty = 2 ∨ ty = 121 then (textP l 4096 p).then fun s a => .ok (⟨⟨ty, toBA s, 0, 0, 0, false, 0, 0, 0, 0, 0⟩, [], [], [], []⟩, a)
  else if ty = 5 then (textP l 4096 p).then fun s a => (bytesP l 1048575 a).then fun d a => (intP l a).then fun n a => .ok (⟨⟨ty, toBA s, 0, n, 0, false, 0, 0, 0, 0, 0⟩, d, [], [], []⟩, a)
  else if ty = 7 then (textP l 4096 p).then fun s a => (listP l 16 12 (aclP l) a).then fun z a => (intP l a).then fun n a => .ok (⟨⟨ty, toBA s, 0, n, 0, false, 0, 0, 0, 0, 0⟩, [], z.map aclV, [], []⟩, a)
  else if ty = 13 then (textP l 4096 p).then fun s a => (intP l a).then fun n a => .ok (⟨⟨ty, toBA s, 0, n, 0, false, 0, 0, 0, 0, 0⟩, [], [], [], []⟩, a)
  else if ty = 120 then (textP l 4096 p).then fun s a => (longP l a).then fun c a => (longP l a).then fun b a => .ok (⟨⟨ty, toBA s, 0, 0, 0, true, c, b, 0, 0, 0⟩, [], [], [], []⟩, a)
  else if ty = -10 then (intP l p).then fun t a => (listP l 16 8 (idP l) a).then fun z a => .ok (⟨⟨ty, ⟨#[]⟩, 0, 0, 0, false, 0, 0, 0, t, 0⟩, [], [], z.map idV, []⟩, a)
  else if ty = -11 then (listP l 1024 5 (textP l 4096) p).then fun z a => .ok (⟨⟨ty, ⟨#[]⟩, 0, 0, 0, false, 0, 0, 0, 0, 0⟩, [], [], [], z.map toBA⟩, a)
  else if ty = -1 then (intP l p).then fun c a => .ok (⟨⟨ty, ⟨#[]⟩, 0, 0, 0, false, 0, 0, 0, 0, c⟩, [], [], [], []⟩, a)
  else .ok (blkF ty, p)
def partP (l : Bs) (p : Nat) : PR TxF := (intP l p).then fun ty a => if partB ty then leafP l ty a else .error (a, 110)
def leafT (v : TxF) : TxT := .mk v []
def bodyP (l : Bs) (ty : Int) (p : Nat) : PR TxT := if ty = 14 then (listP l 1024 8 (partP l) p).then fun z a => .ok (.mk (blkF 14) (z.map leafT), a) else (leafP l ty p).then fun v a => .ok (leafT v, a)
def readP (l : Bs) : PR DlT := (longP l 0).then fun se a => (intP l a).then fun xi a => (longP l a).then fun zx a => (longP l a).then fun ti a => (intP l a).then fun ty a => if knownB ty then (bodyP l ty a).then fun t a => .ok (⟨se, xi, zx, ti, t⟩, a) else .error (a, 110)
def noDl : DlT := ⟨0, 0, 0, 0, leafT (blkF 0)⟩
noncomputable def decD (l : Bs) : DlT × Nat × Int := match readP l with
  | .error (p, k) => (noDl, p, k)
  | .ok (d, p) => if p < l.length then (noDl, p, 21) else if rightE d ≠ 0 then (noDl, l.length, rightE d) else (d, 0, 0)
/-! ### the example -/
def exT : TxT := leafT ⟨⟨2, ⟨#[47, 97]⟩, 0, 0, 0, false, 0, 0, 0, 0, 0⟩, [], [], [], []⟩
def exD : DlT := ⟨1, 2, 3, 4, exT⟩
theorem ex_len : (encB exD).length = 38 := by decide
theorem ex_right : rightE exD = 0 := by
  have h1 : namedB exT.v = false := by decide
  have h2 : greatB exT.v 0 = false := by decide
  have h3 : oddB 3 exT.v 0 = false := by
    unfold oddB
    rw [show spareB exT.v 0 = false by decide]
    simp [exT, leafT, Tr.v]
  have h4 : ownE 3 exT.v 0 = 0 := by unfold ownE; rw [h1, h2, h3]; rfl
  unfold rightE
  show (if !knownB 2 then (110 : Int) else if (3 : Int) < 1 then 1 else if ownE 3 exT.v 0 ≠ 0 then ownE 3 exT.v 0 else subsE 3 []) = 0
  rw [h4]; rfl
theorem ex_read : readP (encB exD) = .ok (exD, 38) := by kernel_rfl
end Go.Proofs.YthpjneobmmpbnaaGreatDoor
namespace Go.Proofs.YthpjneobmmpbnaaGreatDoor
open Go.RowKit
set_option maxHeartbeats 1000000 in
theorem slEqual_any (A A' : Option Addr) (n m c c' : Nat) (xs ys : List AclV) (w : World) (B : Nat) (hx : Sl w B encAcl 3 A n xs) (hy : Sl w B encAcl 3 A' m ys) (hn : n ≤ 281474976710656) (hm : m ≤ 281474976710656) :
    Calls Tryz.prog 184 #[.slice A n c, .slice A' m c'] w (QuietB w (decide (xs = ys))) := by
  by_cases hnm : n = m
  · subst hnm
    have hlen : xs.length = ys.length := hx.1.trans hy.1.symm
    have HL := Lib.hid hlen; have HXL := Lib.hid hx.1; clear hlen
    have hneq := neqAcl
    go_enter Tryz.func184, Tryz.ntmps184
    go_wp2
    go_loopw [5, 13] (fun _ i wr => ∃ (k q : Nat), i = .int .i64 ↑k ∧ k ≤ n ∧ (∀ j, j < k → xs[j]! = ys[j]!) ∧ wr = w.drewN q) (fun _ i _ => n - (RowKit.intOf i).toNat)
    case atStart => exact ⟨0, 0, rfl, by omega, fun j hj => absurd hj (by omega), rfl⟩
    case round =>
      obtain ⟨k, q, rfl, hk, hall, rfl⟩ := hrel
      have HA := Lib.hid hall; clear hall
      by_cases hlt : k < n
      · obtain ⟨b, off, rfl, _, x0, x1, x2⟩ := SlAcl.at_ hx hlt
        obtain ⟨b', off', rfl, _, y0, y1, y2⟩ := SlAcl.at_ hy hlt
        have hyl : k < ys.length := by have := hy.1; omega
        by_cases he : xs[k]! = ys[k]!
        · have HA1 := Lib.hid (show ∀ j, j < k + 1 → xs[j]! = ys[j]! from fun j hj => by rcases Nat.lt_succ_iff_lt_or_eq.1 hj with h | rfl; exact HA.out j h; exact he)
          rw [he] at x0 x1 x2
          clear he
          generalize ys[k]! = y at *
          obtain ⟨p, s, t⟩ := y
          have hq := fun w : World => (neqAcl w s t s t p p).trans (by simp : _ = Result.ok (.bool false) w)
          clear hneq
          go_wp2
          go_quiet (fail)
          go_wp2
          go_roundw
          case rel => exact ⟨k + 1, q + nq, by go_num, by omega, HA1.out, rfl⟩
          case measure => simp [RowKit.intOf]; omega
        · have HE := Lib.hid (show decide (xs = ys) = false from decide_eq_false fun e => he (by rw [e]))
          have hd : (!decide (xs[k]! = ys[k]!)) = true := by rw [decide_eq_false he]; rfl
          have HW := Lib.hid hd
          clear he hd
          generalize xs[k]! = x at *
          generalize ys[k]! = y at *
          obtain ⟨p, s, t⟩ := x
          obtain ⟨p', s', t'⟩ := y
          have hq := fun w : World => (neqAcl w s t s' t' p p').trans (by rw [HW.out] : _ = Result.ok (.bool true) w)
          clear hneq
          go_wp2
          go_quiet (fail)
          go_wp2
          go_ret
          exact QuietB.mk ⟨q + nq, World.drewN_drewN ..⟩ HE.out.symm
      · have HE := Lib.hid (show decide (xs = ys) = true from decide_eq_true (list_ext_bang HL.out fun j hj => HA.out j (by have := HXL.out; omega)))
        go_wp2
        go_ret
        exact QuietB.mk ⟨q, rfl⟩ HE.out.symm
  · have HE := Lib.hid (show decide (xs = ys) = false from decide_eq_false fun e => hnm (by rw [← hx.1, ← hy.1, e]))
    have hd : ((n : Int) != (m : Int)) = true := by simp; omega
    clear hnm
    go_enter Tryz.func184, Tryz.ntmps184
    go_wp2
    go_ret
    exact QuietB.mk ⟨0, rfl⟩ HE.out.symm
set_option maxHeartbeats 1000000 in
theorem slEqualId_any (A A' : Option Addr) (n m c c' : Nat) (xs ys : List IdV) (w : World) (B : Nat) (hx : Sl w B encId 2 A n xs) (hy : Sl w B encId 2 A' m ys) (hn : n ≤ 281474976710656) (hm : m ≤ 281474976710656) :
    Calls Tryz.prog 185 #[.slice A n c, .slice A' m c'] w (QuietB w (decide (xs = ys))) := by
  by_cases hnm : n = m
  · subst hnm
    have hlen : xs.length = ys.length := hx.1.trans hy.1.symm
    have HL := Lib.hid hlen; have HXL := Lib.hid hx.1; clear hlen
    have hneq := neqId
    go_enter Tryz.func185, Tryz.ntmps185
    go_wp2
    go_loopw [5, 13] (fun _ i wr => ∃ (k q : Nat), i = .int .i64 ↑k ∧ k ≤ n ∧ (∀ j, j < k → xs[j]! = ys[j]!) ∧ wr = w.drewN q) (fun _ i _ => n - (RowKit.intOf i).toNat)
    case atStart => exact ⟨0, 0, rfl, by omega, fun j hj => absurd hj (by omega), rfl⟩
    case round =>
      obtain ⟨k, q, rfl, hk, hall, rfl⟩ := hrel
      have HA := Lib.hid hall; clear hall
      by_cases hlt : k < n
      · obtain ⟨b, off, rfl, _, x0, x1⟩ := SlId.at_ hx hlt
        obtain ⟨b', off', rfl, _, y0, y1⟩ := SlId.at_ hy hlt
        have hyl : k < ys.length := by have := hy.1; omega
        by_cases he : xs[k]! = ys[k]!
        · have HA1 := Lib.hid (show ∀ j, j < k + 1 → xs[j]! = ys[j]! from fun j hj => by rcases Nat.lt_succ_iff_lt_or_eq.1 hj with h | rfl; exact HA.out j h; exact he)
          rw [he] at x0 x1
          clear he
          generalize ys[k]! = y at *
          obtain ⟨s, t⟩ := y
          have hq := fun w : World => (neqId w s t s t).trans (by simp : _ = Result.ok (.bool false) w)
          clear hneq
          go_wp2
          go_quiet (fail)
          go_wp2
          go_roundw
          case rel => exact ⟨k + 1, q + nq, by go_num, by omega, HA1.out, rfl⟩
          case measure => simp [RowKit.intOf]; omega
        · have HE := Lib.hid (show decide (xs = ys) = false from decide_eq_false fun e => he (by rw [e]))
          have hd : (!decide (xs[k]! = ys[k]!)) = true := by rw [decide_eq_false he]; rfl
          have HW := Lib.hid hd
          clear he hd
          generalize xs[k]! = x at *
          generalize ys[k]! = y at *
          obtain ⟨s, t⟩ := x
          obtain ⟨s', t'⟩ := y
          have hq := fun w : World => (neqId w s t s' t').trans (by rw [HW.out] : _ = Result.ok (.bool true) w)
          clear hneq
          go_wp2
          go_quiet (fail)
          go_wp2
          go_ret
          exact QuietB.mk ⟨q + nq, World.drewN_drewN ..⟩ HE.out.symm
      · have HE := Lib.hid (show decide (xs = ys) = true from decide_eq_true (list_ext_bang HL.out fun j hj => HA.out j (by have := HXL.out; omega)))
        go_wp2
        go_ret
        exact QuietB.mk ⟨q, rfl⟩ HE.out.symm
  · have HE := Lib.hid (show decide (xs = ys) = false from decide_eq_false fun e => hnm (by rw [← hx.1, ← hy.1, e]))
    have hd : ((n : Int) != (m : Int)) = true := by simp; omega
    clear hnm
    go_enter Tryz.func185, Tryz.ntmps185
    go_wp2
    go_ret
    exact QuietB.mk ⟨0, rfl⟩ HE.out.symm
end Go.Proofs.YthpjneobmmpbnaaGreatDoor
namespace Go.Proofs.YthpjneobmmpbnaaGreatDoor
open Go.RowKit Go.MapKept
theorem slash_str (s : ByteArray) : (s.toList == [47]) = decide (s = sSlash) := str_is2 s _
theorem bad_any (s : ByteArray) (hs : s.size < 2147483648) (w : World) (hE : Env w) : Calls Tryz.prog 153 #[.string s] w (RetB w (badB s)) := by
  have cV := valid_any s hs w hE
  have f := slash_str s
  have HB := Lib.hid (show badB s = (!validP s || decide (s = sSlash)) from rfl)
  cases hv : validP s with
  | false =>
    rw [hv] at cV HB
    clear hv f
    go_enter Tryz.func153, Tryz.ntmps153
    go_wp2_with (go_at_call 71; refine cV.mono ?_; rintro e w1 ⟨rfl, hb⟩)
    go_ret
    exact RetB.mk hb (by rw [HB.out]; rfl)
  | true =>
    rw [hv] at cV HB
    clear hv
    generalize decide (s = sSlash) = b at *
    go_enter Tryz.func153, Tryz.ntmps153
    go_wp2_with (go_at_call 71; refine cV.mono ?_; rintro e w1 ⟨rfl, hb⟩)
    go_ret
    exact RetB.mk hb (by rw [HB.out]; simp)
theorem tx_below (w : World) (h : TxH) : Below w.heap.size w (w.alloc (.cells #[.int .i32 h.n.ty, .string h.n.path, slV h.d, slV h.a, .int .i64 h.n.ow, .int .i32 h.n.ve, .int .i32 h.n.cr, .bool h.n.qh, .int .i64 h.n.qc, .int .i64 h.n.qb, .int .i64 h.n.si, .int .i32 h.n.st, slV h.i, slV h.p, .int .i32 h.n.co, slV h.s] 33)) := (Below.refl _ w).alloc (Nat.le_refl _) _
set_option maxRecDepth 100000 in
theorem named_any (h : TxH) (v : TxF) (w : World) (R : Nat → Prop) (hv : locTx w R h v) (hE : Env w) (hs : v.n.path.size < 2147483648) (hp : v.paths.length ≤ 1048576) (hps : ∀ j, j < v.paths.length → v.paths[j]!.size < 2147483648) :
    Calls Tryz.prog 93 #[txV h] w (RetB w (namedB v)) := by
  have hb0 := tx_below w h
  have hn := hv.1
  have hE0 := hE.below (Nat.le_refl _) hb0
  have hpl := hv.2.2.2.2.len
  have hz := (hv.2.2.2.2.sl (fun _ => by simp [encStr])).belowMore hb0 hb0.size
  have HB := Lib.hid hb0
  have HD := Lib.hid (show namedB v = if h.n.ty = 1 ∨ h.n.ty = 2 then badB h.n.path else if partB h.n.ty then !validP h.n.path else if h.n.ty = -11 then v.paths.any badB else false by unfold namedB; rw [hn])
  rw [hn] at hs
  unfold txV
  by_cases h12 : h.n.ty = 1 ∨ h.n.ty = 2
  · rw [if_pos h12] at HD
    have cB := Lib.hid (bad_any h.n.path hs _ hE0)
    clear hE0 hz hb0
    rcases h12 with h1 | h1
    · have e1 : (h.n.ty == 1) = true := by rw [h1]; rfl
      clear h1
      go_enter Tryz.func93, Tryz.ntmps93
      go_wp2_with (go_at_call 153; refine cB.out.mono ?_; rintro e w1 ⟨rfl, hb⟩)
      go_ret
      exact RetB.mk (HB.out.trans (hb.mono HB.out.size)) HD.out.symm
    · have e1 : (h.n.ty == 1) = false := by rw [h1]; rfl
      have e2 : (h.n.ty == 2) = true := by rw [h1]; rfl
      clear h1
      go_enter Tryz.func93, Tryz.ntmps93
      go_wp2_with (go_at_call 153; refine cB.out.mono ?_; rintro e w1 ⟨rfl, hb⟩)
      go_ret
      exact RetB.mk (HB.out.trans (hb.mono HB.out.size)) HD.out.symm
  · rw [if_neg h12] at HD
    have e1 : (h.n.ty == 1) = false := beq_eq_false_iff_ne.2 fun e => h12 (.inl e)
    have e2 : (h.n.ty == 2) = false := beq_eq_false_iff_ne.2 fun e => h12 (.inr e)
    clear h12
    have cP := Lib.hid (fun W => part_any h.n.ty W)
    cases hpt : partB h.n.ty with
    | true =>
      rw [hpt] at HD cP
      have cV := Lib.hid (valid_any h.n.path hs _ hE0)
      have HV := Lib.hid (show namedB v = !validP h.n.path by rw [HD.out]; rfl)
      clear hpt hE0 hz hb0 HD
      generalize validP h.n.path = b at *
      go_enter Tryz.func93, Tryz.ntmps93
      go_wp2_with (first | (go_at_call 52; refine (cP.out _).mono ?_; rintro e w1 ⟨rfl, rfl⟩) | (go_at_call 71; refine cV.out.mono ?_; rintro e w1 ⟨rfl, hb⟩))
      go_ret
      exact RetB.mk (HB.out.trans (hb.mono HB.out.size)) HV.out.symm
    | false =>
      rw [hpt] at HD cP
      clear hpt
      by_cases h11 : h.n.ty = -11
      · have e3 : (h.n.ty == -11) = true := by rw [h11]; rfl
        have HV := Lib.hid (show namedB v = v.paths.any badB by rw [HD.out, if_neg (by simp), if_pos h11])
        have cC := Lib.hid (containsFuncStr_any h.p.1 h.p.2.1 h.p.2.2 153 (.func (.func 153) #[] #[]) rfl (enters_of Tryz.func153 (by kernel_rfl) rfl) v.paths badB _ hz (by omega) (fun W k hk hbW => bad_any _ (hps k (by omega)) W (hE0.below (Nat.le_refl _) hbW)))
        clear hE0 hz hb0 h11 HD
        generalize v.paths.any badB = b at *
        go_enter Tryz.func93, Tryz.ntmps93
        go_wp2_with (first | (go_at_call 52; refine (cP.out _).mono ?_; rintro e w1 ⟨rfl, rfl⟩) | (go_at_call 154; refine cC.out.mono ?_; rintro e w1 ⟨rfl, hb⟩))
        go_ret
        exact RetB.mk (HB.out.trans (hb.mono HB.out.size)) HV.out.symm
      · have e3 : (h.n.ty == -11) = false := beq_eq_false_iff_ne.2 h11
        have HV := Lib.hid (show namedB v = false by rw [HD.out, if_neg (by simp), if_neg h11])
        clear hE0 hz hb0 h11 HD
        go_enter Tryz.func93, Tryz.ntmps93
        go_wp2_with (go_at_call 52; refine (cP.out _).mono ?_; rintro e w1 ⟨rfl, rfl⟩)
        go_ret
        exact RetB.mk HB.out HV.out.symm
end Go.Proofs.YthpjneobmmpbnaaGreatDoor
namespace Go.Proofs.YthpjneobmmpbnaaGreatDoor
open Go.RowKit Go.MapKept
theorem long_any (s t : ByteArray) (w : World) : Calls Tryz.prog 155 #[.agg #[.string s, .string t]] w (RetB w (longB (s, t))) := by
  have hb0 : Below w.heap.size w (w.alloc (.cells #[.string s, .string t] 108)) := (Below.refl _ w).alloc (Nat.le_refl _) _
  have HB := Lib.hid hb0
  have HL := Lib.hid (show longB (s, t) = (decide (256 < s.size) || decide (256 < t.size)) from rfl)
  clear hb0
  by_cases h1 : 256 < s.size
  · have HV := Lib.hid (show longB (s, t) = true by rw [HL.out, decide_eq_true h1]; rfl)
    have d1 : decide (256 < (s.size : Int)) = true := decide_eq_true (by omega)
    clear h1
    go_enter Tryz.func155, Tryz.ntmps155
    go_wp2
    go_ret
    exact RetB.mk HB.out HV.out.symm
  · have d1 : decide (256 < (s.size : Int)) = false := decide_eq_false (by omega)
    have HV := Lib.hid (show longB (s, t) = decide (256 < (t.size : Int)) by rw [HL.out, decide_eq_false h1, Bool.false_or]; by_cases h : 256 < t.size; (rw [decide_eq_true h, decide_eq_true (by omega)]); (rw [decide_eq_false h, decide_eq_false (by omega)]))
    clear h1
    go_enter Tryz.func155, Tryz.ntmps155
    go_wp2
    go_ret
    exact RetB.mk HB.out HV.out.symm
theorem longA_any (p : Int) (s t : ByteArray) (b3 : Nat) (w : World) (hc : w.cell? ⟨b3, 0, none⟩ = some (.func (.func 155) #[] #[])) : Calls Tryz.prog 157 #[.agg #[.int .i32 p, .string s, .string t], .pointer (some ⟨b3, 0, none⟩)] w (RetB w (longB (s, t))) := by
  have hb0 : Below w.heap.size w (w.alloc (.cells #[.int .i32 p, .string s, .string t] 110)) := (Below.refl _ w).alloc (Nat.le_refl _) _
  have hc0 : (w.alloc (.cells #[.int .i32 p, .string s, .string t] 110)).cell? ⟨b3, 0, none⟩ = some (.func (.func 155) #[] #[]) := keep1 hc hb0
  have z0 : (w.alloc (.cells #[.int .i32 p, .string s, .string t] 110)).cell? ⟨w.heap.size, 1, none⟩ = some (.string s) := by simp
  have z1 : (w.alloc (.cells #[.int .i32 p, .string s, .string t] 110)).cell? ⟨w.heap.size, 2, none⟩ = some (.string t) := by simp
  have HL := Lib.hid (long_any s t)
  have HB := Lib.hid hb0
  clear hc hb0
  go_enter Tryz.func157, Tryz.ntmps157
  go_wp2_with (go_at_call 155; refine (HL.out _).mono ?_; rintro e w1 ⟨rfl, hb⟩)
  go_ret
  exact RetB.mk (HB.out.trans (hb.mono HB.out.size)) rfl
set_option maxRecDepth 100000 in
theorem great_any (h : TxH) (v : TxF) (w : World) (R : Nat → Prop) (hv : locTx w R h v) (ha : v.acl.length ≤ 1048576) (hi : v.ids.length ≤ 1048576) :
    Calls Tryz.prog 94 #[txV h] w (RetB w (greatB v h.s.2.1)) := by
  have hb0 : Below w.heap.size w ((w.alloc (.cells #[.int .i32 h.n.ty, .string h.n.path, slV h.d, slV h.a, .int .i64 h.n.ow, .int .i32 h.n.ve, .int .i32 h.n.cr, .bool h.n.qh, .int .i64 h.n.qc, .int .i64 h.n.qb, .int .i64 h.n.si, .int .i32 h.n.st, slV h.i, slV h.p, .int .i32 h.n.co, slV h.s] 33)).alloc (.cells #[.func (.func 155) #[] #[]] 177)) := (tx_below w h).alloc (by simp) _
  have hd := hv.2.1.len; have hal := hv.2.2.1.len; have hil := hv.2.2.2.1.len; have hpl := hv.2.2.2.2.len
  have HD := Lib.hid (show greatB v h.s.2.1 = (decide (1048575 < h.d.2.1) || decide (16 < h.a.2.1) || decide (1024 < h.p.2.1) || decide (1024 < h.s.2.1) || v.acl.any (fun a => longB a.2) || v.ids.any longB) by unfold greatB; rw [hd, hal, hpl])
  have za := (hv.2.2.1.sl (fun _ => by simp [encAcl])).belowMore hb0 hb0.size
  have zi := (hv.2.2.2.1.sl (fun _ => by simp [encId])).belowMore hb0 hb0.size
  have hcf : ((w.alloc (.cells #[.int .i32 h.n.ty, .string h.n.path, slV h.d, slV h.a, .int .i64 h.n.ow, .int .i32 h.n.ve, .int .i32 h.n.cr, .bool h.n.qh, .int .i64 h.n.qc, .int .i64 h.n.qb, .int .i64 h.n.si, .int .i32 h.n.st, slV h.i, slV h.p, .int .i32 h.n.co, slV h.s] 33)).alloc (.cells #[.func (.func 155) #[] #[]] 177)).cell? ⟨w.heap.size + 1, 0, none⟩ = some (.func (.func 155) #[] #[]) := by simp
  have cA := Lib.hid (fun W hbW => containsFuncAcl_any h.a.1 h.a.2.1 h.a.2.2 157 #[.pointer (some ⟨w.heap.size + 1, 0, none⟩)] (enters_of Tryz.func157 (by kernel_rfl) rfl) v.acl (fun a => longB a.2) W (za.belowMore hbW hbW.size) (by omega) (fun W2 k hk hb2 => longA_any _ _ _ _ W2 (keep1 (keep1 hcf hbW) hb2)))
  have cI := Lib.hid (fun W hbW => containsFuncId_any h.i.1 h.i.2.1 h.i.2.2 155 #[] (enters_of Tryz.func155 (by kernel_rfl) rfl) v.ids longB W (zi.belowMore hbW hbW.size) (by omega) (fun W2 k hk hb2 => long_any _ _ W2))
  have HCF := Lib.hid hcf
  have hst := store_new1 (P := Tryz.prog) (w.alloc (.cells #[.int .i32 h.n.ty, .string h.n.path, slV h.d, slV h.a, .int .i64 h.n.ow, .int .i32 h.n.ve, .int .i32 h.n.cr, .bool h.n.qh, .int .i64 h.n.qc, .int .i64 h.n.qb, .int .i64 h.n.si, .int .i32 h.n.st, slV h.i, slV h.p, .int .i32 h.n.co, slV h.s] 33)) 177 .nilFunc (.func (.func 155) #[] #[]) rfl (sz1 w _)
  have HB := Lib.hid hb0
  clear hb0 za zi hcf hd hpl hal hil ha hi
  unfold txV
  by_cases h1 : 1048575 < h.d.2.1
  · have d1 : decide (1048575 < (h.d.2.1 : Int)) = true := decide_eq_true (by omega)
    have HV := Lib.hid (show greatB v h.s.2.1 = true by rw [HD.out, decide_eq_true h1]; simp)
    clear h1 HD
    go_enter Tryz.func94, Tryz.ntmps94
    go_wp2_with fail
    go_ret
    exact RetB.mk HB.out HV.out.symm
  have d1 : decide (1048575 < (h.d.2.1 : Int)) = false := decide_eq_false (by omega)
  by_cases h2 : 16 < h.a.2.1
  · have d2 : decide (16 < (h.a.2.1 : Int)) = true := decide_eq_true (by omega)
    have HV := Lib.hid (show greatB v h.s.2.1 = true by rw [HD.out, decide_eq_true h2]; simp)
    clear h1 h2 HD
    go_enter Tryz.func94, Tryz.ntmps94
    go_wp2_with fail
    go_ret
    exact RetB.mk HB.out HV.out.symm
  have d2 : decide (16 < (h.a.2.1 : Int)) = false := decide_eq_false (by omega)
  by_cases h3 : 1024 < h.p.2.1
  · have d3 : decide (1024 < (h.p.2.1 : Int)) = true := decide_eq_true (by omega)
    have HV := Lib.hid (show greatB v h.s.2.1 = true by rw [HD.out, decide_eq_true h3]; simp)
    clear h1 h2 h3 HD
    go_enter Tryz.func94, Tryz.ntmps94
    go_wp2_with fail
    go_ret
    exact RetB.mk HB.out HV.out.symm
  have d3 : decide (1024 < (h.p.2.1 : Int)) = false := decide_eq_false (by omega)
  by_cases h4 : 1024 < h.s.2.1
  · have d4 : decide (1024 < (h.s.2.1 : Int)) = true := decide_eq_true (by omega)
    have HV := Lib.hid (show greatB v h.s.2.1 = true by rw [HD.out, decide_eq_true h4]; simp)
    clear h1 h2 h3 h4 HD
    go_enter Tryz.func94, Tryz.ntmps94
    go_wp2_with fail
    go_ret
    exact RetB.mk HB.out HV.out.symm
  have d4 : decide (1024 < (h.s.2.1 : Int)) = false := decide_eq_false (by omega)
  have HV := Lib.hid (show greatB v h.s.2.1 = (v.acl.any (fun a => longB a.2) || v.ids.any longB) by rw [HD.out, decide_eq_false h1, decide_eq_false h2, decide_eq_false h3, decide_eq_false h4]; rfl)
  clear h1 h2 h3 h4 HD
  generalize v.ids.any longB = bi at *
  cases hq : v.acl.any (fun a => longB a.2) with
  | true =>
    rw [hq] at HV cA
    clear hq
    go_enter Tryz.func94, Tryz.ntmps94
    go_wp2_with (go_at_call 156; refine (cA.out _ (Below.refl _ _)).mono ?_; rintro e w1 ⟨rfl, hb⟩)
    go_ret
    exact RetB.mk (HB.out.trans (hb.mono HB.out.size)) (by rw [HV.out]; rfl)
  | false =>
    rw [hq] at HV cA
    clear hq
    have zz : ((w.alloc (.cells #[.int .i32 h.n.ty, .string h.n.path, slV h.d, slV h.a, .int .i64 h.n.ow, .int .i32 h.n.ve, .int .i32 h.n.cr, .bool h.n.qh, .int .i64 h.n.qc, .int .i64 h.n.qb, .int .i64 h.n.si, .int .i32 h.n.st, slV h.i, slV h.p, .int .i32 h.n.co, slV h.s] 33)).alloc (.cells #[.func (.func 155) #[] #[]] 177)).cell? ⟨w.heap.size, 12, none⟩ = some (slV h.i) := by simp
    have ZZ := Lib.hid zz
    clear zz
    go_enter Tryz.func94, Tryz.ntmps94
    go_wp2_with (first | (go_at_call 156; refine (cA.out _ (Below.refl _ _)).mono ?_; rintro e w1 ⟨rfl, hb⟩; have y1 := keep1 HCF.out hb; have y2 := keep1 ZZ.out hb) | (go_at_call 158; refine (cI.out _ hb).mono ?_; rintro e w2 ⟨rfl, hb2⟩))
    go_ret
    exact RetB.mk (HB.out.trans ((hb.trans (hb2.mono hb.size)).mono HB.out.size)) (by rw [HV.out]; rfl)
end Go.Proofs.YthpjneobmmpbnaaGreatDoor
namespace Go.Proofs.YthpjneobmmpbnaaGreatDoor
open Go.RowKit
def RiR (l : List IdV) (n : Nat) (w : World) (i : Value) (wr : World) : Prop := ∃ k : Nat, i = .int .i64 ↑k ∧ k ≤ n ∧ (∀ j, j < k → identP l[j]! = true ∧ (l.take j).any (fun y => decide (y = l[j]!)) = false) ∧ Below w.heap.size w wr
def RjR (l : List IdV) (k : Nat) (w1 : World) (i : Value) (wr : World) : Prop := ∃ (j q : Nat), i = .int .i64 ↑j ∧ j ≤ k ∧ (∀ a, a < j → l[a]! ≠ l[k]!) ∧ wr = w1.drewN q
set_option maxRecDepth 100000 in
set_option maxHeartbeats 2000000 in
theorem refIds_any (A : Option Addr) (n c : Nat) (l : List IdV) (w : World) (hz : Sl w w.heap.size encId 2 A n l) (hn : n ≤ 1048576) (hs : SmallI l n 1048576) : Calls Tryz.prog 204 #[.slice A n c] w (RtPost l w) := by
  have HZ := Lib.hid hz; have HS := Lib.hid hs; have HL := Lib.hid hz.len
  clear hz hs
  go_enter Tryz.func204, Tryz.ntmps204
  go_wp2_with fail
  go_loopw [3] (fun i wr => RiR l n w i wr) (fun i _ => n - (RowKit.intOf i).toNat)
  case atStart => exact ⟨0, rfl, Nat.zero_le _, fun j hj => absurd hj (by omega), Below.refl _ _⟩
  case round =>
    obtain ⟨k, rfl, hk, hall, hb⟩ := hrel
    have HA := Lib.hid hall; have HB := Lib.hid hb
    clear hall hb
    by_cases hkn : k < n
    · have hkn2 : ((k : Nat) : Int) < (n : Int) := by omega
      obtain ⟨b, off, hA, hbl, x0, x1⟩ := SlId.at_ (HZ.out.below HB.out) hkn
      have HSM := Lib.hid (HS.out k hkn)
      have HI := Lib.hid (show identP l[k]! = true → (l.take k).any (fun y => decide (y = l[k]!)) = false → ∀ j, j < k + 1 → identP l[j]! = true ∧ (l.take j).any (fun y => decide (y = l[j]!)) = false from fun h1 h2 j hj => by rcases Nat.lt_succ_iff_lt_or_eq.1 hj with h | rfl; exact HA.out j h; exact ⟨h1, h2⟩)
      have HJ := Lib.hid (show idsOk l → identP l[k]! = true ∧ (l.take k).any (fun y => decide (y = l[k]!)) = false from fun h => h k (by rw [HL.out]; exact hkn))
      subst hA
      obtain ⟨zk, hzk⟩ : ∃ z, l[k]! = z := ⟨_, rfl⟩
      have HZK := Lib.hid hzk
      rw [hzk] at x0 x1
      clear hzk
      obtain ⟨s, t⟩ := zk
      have HSM2 := Lib.hid (show s.size ≤ 1048576 ∧ t.size ≤ 1048576 by have := HSM.out; rw [HZK.out] at this; exact this)
      have cI := refIdent_any s t (Nat.le_trans HSM2.out.2 (by decide)) wr
      cases hid : identP (s, t) with
      | false =>
        have HF := Lib.hid (show ¬ idsOk l from fun h => by have := (HJ.out h).1; rw [HZK.out, hid] at this; cases this)
        rw [hid] at cI
        clear hid
        go_wp2_with fail
        refine cI.mono ?_
        rintro e w5 ⟨rfl, hb5⟩
        have HB5 := Lib.hid (HB.out.trans (hb5.mono HB.out.size))
        clear hb5
        go_wp2_with fail
        go_ret
        exact ⟨⟨false, rfl, by simp [HF.out]⟩, HB5.out⟩
      | true =>
        have HID := Lib.hid hid
        rw [hid] at cI
        clear hid
        go_wp2_with fail
        refine cI.mono ?_
        rintro e w5 ⟨rfl, hb5⟩
        have HB5 := Lib.hid (HB.out.trans (hb5.mono HB.out.size))
        clear hb5 x0 x1 cI
        go_wp2_with fail
        go_loopw [4] (fun i wr => RjR l k w5 i wr) (fun i _ => k - (RowKit.intOf i).toNat)
        case atStart => exact ⟨0, 0, rfl, Nat.zero_le _, fun a ha => absurd ha (by omega), rfl⟩
        case round =>
          obtain ⟨j, q, rfl, hj, hne, rfl⟩ := hrel
          have HNE := Lib.hid hne
          clear hne
          by_cases hjk : j < k
          · have hjk2 : ((j : Nat) : Int) < (k : Int) := by omega
            have hjn : ((j : Nat) : Int) < (n : Int) := by omega
            obtain ⟨b2, off2, hA2, _, p0, p1⟩ := SlId.at_ (HZ.out.below HB5.out) (show j < n by omega)
            obtain ⟨b3, off3, hA3, _, r0, r1⟩ := SlId.at_ (HZ.out.below HB5.out) hkn
            injection hA2 with hA2
            injection hA2 with hA4 hA5
            subst hA4 hA5
            injection hA3 with hA3
            injection hA3 with hA4 hA5
            subst hA4 hA5
            rw [HZK.out] at r0 r1
            obtain ⟨zj, hzj⟩ : ∃ z, l[j]! = z := ⟨_, rfl⟩
            have HZJ := Lib.hid hzj
            rw [hzj] at p0 p1
            clear hzj
            obtain ⟨s', t'⟩ := zj
            cases hd : decide ((s', t') = (s, t)) with
            | true =>
              have HF := Lib.hid (show ¬ idsOk l from fun h => by
                have h2 := (HJ.out h).2
                rw [List.any_eq_false] at h2
                have hll := HL.out
                refine h2 l[j]! ?_ (by rw [HZJ.out, HZK.out]; exact hd)
                rw [getElem!_pos l j (by omega)]
                exact List.mem_take_iff_getElem.2 ⟨j, by omega, rfl⟩)
              have hq := fun w : World => (eqId w s' t' s t).trans (by rw [hd] : _ = Result.ok (.bool true) w)
              clear hd
              go_wp2_with fail
              go_quiet (fail)
              go_wp2_with fail
              go_ret
              exact ⟨⟨false, rfl, by simp [HF.out]⟩, drewN_below (drewN_below HB5.out q) nq⟩
            | false =>
              have HN2 := Lib.hid (show ∀ a, a < j + 1 → l[a]! ≠ l[k]! from fun a ha => by
                rcases Nat.lt_succ_iff_lt_or_eq.1 ha with h | rfl
                · exact HNE.out a h
                · rw [HZJ.out, HZK.out]; exact of_decide_eq_false hd)
              have hq := fun w : World => (eqId w s' t' s t).trans (by rw [hd] : _ = Result.ok (.bool false) w)
              clear hd
              go_wp2_with fail
              go_quiet (fail)
              go_wp2_with fail
              go_roundw
              case rel => exact ⟨j + 1, q + nq, by go_num, by omega, HN2.out, by first | rfl | rw [World.drewN_drewN]⟩
              case measure => simp [RowKit.intOf]; omega
          · have hjk2 : ¬ ((j : Nat) : Int) < (k : Int) := by omega
            have HANY := Lib.hid (show (l.take k).any (fun y => decide (y = l[k]!)) = false by
              rw [List.any_eq_false]
              intro y hy
              obtain ⟨a, ha, e⟩ := List.mem_take_iff_getElem.1 hy
              have h2 := HNE.out a (by omega)
              rw [getElem!_pos l a (by omega), e] at h2
              simpa using h2)
            have HI2 := Lib.hid (HI.out (by rw [HZK.out]; exact HID.out) HANY.out)
            go_wp2_with fail
            go_roundw
            case rel => exact ⟨k + 1, by go_num, by omega, HI2.out, drewN_below HB5.out q⟩
            case measure => simp [RowKit.intOf]; omega
    · have hkn2 : ¬ ((k : Nat) : Int) < (n : Int) := by omega
      have HT := Lib.hid (show idsOk l from fun j hj => HA.out j (by rw [HL.out] at hj; omega))
      go_wp2_with fail
      go_ret
      exact ⟨⟨true, rfl, by simp [HT.out]⟩, HB.out⟩
open Classical in
set_option maxRecDepth 100000 in
set_option maxHeartbeats 2000000 in
theorem refRightS_any (i tm : Int) (A : Option Addr) (n c : Nat) (l : List IdV) (w : World) (h : SesOk w (i, tm, A, n, c) l 1048576) : Calls Tryz.prog 165 #[.agg #[.int .i64 i, .int .i32 tm, .slice A n c]] w (RetB w (decide (rightS (i, tm, l)))) := by
  obtain ⟨_, h2, h3, h4, h5, h6⟩ := h
  have hl : l.length = n := h3.len
  have hb0 : Below w.heap.size w (w.alloc (.cells #[.int .i64 i, .int .i32 tm, .slice A n c] 28)) := (Below.refl _ w).alloc (Nat.le_refl _) _
  obtain ⟨bb, HBB⟩ : ∃ bb, Hid (decide (rightS (i, tm, l)) = bb) := ⟨_, Lib.hid rfl⟩
  rw [HBB.out]
  have HB := Lib.hid hb0
  by_cases hr : 0 < i ∧ 4 ≤ tm ∧ tm ≤ 1048576 ∧ n ≤ 16
  · obtain ⟨r1, r2, r3, r4⟩ := hr
    have r5 : (n : Int) ≤ 16 := by omega
    have cI := refIds_any A n c l _ (h3.belowMore hb0 hb0.size) h5 h6
    have HRI := Lib.hid (show rightS (i, tm, l) ↔ idsOk l by
      show (0 < i ∧ 4 ≤ tm ∧ tm ≤ 1048576 ∧ l.length ≤ 16 ∧ idsOk l) ↔ idsOk l
      rw [hl]
      exact ⟨fun h => h.2.2.2.2, fun h => ⟨r1, r2, r3, r4, h⟩⟩)
    clear hb0 h3 h4 h6
    go_enter Tryz.func165, Tryz.ntmps165
    go_wp2_with fail
    refine cI.mono ?_
    rintro e w5 ⟨⟨b, rfl, hb⟩, hb5⟩
    have HB5 := Lib.hid (HB.out.trans (hb5.mono HB.out.size))
    have HE := Lib.hid (show b = bb by rw [← HBB.out, Bool.eq_iff_iff, decide_eq_true_iff, HRI.out]; exact hb)
    clear hb hb5
    cases b
    all_goals (
      go_wp2_with fail
      go_ret
      exact RetB.mk HB5.out HE.out)
  · have HE := Lib.hid (show false = bb by
      rw [← HBB.out, eq_comm, decide_eq_false_iff_not]
      rintro ⟨a1, a2, a3, a4, _⟩
      exact hr ⟨a1, a2, a3, by rw [← hl]; exact a4⟩)
    have hc : ¬ 0 < i ∨ (0 < i ∧ ¬ 4 ≤ tm) ∨ (0 < i ∧ 4 ≤ tm ∧ ¬ tm ≤ 1048576) ∨ (0 < i ∧ 4 ≤ tm ∧ tm ≤ 1048576 ∧ ¬ (n : Int) ≤ 16) := by
      by_cases a1 : 0 < i
      · by_cases a2 : 4 ≤ tm
        · by_cases a3 : tm ≤ 1048576
          · exact .inr (.inr (.inr ⟨a1, a2, a3, fun a4 => hr ⟨a1, a2, a3, by omega⟩⟩))
          · exact .inr (.inr (.inl ⟨a1, a2, a3⟩))
        · exact .inr (.inl ⟨a1, a2⟩)
      · exact .inl a1
    clear hr hb0 h3 h4 h6 hl
    rcases hc with a1 | ⟨a1, a2⟩ | ⟨a1, a2, a3⟩ | ⟨a1, a2, a3, a4⟩
    all_goals (
      go_enter Tryz.func165, Tryz.ntmps165
      go_wp2_with fail
      go_ret
      exact RetB.mk HB.out HE.out)
end Go.Proofs.YthpjneobmmpbnaaGreatDoor
