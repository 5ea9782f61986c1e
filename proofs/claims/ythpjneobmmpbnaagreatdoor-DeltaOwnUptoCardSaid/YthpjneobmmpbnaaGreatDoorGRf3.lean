/- Which deltas may be (plain). No program; no condition. The bytes of a delta, and what is read off bytes as one, by definition. -/
import Derived.Test.YthpjneobmmpbnaaGreatDoorGTxnP
import Derived.Test.YthpjneobmmpbnaaGreatDoorGDltA
import Derived.Test.YthpjneobmmpbnaaGreatDoorGPathW
import Derived.Test.YthpjneobmmpbnaaGreatDoorGPlnD
import Derived.Lib.Bytealg
import Derived.Test.YthpjneobmmpbnaaGreatDoorGJutL
import Derived.Test.YthpjneobmmpbnaaGreatDoorGAclF
import Derived.Test.YthpjneobmmpbnaaGreatDoorGRows2
import Derived.Defers
import Derived.Recover
import Derived.Lib.Builder
import Derived.Test.YthpjneobmmpbnaaGreatDoorGRChar
import Derived.Test.YthpjneobmmpbnaaGreatDoorGRplP
import Derived.Test.YthpjneobmmpbnaaGreatDoorGAclDec
namespace Go.Proofs.YthpjneobmmpbnaaGreatDoor
open Go.RowKit
/-! ### Which deltas may be -/
def badB (s : ByteArray) : Bool := !validP s || decide (s = sSlash)
def namedB (v : TxF) : Bool := if v.n.ty = 1 ∨ v.n.ty = 2 then badB v.n.path else if partB v.n.ty then !validP v.n.path else if v.n.ty = -11 then v.paths.any badB else false
def longB (x : IdV) : Bool := decide (256 < x.1.size) || decide (256 < x.2.size)
def greatB (v : TxF) (k : Nat) : Bool := decide (1048575 < v.data.length) || decide (16 < v.acl.length) || decide (1024 < v.paths.length) || decide (1024 < k) || v.acl.any (fun a => longB a.2) || v.ids.any longB
def spareB (v : TxF) (k : Nat) : Bool :=
  (!partB v.n.ty && decide (v.n.path ≠ ByteArray.empty)) || (!decide (v.n.ty = 1 ∨ v.n.ty = 5) && decide (v.data ≠ [])) || (!decide (v.n.ty = 1 ∨ v.n.ty = 7) && decide (v.acl ≠ [])) ||
  (!decide (v.n.ty = 1) && decide (v.n.ow ≠ 0)) || (!decide (v.n.ty = 1) && decide (v.n.cr ≠ 0)) || (!decide (v.n.ty = 5 ∨ v.n.ty = 7 ∨ v.n.ty = 13) && decide (v.n.ve ≠ 0)) ||
  (!decide (v.n.ty = 120) && (v.n.qh || decide (v.n.qc ≠ 0) || decide (v.n.qb ≠ 0))) || (!decide (v.n.ty = -11) && decide (v.paths ≠ [])) || (!decide (v.n.ty = -1) && decide (v.n.co ≠ 0)) || (!decide (v.n.ty = 14) && decide (k ≠ 0)) ||
  (!decide (v.n.ty = -10) && (decide (v.n.si ≠ 0) || decide (v.n.st ≠ 0) || decide (v.ids ≠ [])))
def utf8B (s : ByteArray) : Bool := Lib.validD s.data.toList
def cmpB (a b : ByteArray) : Int := Lib.compareBytes a.data.toList b.data.toList
/-- do paths not rise? -/
def fallB (l : List ByteArray) : Bool := (List.range (l.length - 1)).any fun j => decide (0 ≤ cmpB l[j]! l[j + 1]!)
open Classical in
noncomputable def oddB (z : Int) (v : TxF) (k : Nat) : Bool :=
  v.acl.any (fun a => !utf8B a.2.1 || !utf8B a.2.2) || spareB v k ||
  (if v.n.ty = -11 then fallB v.paths else if v.n.ty = 120 then (!v.n.qh || decide (v.n.qc < -1) || decide (v.n.qb < -1)) else if v.n.ty = -10 then (decide (v.n.si ≠ 0) || !decide (rightS (z, v.n.st, v.ids))) else if v.n.ty = -1 then decide (0 ≤ v.n.co) else false)
noncomputable def ownE (z : Int) (v : TxF) (k : Nat) : Int := if namedB v then 30 else if greatB v k then 3 else if oddB z v k then 1 else 0
/-- the error of the first part that is wrong -/
noncomputable def subsE (z : Int) : List TxT → Int
  | [] => 0
  | t :: r => if !partB t.v.n.ty then 110 else if ownE z t.v t.subs.length ≠ 0 then ownE z t.v t.subs.length else subsE z r
noncomputable def rightE (d : DlT) : Int :=
  if !knownB d.t.v.n.ty then 110 else if d.zx < 1 then 1 else if ownE d.zx d.t.v d.t.subs.length ≠ 0 then ownE d.zx d.t.v d.t.subs.length else subsE d.zx d.t.subs
end Go.Proofs.YthpjneobmmpbnaaGreatDoor
namespace Go.Proofs.YthpjneobmmpbnaaGreatDoor
def bufB (d : Bs) : Bs := beB d.length 4 ++ d
def aclsB (l : List AclV) : Bs := beB l.length 4 ++ l.flatMap aclB
def idsB (l : List IdV) : Bs := beB l.length 4 ++ l.flatMap idB
def txtsB (l : List ByteArray) : Bs := beB l.length 4 ++ l.flatMap txtB
/-- the bytes of a transaction without parts, behind its type -/
def leafB (v : TxF) : Bs :=
  if v.n.ty = 1 then txtB v.n.path ++ bufB v.data ++ aclsB v.acl ++ beB (m64 v.n.ow) 8 ++ beB (m32 v.n.cr) 4
  else if v.n.ty = 2 ∨ v.n.ty = 121 then txtB v.n.path
  else if v.n.ty = 5 then txtB v.n.path ++ bufB v.data ++ beB (m32 v.n.ve) 4
  else if v.n.ty = 7 then txtB v.n.path ++ aclsB v.acl ++ beB (m32 v.n.ve) 4
  else if v.n.ty = 13 then txtB v.n.path ++ beB (m32 v.n.ve) 4
  else if v.n.ty = 120 then txtB v.n.path ++ beB (m64 v.n.qc) 8 ++ beB (m64 v.n.qb) 8
  else if v.n.ty = -10 then beB (m32 v.n.st) 4 ++ idsB v.ids
  else if v.n.ty = -11 then txtsB v.paths
  else if v.n.ty = -1 then beB (m32 v.n.co) 4
  else []
def partBs (t : TxT) : Bs := beB (m32 t.v.n.ty) 4 ++ leafB t.v
def bodyB (t : TxT) : Bs := if t.v.n.ty = 14 then beB t.subs.length 4 ++ t.subs.flatMap partBs else leafB t.v
def headB (d : DlT) : Bs := beB (m64 d.se) 8 ++ beB (m32 d.xi) 4 ++ beB (m64 d.zx) 8 ++ beB (m64 d.ti) 8 ++ beB (m32 d.t.v.n.ty) 4
def encB (d : DlT) : Bs := headB d ++ bodyB d.t
/-! ### read -/
def blkF (ty : Int) : TxF := ⟨⟨ty, ⟨#[]⟩, 0, 0, 0, false, 0, 0, 0, 0, 0⟩, [], [], [], []⟩
/-- a transaction without parts, behind its type -/
def leafP (l : Bs) (ty : Int) (p : Nat) : PR TxF :=
  if ty = 1 then (textP l 4096 p).then fun s a => (bytesP l 1048575 a).then fun d a => (listP l 16 12 (aclP l) a).then fun z a => (longP l a).then fun o a => (intP l a).then fun n a => .ok (⟨⟨ty, toBA s, o, 0, n, false, 0, 0, 0, 0, 0⟩, d, z.map aclV, [], []⟩, a)
  else if ty = 2 ∨ ty = 121 then (textP l 4096 p).then fun s a => .ok (⟨⟨ty, toBA s, 0, 0, 0, false, 0, 0, 0, 0, 0⟩, [], [], [], []⟩, a)
  else if ty = 5 then (textP l 4096 p).then fun s a => (bytesP l 1048575 a).then fun d a => (intP l a).then fun n a => .ok (⟨⟨ty, toBA s, 0, n, 0, false, 0, 0, 0, 0, 0⟩, d, [], [], []⟩, a)
  else if ty = 7 then (textP l 4096 p).then fun s a => (listP l 16 12 (aclP l) a).then fun z a => (intP l a).then fun n a => .ok (⟨⟨ty, toBA s, 0, n, 0, false, 0, 0, 0, 0, 0⟩, [], z.map aclV, [], []⟩, a)
  else if ty = 13 then (textP l 4096 p).then fun s a => (intP l a).then fun n a => .ok (⟨⟨ty, toBA s, 0, n, 0, false, 0, 0, 0, 0, 0⟩, [], [], [], []⟩, a)
  else if ty = 120 then (textP l 4096 p).then fun s a => (longP l a).then fun c a => (longP l a).then fun b a => .ok (⟨⟨ty, toBA s, 0, 0, 0, true, c, b, 0, 0, 0⟩, [], [], [], []⟩, a)
  else if ty = -10 then (intP l p).then fun t a => (listP l 16 8 (idP l) a).then fun z a => .ok (⟨⟨ty, ⟨#[]⟩, 0, 0, 0, false, 0, 0, 0, t, 0⟩, [], [], z.map idV, []⟩, a)
  else if ty = -11 then (listP l 1024 5 (textP l 4096) p).then fun z a => .ok (⟨⟨ty, ⟨#[]⟩, 0, 0, 0, false, 0, 0, 0, 0, 0⟩, [], [], [], z.map toBA⟩, a)
  else if ty = -1 then (intP l p).then fun c a => .ok (⟨⟨ty, ⟨#[]⟩, 0, 0, 0, false, 0, 0, 0, 0, c⟩, [], [], [], []⟩, a)
  else .ok (blkF ty, p)
def partP (l : Bs) (p : Nat) : PR TxF := (intP l p).then fun ty a => if partB ty then leafP l ty a else .error (a, 110)
def leafT (v : TxF) : TxT := .mk v []
def bodyP (l : Bs) (ty : Int) (p : Nat) : PR TxT := if ty = 14 then (listP l 1024 8 (partP l) p).then fun z a => .ok (.mk (blkF 14) (z.map leafT), a) else (leafP l ty p).then fun v a => .ok (leafT v, a)
def readP (l : Bs) : PR DlT := (longP l 0).then fun se a => (intP l a).then fun xi a => (longP l a).then fun zx a => (longP l a).then fun ti a => (intP l a).then fun ty a => if knownB ty then (bodyP l ty a).then fun t a => .ok (⟨se, xi, zx, ti, t⟩, a) else .error (a, 110)
def noDl : DlT := ⟨0, 0, 0, 0, leafT (blkF 0)⟩
noncomputable def decD (l : Bs) : DlT × Nat × Int := match readP l with
  | .error (p, k) => (noDl, p, k)
  | .ok (d, p) => if p < l.length then (noDl, p, 21) else if rightE d ≠ 0 then (noDl, l.length, rightE d) else (d, 0, 0)
/-! ### the example -/
def exT : TxT := leafT ⟨⟨2, ⟨#[47, 97]⟩, 0, 0, 0, false, 0, 0, 0, 0, 0⟩, [], [], [], []⟩
def exD : DlT := ⟨1, 2, 3, 4, exT⟩
theorem ex_len : (encB exD).length = 38 := by decide
theorem ex_right : rightE exD = 0 := by
  have h1 : namedB exT.v = false := by decide
  have h2 : greatB exT.v 0 = false := by decide
  have h3 : oddB 3 exT.v 0 = false := by
    unfold oddB
    rw [show spareB exT.v 0 = false by decide]
    simp [exT, leafT, Tr.v]
  have h4 : ownE 3 exT.v 0 = 0 := by unfold ownE; rw [h1, h2, h3]; rfl
  unfold rightE
  show (if !knownB 2 then (110 : Int) else if (3 : Int) < 1 then 1 else if ownE 3 exT.v 0 ≠ 0 then ownE 3 exT.v 0 else subsE 3 []) = 0
  rw [h4]; rfl
theorem ex_read : readP (encB exD) = .ok (exD, 38) := by kernel_rfl
end Go.Proofs.YthpjneobmmpbnaaGreatDoor
namespace Go.Proofs.YthpjneobmmpbnaaGreatDoor
open Go.RowKit
theorem ty_cases (t : Int) : t = 1 ∨ t = 2 ∨ t = 121 ∨ t = 5 ∨ t = 7 ∨ t = 13 ∨ t = 120 ∨ t = 14 ∨ t = -10 ∨ t = -11 ∨ t = -1 ∨ (t ≠ 1 ∧ t ≠ 2 ∧ t ≠ 121 ∧ t ≠ 5 ∧ t ≠ 7 ∧ t ≠ 13 ∧ t ≠ 120 ∧ t ≠ 14 ∧ t ≠ -10 ∧ t ≠ -11 ∧ t ≠ -1) := by omega
end Go.Proofs.YthpjneobmmpbnaaGreatDoor
namespace Go.Proofs.YthpjneobmmpbnaaGreatDoor
open Go.RowKit
set_option maxHeartbeats 1000000 in
theorem slEqual_any (A A' : Option Addr) (n m c c' : Nat) (xs ys : List AclV) (w : World) (B : Nat) (hx : Sl w B encAcl 3 A n xs) (hy : Sl w B encAcl 3 A' m ys) (hn : n ≤ 281474976710656) (hm : m ≤ 281474976710656) :
    Calls Tryz.prog 184 #[.slice A n c, .slice A' m c'] w (QuietB w (decide (xs = ys))) := by
  by_cases hnm : n = m
  · subst hnm
    have hlen : xs.length = ys.length := hx.1.trans hy.1.symm
    have HL := Lib.hid hlen; have HXL := Lib.hid hx.1; clear hlen
    have hneq := neqAcl
    go_enter Tryz.func184, Tryz.ntmps184
    go_wp2
    go_loopw [5, 13] (fun _ i wr => ∃ (k q : Nat), i = .int .i64 ↑k ∧ k ≤ n ∧ (∀ j, j < k → xs[j]! = ys[j]!) ∧ wr = w.drewN q) (fun _ i _ => n - (RowKit.intOf i).toNat)
    case atStart => exact ⟨0, 0, rfl, by omega, fun j hj => absurd hj (by omega), rfl⟩
    case round =>
      obtain ⟨k, q, rfl, hk, hall, rfl⟩ := hrel
      have HA := Lib.hid hall; clear hall
      by_cases hlt : k < n
      · obtain ⟨b, off, rfl, _, x0, x1, x2⟩ := SlAcl.at_ hx hlt
        obtain ⟨b', off', rfl, _, y0, y1, y2⟩ := SlAcl.at_ hy hlt
        have hyl : k < ys.length := by have := hy.1; omega
        by_cases he : xs[k]! = ys[k]!
        · have HA1 := Lib.hid (show ∀ j, j < k + 1 → xs[j]! = ys[j]! from fun j hj => by rcases Nat.lt_succ_iff_lt_or_eq.1 hj with h | rfl; exact HA.out j h; exact he)
          rw [he] at x0 x1 x2
          clear he
          generalize ys[k]! = y at *
          obtain ⟨p, s, t⟩ := y
          have hq := fun w : World => (neqAcl w s t s t p p).trans (by simp : _ = Result.ok (.bool false) w)
          clear hneq
          go_wp2
          go_quiet (fail)
          go_wp2
          go_roundw
          case rel => exact ⟨k + 1, q + nq, by go_num, by omega, HA1.out, rfl⟩
          case measure => simp [RowKit.intOf]; omega
        · have HE := Lib.hid (show decide (xs = ys) = false from decide_eq_false fun e => he (by rw [e]))
          have hd : (!decide (xs[k]! = ys[k]!)) = true := by rw [decide_eq_false he]; rfl
          have HW := Lib.hid hd
          clear he hd
          generalize xs[k]! = x at *
          generalize ys[k]! = y at *
          obtain ⟨p, s, t⟩ := x
          obtain ⟨p', s', t'⟩ := y
          have hq := fun w : World => (neqAcl w s t s' t' p p').trans (by rw [HW.out] : _ = Result.ok (.bool true) w)
          clear hneq
          go_wp2
          go_quiet (fail)
          go_wp2
          go_ret
          exact QuietB.mk ⟨q + nq, World.drewN_drewN ..⟩ HE.out.symm
      · have HE := Lib.hid (show decide (xs = ys) = true from decide_eq_true (list_ext_bang HL.out fun j hj => HA.out j (by have := HXL.out; omega)))
        go_wp2
        go_ret
        exact QuietB.mk ⟨q, rfl⟩ HE.out.symm
  · have HE := Lib.hid (show decide (xs = ys) = false from decide_eq_false fun e => hnm (by rw [← hx.1, ← hy.1, e]))
    have hd : ((n : Int) != (m : Int)) = true := by simp; omega
    clear hnm
    go_enter Tryz.func184, Tryz.ntmps184
    go_wp2
    go_ret
    exact QuietB.mk ⟨0, rfl⟩ HE.out.symm
set_option maxHeartbeats 1000000 in
theorem slEqualId_any (A A' : Option Addr) (n m c c' : Nat) (xs ys : List IdV) (w : World) (B : Nat) (hx : Sl w B encId 2 A n xs) (hy : Sl w B encId 2 A' m ys) (hn : n ≤ 281474976710656) (hm : m ≤ 281474976710656) :
    Calls Tryz.prog 185 #[.slice A n c, .slice A' m c'] w (QuietB w (decide (xs = ys))) := by
  by_cases hnm : n = m
  · subst hnm
    have hlen : xs.length = ys.length := hx.1.trans hy.1.symm
    have HL := Lib.hid hlen; have HXL := Lib.hid hx.1; clear hlen
    have hneq := neqId
    go_enter Tryz.func185, Tryz.ntmps185
    go_wp2
    go_loopw [5, 13] (fun _ i wr => ∃ (k q : Nat), i = .int .i64 ↑k ∧ k ≤ n ∧ (∀ j, j < k → xs[j]! = ys[j]!) ∧ wr = w.drewN q) (fun _ i _ => n - (RowKit.intOf i).toNat)
    case atStart => exact ⟨0, 0, rfl, by omega, fun j hj => absurd hj (by omega), rfl⟩
    case round =>
      obtain ⟨k, q, rfl, hk, hall, rfl⟩ := hrel
      have HA := Lib.hid hall; clear hall
      by_cases hlt : k < n
      · obtain ⟨b, off, rfl, _, x0, x1⟩ := SlId.at_ hx hlt
        obtain ⟨b', off', rfl, _, y0, y1⟩ := SlId.at_ hy hlt
        have hyl : k < ys.length := by have := hy.1; omega
        by_cases he : xs[k]! = ys[k]!
        · have HA1 := Lib.hid (show ∀ j, j < k + 1 → xs[j]! = ys[j]! from fun j hj => by rcases Nat.lt_succ_iff_lt_or_eq.1 hj with h | rfl; exact HA.out j h; exact he)
          rw [he] at x0 x1
          clear he
          generalize ys[k]! = y at *
          obtain ⟨s, t⟩ := y
          have hq := fun w : World => (neqId w s t s t).trans (by simp : _ = Result.ok (.bool false) w)
          clear hneq
          go_wp2
          go_quiet (fail)
          go_wp2
          go_roundw
          case rel => exact ⟨k + 1, q + nq, by go_num, by omega, HA1.out, rfl⟩
          case measure => simp [RowKit.intOf]; omega
        · have HE := Lib.hid (show decide (xs = ys) = false from decide_eq_false fun e => he (by rw [e]))
          have hd : (!decide (xs[k]! = ys[k]!)) = true := by rw [decide_eq_false he]; rfl
          have HW := Lib.hid hd
          clear he hd
          generalize xs[k]! = x at *
          generalize ys[k]! = y at *
          obtain ⟨s, t⟩ := x
          obtain ⟨s', t'⟩ := y
          have hq := fun w : World => (neqId w s t s' t').trans (by rw [HW.out] : _ = Result.ok (.bool true) w)
          clear hneq
          go_wp2
          go_quiet (fail)
          go_wp2
          go_ret
          exact QuietB.mk ⟨q + nq, World.drewN_drewN ..⟩ HE.out.symm
      · have HE := Lib.hid (show decide (xs = ys) = true from decide_eq_true (list_ext_bang HL.out fun j hj => HA.out j (by have := HXL.out; omega)))
        go_wp2
        go_ret
        exact QuietB.mk ⟨q, rfl⟩ HE.out.symm
  · have HE := Lib.hid (show decide (xs = ys) = false from decide_eq_false fun e => hnm (by rw [← hx.1, ← hy.1, e]))
    have hd : ((n : Int) != (m : Int)) = true := by simp; omega
    clear hnm
    go_enter Tryz.func185, Tryz.ntmps185
    go_wp2
    go_ret
    exact QuietB.mk ⟨0, rfl⟩ HE.out.symm
end Go.Proofs.YthpjneobmmpbnaaGreatDoor
namespace Go.Proofs.YthpjneobmmpbnaaGreatDoor
open Go.RowKit Go.MapKept Go.Maps
/-- the cells of a call of Read: the place, the error, the Reader, the variable that points to it -/
structure RdC (w : World) (a1 a2 rb pr : Nat) (A : Option Addr) (n c : Nat) (p : Nat) : Prop where
  h1 : ∃ v, w.heap[a1]? = some (.cells #[.int .i64 v] 3 (0, 0))
  h2 : ∃ v, w.heap[a2]? = some (.cells #[.int .i64 v] 39 (0, 0))
  rc : w.heap[rb]? = some (.cells #[.slice A n c, .int .i64 (p : Int), .bool false] 187 (0, 0))
  hp : w.heap[pr]? = some (.cells #[.pointer (some ⟨rb, 0, none⟩)] 95 (0, 0))
  n1 : a1 ≠ a2 ∧ a1 ≠ rb ∧ a1 ≠ pr ∧ a2 ≠ rb ∧ a2 ≠ pr ∧ rb ≠ pr
theorem wpS_seqR {P : Program} {Q : Exit → Act → List Frame → World → Prop} {a : Act} {cs : List Frame} {w : World} {id : Nat} {ops : Array Oper} {y : Code}
    (h : ∀ K : Act → List Frame → World → Prop, (∀ a' cs' w', y.wpS P Q a' cs' w' → K a' cs' w') → wpOpsS P ops (Exit.thenS K Q) (List.range ops.size) a cs w) : (Code.seq (.region id ops false) y).wpS P Q a cs w :=
  wpS_seq (wpS_region (h _ (fun _ _ _ h => h)))
set_option maxRecDepth 100000 in
set_option maxHeartbeats 400000 in
theorem read1_ok {w : World} {a1 a2 rb pr n c p : Nat} {A : Option Addr} (h : RdC w a1 a2 rb pr A n c p) :
    CallsD Tryz.prog 170 #[.pointer (some ⟨pr, 0, none⟩), .pointer (some ⟨a1, 0, none⟩), .pointer (some ⟨a2, 0, none⟩)] .returning w fun e u' w' => e = .returned (.tuple #[]) ∧ u' = .returning ∧ Fr [rb] w w' := by
  have kp : w.cell? ⟨pr, 0, none⟩ = some (.pointer (some ⟨rb, 0, none⟩)) := by rw [cellH h.hp]; rfl
  have z0 : w.frozen? ⟨rb, 0, none⟩ = false := by simp [World.frozen?, h.rc]
  have z2 : w.frozen? ⟨rb, 2, none⟩ = false := by simp [World.frozen?, h.rc]
  have hnp := h.n1.2.2.2.2.2
  have k2 : w.cell? ⟨rb, 2, none⟩ = some (.bool false) := by rw [cellH h.rc]; rfl
  have k0 : w.cell? ⟨rb, 0, none⟩ = some (.slice A n c) := by rw [cellH h.rc]; rfl
  have hfr : Fr [rb] w ((w.setCell ⟨rb, 2, none⟩ (.bool true)).setCell ⟨rb, 0, none⟩ (.slice none 0 0)) := (fr_setJ w rb 2 _).setJ (by simp) 0 _
  have HFR := Lib.hid hfr
  have H := Lib.hid h
  clear h hfr
  refine callsD_of_wpS Tryz.func170 rfl fun c₀ cs hu => ?_
  simp only [Tryz.ntmps170, List.size_toArray, List.length_cons, List.length_nil, Nat.reduceAdd, Nat.reduceSub, Array.replicate_succ, Array.replicate_zero, List.push_toArray, List.append_toArray, List.nil_append, List.cons_append]
  obtain ⟨Q, hQ⟩ : ∃ Q, Q = bodyPostS Tryz.prog Tryz.f170 c₀ cs (fun e u' w' => e = .returned (.tuple #[]) ∧ u' = .returning ∧ Fr [rb] w w') := ⟨_, rfl⟩
  rw [← hQ]
  have HQ := Lib.hid hQ
  clear hQ
  refine wpS_seqR fun K hK => ?_
  simp [wpOpsS, go_sem, kp, z2, k2, Exit.thenS]
  apply hK
  clear hK
  refine wpS_seqR fun K hK => ?_
  simp [wpOpsS, go_sem, kp, z0, k0, Exit.thenS]
  apply hK
  clear hK
  refine wpS_seqR fun K hK => ?_
  simp [wpOpsS, go_sem, recoverD, hu, Exit.thenS]
  apply hK
  clear hK
  refine wpS_of_wp ?_
  obtain ⟨QQ, hQQ⟩ : ∃ QQ : Exit → Act → World → Prop, QQ = fun e a' w' => Q e a' (c₀ :: cs) w' := ⟨_, rfl⟩
  rw [← hQQ]
  have HQQ := Lib.hid hQQ
  clear hQQ
  have hn : ∀ w : World, (binOp .neq 20 .nilIface .nilIface).run Tryz.prog w = .ok (.bool false) w := fun w => by kernel_rfl
  go_wp2_with fail
  rw [HQQ.out, HQ.out]
  exact ⟨rfl, .returning, by rw [← hu], .tuple #[], by simp [results, Tryz.results170, go_sem], rfl, rfl, HFR.out⟩
set_option maxRecDepth 100000 in
set_option maxHeartbeats 400000 in
theorem read1_fail {w : World} {a1 a2 rb pr n c p : Nat} {A : Option Addr} (k : Int) (h : RdC w a1 a2 rb pr A n c p) :
    CallsD Tryz.prog 170 #[.pointer (some ⟨pr, 0, none⟩), .pointer (some ⟨a1, 0, none⟩), .pointer (some ⟨a2, 0, none⟩)] (.panicking [failV rb k]) w fun e u' w' => e = .returned (.tuple #[]) ∧ u' = .panicking [{ v := .iface 140 (.agg #[.pointer (some ⟨rb, 0, none⟩), .int .i64 k]), recovered := true }] ∧ Fr [rb, a1, a2] w w' ∧ w'.heap[a1]? = some (.cells #[.int .i64 (p : Int)] 3 (0, 0)) ∧ w'.heap[a2]? = some (.cells #[.int .i64 k] 39 (0, 0)) := by
  have kp : w.cell? ⟨pr, 0, none⟩ = some (.pointer (some ⟨rb, 0, none⟩)) := by rw [cellH h.hp]; rfl
  have z0 : w.frozen? ⟨rb, 0, none⟩ = false := by simp [World.frozen?, h.rc]
  have z2 : w.frozen? ⟨rb, 2, none⟩ = false := by simp [World.frozen?, h.rc]
  have hnp := h.n1.2.2.2.2.2
  have k2 : w.cell? ⟨rb, 2, none⟩ = some (.bool false) := by rw [cellH h.rc]; rfl
  have k0 : w.cell? ⟨rb, 0, none⟩ = some (.slice A n c) := by rw [cellH h.rc]; rfl
  have hfr : Fr [rb] w ((w.setCell ⟨rb, 2, none⟩ (.bool true)).setCell ⟨rb, 0, none⟩ (.slice none 0 0)) := (fr_setJ w rb 2 _).setJ (by simp) 0 _
  have HFR := Lib.hid hfr
  have H := Lib.hid h
  clear h hfr
  refine callsD_of_wpS Tryz.func170 rfl fun c₀ cs hu => ?_
  simp only [Tryz.ntmps170, List.size_toArray, List.length_cons, List.length_nil, Nat.reduceAdd, Nat.reduceSub, Array.replicate_succ, Array.replicate_zero, List.push_toArray, List.append_toArray, List.nil_append, List.cons_append]
  obtain ⟨Q, hQ⟩ : ∃ Q, Q = bodyPostS Tryz.prog Tryz.f170 c₀ cs (fun e u' w' => e = .returned (.tuple #[]) ∧ u' = .panicking [{ v := .iface 140 (.agg #[.pointer (some ⟨rb, 0, none⟩), .int .i64 k]), recovered := true }] ∧ Fr [rb, a1, a2] w w' ∧ w'.heap[a1]? = some (.cells #[.int .i64 (p : Int)] 3 (0, 0)) ∧ w'.heap[a2]? = some (.cells #[.int .i64 k] 39 (0, 0))) := ⟨_, rfl⟩
  rw [← hQ]
  have HQ := Lib.hid hQ
  clear hQ
  refine wpS_seqR fun K hK => ?_
  simp [wpOpsS, go_sem, kp, z2, k2, Exit.thenS]
  apply hK
  clear hK
  refine wpS_seqR fun K hK => ?_
  simp [wpOpsS, go_sem, kp, z0, k0, Exit.thenS]
  apply hK
  clear hK
  refine wpS_seqR fun K hK => ?_
  simp [wpOpsS, go_sem, recoverD, hu, failV, Exit.thenS]
  apply hK
  clear hK
  refine wpS_of_wp ?_
  generalize hc1 : { c₀ with mode := _ } = c₁
  have HC1 := Lib.hid hc1
  clear hc1
  obtain ⟨QQ, hQQ⟩ : ∃ QQ : Exit → Act → World → Prop, QQ = fun e a' w' => Q e a' (c₁ :: cs) w' := ⟨_, rfl⟩
  rw [← hQQ]
  have HQQ := Lib.hid hQQ
  clear hQQ
  have hcell := heap_setJ (o := 0) (heap_setJ (o := 2) H.out.rc (.bool true)) (.slice none 0 0)
  have HCell := Lib.hid hcell
  have h1 := H.out.h1
  have h2 := H.out.h2
  obtain ⟨v1, h1⟩ := h1
  obtain ⟨v2, h2⟩ := h2
  have hb1 : Fr [rb] w _ := HFR.out
  obtain ⟨n1, n2, n3, n4, n5, n6⟩ := H.out.n1
  have g1 := (HFR.out.block a1 (Array.getElem?_eq_some_iff.1 h1).1 (by simpa using n2)).trans h1
  have g2 := (HFR.out.block a2 (Array.getElem?_eq_some_iff.1 h2).1 (by simpa using n4)).trans h2
  have gp := (HFR.out.block pr (Array.getElem?_eq_some_iff.1 H.out.hp).1 (by simpa using Ne.symm n6)).trans H.out.hp
  have l1 := (Array.getElem?_eq_some_iff.1 g1).1
  have l2 := (Array.getElem?_eq_some_iff.1 g2).1
  have lr := (Array.getElem?_eq_some_iff.1 HCell.out).1
  have lp := (Array.getElem?_eq_some_iff.1 gp).1
  have HG1 := Lib.hid g1; have HG2 := Lib.hid g2; have HGp := Lib.hid gp
  clear hcell hb1 g1 g2 gp h1 h2 kp z0 z2 k2 k0
  generalize (w.setCell ⟨rb, 2, none⟩ (.bool true)).setCell ⟨rb, 0, none⟩ (.slice none 0 0) = W2 at *
  have hal : Below W2.heap.size W2 (W2.alloc (.cells #[.pointer (some ⟨rb, 0, none⟩), .int .i64 k] 140)) := (Below.refl _ _).alloc (Nat.le_refl _) _
  have HAL := Lib.hid hal
  have hg9 := heap_alloc_new W2 (.cells #[.pointer (some ⟨rb, 0, none⟩), .int .i64 k] 140)
  have HG9 := Lib.hid hg9
  clear hal hg9
  have kp : W2.cell? ⟨pr, 0, none⟩ = some (.pointer (some ⟨rb, 0, none⟩)) := by rw [cellH HGp.out]; rfl
  have hlp : pr ≠ W2.heap.size := by omega
  have hl1 : a1 ≠ W2.heap.size := by omega
  have hl2 : a2 ≠ W2.heap.size := by omega
  have hlr : rb ≠ W2.heap.size := by omega
  have hta : ∀ (v : Value) (w : World), (Instr.typeAssert (.iface 140 v) 20 140 true).run Tryz.prog w = .ok (.tuple #[v, .bool true]) w := fun v w => by kernel_rfl
  have hne : ∀ (w : World), (binOp .neq 95 (.pointer (some ⟨rb, 0, none⟩)) (.pointer (some ⟨rb, 0, none⟩))).run Tryz.prog w = .ok (.bool false) w := fun w => by
    obtain ⟨j, hj⟩ : ∃ j, Tryz.prog.info? 187 = some j := Option.isSome_iff_exists.1 (by kernel_rfl)
    exact Lib.run_neq_ptr_same w ⟨rb, 0, none⟩ Tryz.underlying95 hj
  go_upto_region 5 with fail
  generalize hfb : W2.heap.size = fb at *
  have HFB := Lib.hid hfb
  clear hfb
  have HA := Lib.hid (show Fr [rb] W2 (W2.alloc (.cells #[.pointer (some ⟨rb, 0, none⟩), .int .i64 k] 140)) from Fr.of_below (by rw [HFB.out]; exact HAL.out))
  have j1 := (HA.out.block a1 (by rw [HFB.out]; exact l1) (by simpa using n2)).trans HG1.out
  have j2 := (HA.out.block a2 (by rw [HFB.out]; exact l2) (by simpa using n4)).trans HG2.out
  have jp := (HA.out.block pr (by rw [HFB.out]; exact lp) (by simpa using Ne.symm n6)).trans HGp.out
  have jr := (HAL.out.block rb lr).trans HCell.out
  have J1 := Lib.hid j1; have J2 := Lib.hid j2
  generalize W2.alloc (.cells #[.pointer (some ⟨rb, 0, none⟩), .int .i64 k] 140) = W3 at *
  have kp3 : W3.cell? ⟨pr, 0, none⟩ = some (.pointer (some ⟨rb, 0, none⟩)) := by rw [cellH jp]; rfl
  have kf0 : W3.cell? ⟨fb, 0, none⟩ = some (.pointer (some ⟨rb, 0, none⟩)) := by rw [cellH HG9.out]; rfl
  have kf1 : W3.cell? ⟨fb, 1, none⟩ = some (.int .i64 k) := by rw [cellH HG9.out]; rfl
  have k1 : W3.cell? ⟨rb, 1, none⟩ = some (.int .i64 (p : Int)) := by rw [cellH jr]; rfl
  have e1 : W3.cell? ⟨a1, 0, none⟩ = some (.int .i64 v1) := by rw [cellH j1]; rfl
  have e2 : W3.cell? ⟨a2, 0, none⟩ = some (.int .i64 v2) := by rw [cellH j2]; rfl
  have z1 : W3.frozen? ⟨a1, 0, none⟩ = false := by simp [World.frozen?, j1]
  have z2 : W3.frozen? ⟨a2, 0, none⟩ = false := by simp [World.frozen?, j2]
  clear kp jp jr j1 j2
  go_wp2_with fail
  go_region
  go_wp2_with fail
  rw [HQQ.out, HQ.out]
  have hm1 := heap_setJ (o := 0) J1.out (.int .i64 (p : Int))
  have hm1' := (heap_otherJ (W3.setCell ⟨a1, 0, none⟩ (.int .i64 (p : Int))) a2 0 (.int .i64 k) n1).trans hm1
  have hm2 := heap_setJ (o := 0) ((heap_otherJ W3 a1 0 (.int .i64 (p : Int)) (Ne.symm n1)).trans J2.out) (.int .i64 k)
  have hf3 : Fr [rb, a1, a2] w W3 := by
    have := HFR.out.trans HA.out (fun g hg => .inl hg)
    exact ⟨this.os, this.tape, this.output, this.size, fun g hg hn => this.block g hg (by simp at hn ⊢; exact hn.1)⟩
  have hf4 := (hf3.setJ (b := a1) (by simp) 0 (.int .i64 (p : Int))).setJ (b := a2) (by simp) 0 (.int .i64 k)
  exact ⟨rfl, _, by rw [← HC1.out], .tuple #[], by simp [results, Tryz.results170, go_sem], rfl, rfl, ⟨hf4.os, hf4.tape, hf4.output, hf4.size, hf4.block⟩, hm1', hm2⟩
/-- how a call of Read ends -/
def ReadOut {α : Type} (x : PR α) (P : World → α → World → Prop) (R : World → World → Prop) (xb : List Nat) (w : World) (e : Ending) (w' : World) : Prop :=
  Fr xb w w' ∧ ∃ W, Below w.heap.size w W ∧ match x with
  | .ok (v, q) => e = .returned (.tuple #[.int .i64 (q : Int), .int .i64 0]) ∧ P W v w'
  | .error (q, k) => e = .returned (.tuple #[.int .i64 (q : Int), .int .i64 k]) ∧ R W w'
theorem rdc_new {w : World} {n c : Nat} {A : Option Addr} {l : Bs} (hs : Sl w w.heap.size enc8 1 A n l) (hn : n ≤ 1099511627776) (hc : n ≤ c) (hA : A = none → n = 0 ∧ c = 0) :
    ∃ W, W = ((((w.alloc (.cells #[.int .i64 0] 3)).alloc (.cells #[.int .i64 0] 39)).alloc (.cells #[.slice A n c, .int .i64 0, .bool false] 187)).alloc (.cells #[.pointer (some ⟨w.heap.size + 1 + 1, 0, none⟩)] 95)) ∧
      RdC W w.heap.size (w.heap.size + 1) (w.heap.size + 1 + 1) (w.heap.size + 1 + 1 + 1) A n c 0 ∧ Below w.heap.size w W ∧ W.heap.size = w.heap.size + 4 ∧ Rd W (w.heap.size + 1 + 1) A n c l 0 := by
  refine ⟨_, rfl, ?_⟩
  have g1 := heap_alloc_new w (.cells #[.int .i64 0] 3)
  have b1 : Below w.heap.size w _ := (Below.refl _ w).alloc (Nat.le_refl _) (.cells #[.int .i64 0] 3)
  have s1 : (w.alloc (.cells #[.int .i64 0] 3)).heap.size = w.heap.size + 1 := by simp
  generalize w.alloc (.cells #[.int .i64 0] 3) = w1 at *
  have g2 := heap_alloc_new w1 (.cells #[.int .i64 0] 39)
  have b2 : Below w1.heap.size w1 _ := (Below.refl _ w1).alloc (Nat.le_refl _) (.cells #[.int .i64 0] 39)
  have s2 : (w1.alloc (.cells #[.int .i64 0] 39)).heap.size = w1.heap.size + 1 := by simp
  generalize w1.alloc (.cells #[.int .i64 0] 39) = w2 at *
  have g3 := heap_alloc_new w2 (.cells #[.slice A n c, .int .i64 0, .bool false] 187)
  have b3 : Below w2.heap.size w2 _ := (Below.refl _ w2).alloc (Nat.le_refl _) (.cells #[.slice A n c, .int .i64 0, .bool false] 187)
  have s3 : (w2.alloc (.cells #[.slice A n c, .int .i64 0, .bool false] 187)).heap.size = w2.heap.size + 1 := by simp
  generalize w2.alloc (.cells #[.slice A n c, .int .i64 0, .bool false] 187) = w3 at *
  have g4 := heap_alloc_new w3 (.cells #[.pointer (some ⟨w.heap.size + 1 + 1, 0, none⟩)] 95)
  have b4 : Below w3.heap.size w3 _ := (Below.refl _ w3).alloc (Nat.le_refl _) (.cells #[.pointer (some ⟨w.heap.size + 1 + 1, 0, none⟩)] 95)
  have s4 : (w3.alloc (.cells #[.pointer (some ⟨w.heap.size + 1 + 1, 0, none⟩)] 95)).heap.size = w3.heap.size + 1 := by simp
  generalize w3.alloc (.cells #[.pointer (some ⟨w.heap.size + 1 + 1, 0, none⟩)] 95) = w4 at *
  have e1 := (b4.block _ (by omega)).trans ((b3.block _ (by omega)).trans ((b2.block w.heap.size (by omega)).trans g1))
  have e2 := (b4.block _ (by omega)).trans ((b3.block w1.heap.size (by omega)).trans g2)
  have e3 := (b4.block w2.heap.size (by omega)).trans g3
  rw [s2, s1] at e3
  rw [s1] at e2
  rw [s3, s2, s1] at g4
  have hb : Below w.heap.size w w4 := ((b1.trans (b2.mono (by omega))).trans (b3.mono (by omega))).trans (b4.mono (by omega))
  exact ⟨⟨⟨0, e1⟩, ⟨0, e2⟩, e3, g4, by omega⟩, hb, by omega, ⟨e3, hs.belowMore hb (by omega), Nat.zero_le _, hn, hc, hA⟩⟩
theorem RdC.fr {w w1 W : World} {n c q : Nat} {A : Option Addr} {xb : List Nat} (h : RdC W w.heap.size (w.heap.size + 1) (w.heap.size + 1 + 1) (w.heap.size + 1 + 1 + 1) A n c 0) (_hx : ∀ g ∈ xb, g < w.heap.size) (hf : Fr ((w.heap.size + 1 + 1) :: xb) W w1) (hr : w1.heap[w.heap.size + 1 + 1]? = some (.cells #[.slice A n c, .int .i64 (q : Int), .bool false] 187 (0, 0))) : RdC w1 w.heap.size (w.heap.size + 1) (w.heap.size + 1 + 1) (w.heap.size + 1 + 1 + 1) A n c q := by
  have hk : ∀ g, w.heap.size ≤ g → g ≠ w.heap.size + 1 + 1 → g ∉ ((w.heap.size + 1 + 1) :: xb) := fun g h1 h2 hm => by
    rcases List.mem_cons.1 hm with e | e
    · exact h2 e
    · have := _hx g e; omega
  obtain ⟨⟨v1, h1⟩, ⟨v2, h2⟩, _, hp, n1⟩ := h
  exact ⟨⟨v1, (hf.block _ (Array.getElem?_eq_some_iff.1 h1).1 (hk _ (by omega) (by omega))).trans h1⟩, ⟨v2, (hf.block _ (Array.getElem?_eq_some_iff.1 h2).1 (hk _ (by omega) (by omega))).trans h2⟩, hr, (hf.block _ (Array.getElem?_eq_some_iff.1 hp).1 (hk _ (by omega) (by omega))).trans hp, n1⟩
theorem rdc_set {w1 : World} {a1 a2 rb pr n c p : Nat} {A : Option Addr} {q : Int} (h : RdC w1 a1 a2 rb pr A n c p) : RdC ((w1.setCell ⟨a1, 0, none⟩ (.int .i64 q)).setCell ⟨a2, 0, none⟩ (.int .i64 0)) a1 a2 rb pr A n c p ∧ Fr [a1, a2] w1 ((w1.setCell ⟨a1, 0, none⟩ (.int .i64 q)).setCell ⟨a2, 0, none⟩ (.int .i64 0)) ∧
    ((w1.setCell ⟨a1, 0, none⟩ (.int .i64 q)).setCell ⟨a2, 0, none⟩ (.int .i64 0)).heap[a1]? = some (.cells #[.int .i64 q] 3 (0, 0)) ∧ ((w1.setCell ⟨a1, 0, none⟩ (.int .i64 q)).setCell ⟨a2, 0, none⟩ (.int .i64 0)).heap[a2]? = some (.cells #[.int .i64 0] 39 (0, 0)) := by
  obtain ⟨⟨v1, h1⟩, ⟨v2, h2⟩, hr, hp, n1, n2, n3, n4, n5, n6⟩ := h
  have g1 := heap_setJ (o := 0) h1 (.int .i64 q)
  have g1' := (heap_otherJ (w1.setCell ⟨a1, 0, none⟩ (.int .i64 q)) a2 0 (.int .i64 0) n1).trans g1
  have g2 := heap_setJ (o := 0) ((heap_otherJ w1 a1 0 (.int .i64 q) (Ne.symm n1)).trans h2) (.int .i64 0)
  have hf : Fr [a1, a2] w1 ((w1.setCell ⟨a1, 0, none⟩ (.int .i64 q)).setCell ⟨a2, 0, none⟩ (.int .i64 0)) := by
    have h0 : Fr [a1, a2] w1 (w1.setCell ⟨a1, 0, none⟩ (.int .i64 q)) := (Fr.refl [a1, a2] w1).setJ (by simp) 0 _
    exact h0.setJ (by simp) 0 _
  have hp' := (hf.block pr (Array.getElem?_eq_some_iff.1 hp).1 (by simp; omega)).trans hp
  have hr' := (hf.block rb (Array.getElem?_eq_some_iff.1 hr).1 (by simp; omega)).trans hr
  exact ⟨⟨⟨_, g1'⟩, ⟨_, g2⟩, hr', hp', n1, n2, n3, n4, n5, n6⟩, hf, g1', g2⟩
theorem read_fr {w w1 w2 W : World} {xb own : List Nat} {rb : Nat} (hB : Below w.heap.size w W) (hf : Fr (rb :: xb) W w1) (hf2 : Fr own w1 w2) (ho : ∀ g ∈ rb :: own, w.heap.size ≤ g) : Fr xb w w2 := by
  have h1 : Fr xb w w1 := ⟨hf.os.trans hB.os, hf.tape.trans hB.tape, hf.output.trans hB.output, Nat.le_trans hB.size hf.size, fun g hg hn => (hf.block g (Nat.lt_of_lt_of_le hg hB.size) (by
    intro hm
    rcases List.mem_cons.1 hm with e | e
    · have := ho rb (by simp); omega
    · exact hn e)).trans (hB.block g hg)⟩
  exact h1.trans hf2 fun g hg => .inr (ho g (by simp [hg]))
set_option maxRecDepth 100000 in
set_option maxHeartbeats 400000 in
theorem read_any {α : Type} {w : World} {n c : Nat} {A : Option Addr} {l : Bs} (x : PR α) (P : World → α → World → Prop) (R : World → World → Prop) (xb : List Nat) (F : Nat) (first cap : Array Value)
    (hs : Sl w w.heap.size enc8 1 A n l) (hn : n ≤ 1099511627776) (hc : n ≤ c) (hA : A = none → n = 0 ∧ c = 0) (hE : ∀ (args : Array Value) (w : World), (callFunc F args).run Tryz.prog w = .ok (.enter F args) w) (hxb : ∀ g ∈ xb, g < w.heap.size)
    (hP : ∀ W v w1 w2 own, P W v w1 → Fr own w1 w2 → (∀ g ∈ own, w.heap.size ≤ g ∧ g < W.heap.size) → P W v w2) (hR : ∀ W w1 w2 own, R W w1 → Fr own w1 w2 → (∀ g ∈ own, w.heap.size ≤ g ∧ g < W.heap.size) → R W w2)
    (hdo : ∀ W rb, Below w.heap.size w W → w.heap.size ≤ rb → Rd W rb A n c l 0 → Calls Tryz.prog F (first.push (.pointer (some ⟨rb, 0, none⟩)) ++ cap) W fun e w' => Fr (rb :: xb) W w' ∧ match x with
      | .ok (v, q) => e = .returned (.tuple #[]) ∧ P W v w' ∧ w'.heap[rb]? = some (.cells #[.slice A n c, .int .i64 (q : Int), .bool false] 187 (0, 0))
      | .error (q, k) => e = .panicked [failV rb k] ∧ R W w' ∧ w'.heap[rb]? = some (.cells #[.slice A n c, .int .i64 (q : Int), .bool false] 187 (0, 0))) :
    Calls Tryz.prog 111 #[.slice A n c, .func (.func F) first cap] w (ReadOut x P R xb w) := by
  have hq : ∀ w : World, (binOp .eql 100 (.func (.func F) first cap) .nilFunc).run Tryz.prog w = .ok (.bool false) w := fun w => by kernel_rfl
  have hmf : ∀ (fn : Fn) (first cap : Array Value) (w : World), (Instr.makeFunc fn first cap).run Tryz.prog w = .ok (.func fn first cap) w := fun _ _ _ _ => rfl
  obtain ⟨W, hW, hC, hB, hZ, hRd⟩ := rdc_new hs hn hc hA
  have HW := Lib.hid hW; have HC := Lib.hid hC; have HB := Lib.hid hB; have HZ := Lib.hid hZ; have HXB := Lib.hid hxb
  have HD := Lib.hid (hdo W (w.heap.size + 1 + 1) hB (by omega) hRd)
  have HP := Lib.hid hP; have HR := Lib.hid hR
  clear hW hC hB hZ hRd hxb hdo hP hR hs hA
  go_enter_defers Tryz.func111, Tryz.ntmps111
  go_wp2_with fail
  rw [← HW.out]
  rcases x with ⟨q, k⟩ | ⟨v, q⟩
  · refine HD.out.mono ?_
    rintro e w1 ⟨hf, rfl, hR1, hrd⟩
    have hC1 := HC.out.fr HXB.out hf hrd
    refine leaves_cons (f := 170) (args := #[.pointer (some ⟨w.heap.size + 1 + 1 + 1, 0, none⟩), .pointer (some ⟨w.heap.size, 0, none⟩), .pointer (some ⟨w.heap.size + 1, 0, none⟩)]) (by simp) (by simp [go_sem]) ?_
    refine (read1_fail k hC1).mono ?_
    rintro e u' w2 ⟨rfl, rfl, hf2, g1, g2⟩
    have y1 : w2.cell? ⟨w.heap.size, 0, none⟩ = some (.int .i64 (q : Int)) := by rw [cellH g1]; rfl
    have y2 : w2.cell? ⟨w.heap.size + 1, 0, none⟩ = some (.int .i64 k) := by rw [cellH g2]; rfl
    have HF := Lib.hid (show ReadOut (Except.error (q, k)) P R xb w (.returned (.tuple #[.int .i64 (q : Int), .int .i64 k])) w2 from
      ⟨read_fr HB.out hf hf2 (fun g hg => by simp at hg; omega), W, HB.out, rfl, HR.out _ _ _ _ hR1 hf2 (fun g hg => by rw [HZ.out]; simp at hg; omega)⟩)
    clear hR1 hrd hC1 hf hf2 g1 g2
    simp [Leaves, settle, results, Tryz.results111, go_sem, y1, y2]
    exact HF.out
  · refine HD.out.mono ?_
    rintro e w1 ⟨hf, rfl, hP1, hrd⟩
    have hC1 := HC.out.fr HXB.out hf hrd
    obtain ⟨v1, h1⟩ := hC1.h1
    obtain ⟨v2, h2⟩ := hC1.h2
    have e1 : w1.cell? ⟨w.heap.size, 0, none⟩ = some (.int .i64 v1) := by rw [cellH h1]; rfl
    have e2 : w1.cell? ⟨w.heap.size + 1, 0, none⟩ = some (.int .i64 v2) := by rw [cellH h2]; rfl
    have z1 : w1.frozen? ⟨w.heap.size, 0, none⟩ = false := by simp [World.frozen?, h1]
    have z2 : w1.frozen? ⟨w.heap.size + 1, 0, none⟩ = false := by simp [World.frozen?, h2]
    have kp : w1.cell? ⟨w.heap.size + 1 + 1 + 1, 0, none⟩ = some (.pointer (some ⟨w.heap.size + 1 + 1, 0, none⟩)) := by rw [cellH hC1.hp]; rfl
    have kq : w1.cell? ⟨w.heap.size + 1 + 1, 1, none⟩ = some (.int .i64 (q : Int)) := by rw [cellH hrd]; rfl
    have hr2 := rdc_set hC1 (q := (q : Int))
    have HR2 := Lib.hid hr2
    have HF1 := Lib.hid hf; have HP1 := Lib.hid hP1
    clear hf hP1 hrd hC1 h1 h2 hr2
    dsimp only
    go_wp2_with fail
    generalize (w1.setCell ⟨w.heap.size, 0, none⟩ (.int .i64 (q : Int))).setCell ⟨w.heap.size + 1, 0, none⟩ (.int .i64 0) = w3 at *
    obtain ⟨hC3, hf3, i1, i2⟩ := HR2.out
    refine leaves_cons (f := 170) (args := #[.pointer (some ⟨w.heap.size + 1 + 1 + 1, 0, none⟩), .pointer (some ⟨w.heap.size, 0, none⟩), .pointer (some ⟨w.heap.size + 1, 0, none⟩)]) (by simp) (by simp [go_sem]) ?_
    refine (read1_ok hC3).mono ?_
    rintro e u' w4 ⟨rfl, rfl, hf4⟩
    have i1' := (hf4.block _ (Array.getElem?_eq_some_iff.1 i1).1 (by simp; omega)).trans i1
    have i2' := (hf4.block _ (Array.getElem?_eq_some_iff.1 i2).1 (by simp)).trans i2
    have y1 : w4.cell? ⟨w.heap.size, 0, none⟩ = some (.int .i64 (q : Int)) := by rw [cellH i1']; rfl
    have y2 : w4.cell? ⟨w.heap.size + 1, 0, none⟩ = some (.int .i64 0) := by rw [cellH i2']; rfl
    have hf5 : Fr [w.heap.size, w.heap.size + 1, w.heap.size + 1 + 1] w1 w4 := by
      have a1 : Fr [w.heap.size, w.heap.size + 1, w.heap.size + 1 + 1] w1 w3 := ⟨hf3.os, hf3.tape, hf3.output, hf3.size, fun g hg hn => hf3.block g hg (fun hm => hn (by simp at hm ⊢; omega))⟩
      exact a1.trans hf4 (fun g hg => .inl (by simp at hg ⊢; omega))
    have HF := Lib.hid (show ReadOut (Except.ok (v, q)) P R xb w (.returned (.tuple #[.int .i64 (q : Int), .int .i64 0])) w4 from
      ⟨read_fr HB.out HF1.out hf5 (fun g hg => by simp at hg; omega), W, HB.out, rfl, HP.out _ _ _ _ _ HP1.out hf5 (fun g hg => by rw [HZ.out]; simp at hg; omega)⟩)
    clear hC3 hf3 i1 i2 hf4 i1' i2' hf5 e1 e2 z1 z2 kp kq
    simp [Leaves, settle, results, Tryz.results111, go_sem, y1, y2]
    exact HF.out
end Go.Proofs.YthpjneobmmpbnaaGreatDoor
namespace Go.Proofs.YthpjneobmmpbnaaGreatDoor
open Go.RowKit Go.WideShapes
set_option maxRecDepth 100000
section
variable {H : Type} {enc : TypeId × Value → H} {w : World} {base : Nat} {spare : Nat → Bool} {held : Bool}
theorem trod_str {fuel : Nat} {cs : List Value} {x : DataW H × List MemPlace} (h : DataW.trod enc Tryz.prog w base spare held fuel 9 cs = some x) : ∃ s : ByteArray, cs = [.string s] ∧ s.size ≤ Rows.uptoBulk x.1 := by
  obtain ⟨s, e, rfl, _⟩ := DataW.trod_string Tryz.underlying9 h
  exact ⟨s, e, by simp [Rows.uptoBulk]⟩
theorem trod_aclD {fuel : Nat} {cs : List Value} {x : DataW H × List MemPlace} (h : DataW.trod enc Tryz.prog w base spare held fuel 110 cs = some x) :
    ∃ z : AclV, cs = encAcl z ∧ in32 z.1 ∧ z.2.1.size ≤ Rows.uptoBulk x.1 ∧ z.2.2.size ≤ Rows.uptoBulk x.1 := by
  obtain ⟨ys, n, _, rfl, hlen, hyl, hf⟩ := DataW.trod_struct Tryz.underlying110 h
  have hc : Tryz.prog.cellsOf 110 = 3 := by kernel_rfl
  have hc2 : Tryz.prog.cellsOf 108 = 2 := by kernel_rfl
  have hs : Tryz.prog.cellsOf 21 = 1 := by kernel_rfl
  rw [hc] at hlen
  match cs, hlen with
  | [a, b, c], _ =>
    match ys, hyl with
    | [y0, y1], _ =>
      have g0 : DataW.trod enc Tryz.prog w base spare held n 21 (List.take (Tryz.prog.cellsOf 21) [a, b, c]) = some y0 := hf 0 _ rfl
      have g1 : DataW.trod enc Tryz.prog w base spare held n 108 (List.take (Tryz.prog.cellsOf 108) [b, c]) = some y1 := hf 1 _ rfl
      rw [hs] at g0
      rw [hc2] at g1
      simp only [List.take_succ_cons, List.take_zero] at g0 g1
      obtain ⟨p, e0, rfl, hp⟩ := DataW.trod_int Tryz.underlying21 g0
      obtain ⟨z, e1, h1, h2⟩ := trod_id g1
      injection e0 with e0
      subst e0
      have hb : Rows.uptoBulk y1.1 ≤ Rows.uptoBulk (DataW.agg ([(DataW.lit (.int .i32 p), []), y1].map (·.1))) := by simp [Rows.uptoBulk, Rows.uptoBulkAll]; omega
      refine ⟨(p, z), ?_, ?_, Nat.le_trans h1 hb, Nat.le_trans h2 hb⟩
      · rw [e1]; rfl
      · simp [Lit.wf] at hp; exact hp
theorem openD8 {fuel : Nat} {cs : List Value} {x : DataW H × List MemPlace} (h : DataW.trod enc Tryz.prog w base spare held fuel 22 cs = some x) :
    ∃ A n c, ∃ l : Bs, cs = [.slice A n c] ∧ Sl w w.heap.size enc8 1 A n l ∧ hdOk (A, n, c) ∧ n ≤ Rows.uptoBulk x.1 ∧ True := by
  obtain ⟨A, n, c, l, e, h1, h2, h3, h4⟩ := open_rowsT (enc0 := enc8) (k := 1) Tryz.underlying22 (by kernel_rfl) (by decide) (fun (_ : UInt8) _ => True)
    (fun _ _ x hx => by
      obtain ⟨z, e, _, hw⟩ := DataW.trod_int Tryz.underlying5 hx
      have hw2 : 0 ≤ z ∧ z ≤ 255 := by simp [Lit.wf] at hw; exact hw
      refine ⟨UInt8.ofNat z.toNat, ?_, trivial⟩
      rw [e]
      unfold enc8
      have h9 : (UInt8.ofNat z.toNat).toNat = z.toNat := UInt8.toNat_ofNat_of_lt (by show z.toNat < 256; omega)
      rw [h9, Int.toNat_of_nonneg hw2.1]) (fun _ _ _ _ hz => hz) h
  exact ⟨A, n, c, l, e, h1, h2, h3, trivial⟩
theorem openDAcl {fuel : Nat} {cs : List Value} {x : DataW H × List MemPlace} (h : DataW.trod enc Tryz.prog w base spare held fuel 23 cs = some x) :
    ∃ A n c, ∃ l : List AclV, cs = [.slice A n c] ∧ Sl w w.heap.size encAcl 3 A n l ∧ hdOk (A, n, c) ∧ n ≤ Rows.uptoBulk x.1 ∧ ∀ j, j < n → in32 l[j]!.1 ∧ l[j]!.2.1.size ≤ Rows.uptoBulk x.1 ∧ l[j]!.2.2.size ≤ Rows.uptoBulk x.1 :=
  open_rowsT (enc0 := encAcl) (k := 3) Tryz.underlying23 (by kernel_rfl) (by decide) (fun (z : AclV) m => in32 z.1 ∧ z.2.1.size ≤ m ∧ z.2.2.size ≤ m) (fun _ _ x hx => trod_aclD hx) (fun _ _ _ hab hz => ⟨hz.1, Nat.le_trans hz.2.1 hab, Nat.le_trans hz.2.2 hab⟩) h
theorem openDStr {fuel : Nat} {cs : List Value} {x : DataW H × List MemPlace} (h : DataW.trod enc Tryz.prog w base spare held fuel 29 cs = some x) :
    ∃ A n c, ∃ l : List ByteArray, cs = [.slice A n c] ∧ Sl w w.heap.size encStr 1 A n l ∧ hdOk (A, n, c) ∧ n ≤ Rows.uptoBulk x.1 ∧ ∀ j, j < n → l[j]!.size ≤ Rows.uptoBulk x.1 :=
  open_rowsT (enc0 := encStr) (k := 1) Tryz.underlying29 (by kernel_rfl) (by decide) (fun (z : ByteArray) m => z.size ≤ m) (fun _ _ x hx => trod_str hx) (fun _ _ _ hab hz => Nat.le_trans hz hab) h
theorem open_rowsB {α : Type} [Inhabited α] {enc0 : α → List Value} {k : Nat} {t e : TypeId} (ht : Tryz.prog.underlying t = some (.slice e)) (hC : Tryz.prog.cellsOf e = k) (hk0 : 0 < k) (small : α → Nat → Prop)
    (M : Nat) (hel : ∀ (fuel : Nat) cs' (x : DataW H × List MemPlace), Rows.uptoBulk x.1 ≤ M → DataW.trod enc Tryz.prog w base spare held fuel e cs' = some x → ∃ z : α, cs' = enc0 z ∧ small z (Rows.uptoBulk x.1)) (hmono : ∀ z a b, a ≤ b → small z a → small z b)
    {fuel0 : Nat} {cs : List Value} {x : DataW H × List MemPlace} (hM : Rows.uptoBulk x.1 ≤ M + 1) (h : DataW.trod enc Tryz.prog w base spare held fuel0 t cs = some x) :
    ∃ A n c l, cs = [.slice A n c] ∧ Sl w w.heap.size enc0 k A n l ∧ ((A = none → n = 0 ∧ c = 0) ∧ n ≤ c) ∧ n ≤ Rows.uptoBulk x.1 ∧ ∀ j, j < n → small l[j]! (Rows.uptoBulk x.1) := by
  obtain ⟨d, ps⟩ := x
  dsimp only at hM ⊢
  rcases Deep.open_slice ht h with ⟨e1, e2⟩ | ⟨a, n, c, m, n', D, Pl, e1, _, hlc, _, hm, e2, hx⟩
  · subst e1
    exact ⟨none, 0, 0, [], rfl, Sl.nil_, ⟨fun _ => ⟨rfl, rfl⟩, Nat.le_refl _⟩, Nat.zero_le _, fun j hj => absurd hj (by omega)⟩
  · subst e1
    have hd : d = .slice ((List.range n).map D) ((List.range (m - n)).map fun j => D (n + j)) := congrArg Prod.fst e2
    have hnm : n ≤ m := by rw [hm]; split <;> omega
    have hspot : 0 < n → a.spot = none := fun h0 => by
      obtain ⟨cs', h1, h2⟩ := hx 0 (by omega)
      rw [hC, Nat.zero_mul, add_nil_] at h1
      obtain ⟨_, hlen, hcell⟩ := World.cells?_some h1
      have hg := hcell 0 hk0
      rw [add_nil_, List.getElem?_eq_getElem (by omega)] at hg
      exact World.cell?_spot hg
    have key : ∀ i, i < n → ∃ z : α, (∀ u y, (enc0 z)[u]? = some y → a.spot = none ∧ w.cell? ⟨a.block, a.off + i * k + u, none⟩ = some y ∧ a.block < w.heap.size) ∧ small z (Rows.uptoBulk d) ∧ (enc0 z).length = k := by
      intro i hi
      obtain ⟨cs', h1, h2⟩ := hx i (by omega)
      rw [hC] at h1
      have hle : Rows.uptoBulk (D i) ≤ M := by
        have h7 := bulkAll_map D (List.range n) i (by simp [hi])
        rw [hd] at hM
        simp only [Rows.uptoBulk] at hM
        omega
      obtain ⟨z, e3, hz⟩ := hel _ _ _ hle h2
      subst e3
      obtain ⟨_, hlen, hcell⟩ := World.cells?_some h1
      refine ⟨z, fun u y hu => ?_, hmono z _ _ ?_ hz, hlen⟩
      · have hul : u < k := by rw [← hlen]; exact (List.getElem?_eq_some_iff.1 hu).1
        have hg := (hcell u hul).trans hu
        have hg' : w.cell? ⟨a.block, a.off + i * k + u, none⟩ = some y := by
          rw [← hg, add_two (hspot (by omega))]
        exact ⟨hspot (by omega), hg', (by have := World.block_lt_of_cell? _ _ hg'; exact this)⟩
      · rw [hd]
        have := bulkAll_map D (List.range n) i (by simp [hi])
        simp only [Rows.uptoBulk]
        omega
    obtain ⟨Z, hZ⟩ : ∃ Z : Nat → α, ∀ i, i < n → (∀ u y, (enc0 (Z i))[u]? = some y → a.spot = none ∧ w.cell? ⟨a.block, a.off + i * k + u, none⟩ = some y ∧ a.block < w.heap.size) ∧ small (Z i) (Rows.uptoBulk d) ∧ (enc0 (Z i)).length = k := by
      classical
      refine ⟨fun i => if h : i < n then (key i h).choose else default, fun i hi => ?_⟩
      simp only [dif_pos hi]
      exact (key i hi).choose_spec
    have hget : ∀ j, j < n → ((List.range n).map Z)[j]! = Z j := fun j hj => by
      rw [getElem!_pos _ _ (by simpa using hj)]; simp
    refine ⟨some a, n, c, (List.range n).map Z, rfl, ⟨by simp, fun h0 => ?_⟩, ⟨(fun hh => by cases hh), hlc⟩, ?_, fun j hj => by rw [hget j hj]; exact (hZ j hj).2.1⟩
    · obtain ⟨h1, _, h3⟩ := hZ 0 h0
      obtain ⟨y, hy⟩ : ∃ y, (enc0 (Z 0))[0]? = some y := ⟨_, List.getElem?_eq_getElem (by omega)⟩
      obtain ⟨hs, _, hb⟩ := h1 0 y hy
      refine ⟨a.block, a.off, ?_, hb, fun j hj i u hu => ?_⟩
      · obtain ⟨b, o, s⟩ := a
        simp only at hs
        subst hs; rfl
      · rw [hget j hj] at hu
        exact ((hZ j hj).1 i u hu).2.1
    · rw [hd]
      have := bulkAll_len ((List.range n).map D)
      simp only [Rows.uptoBulk]
      simp at this
      omega

theorem trod_quota {fuel : Nat} {cs : List Value} {x : DataW H × List MemPlace} (h : DataW.trod enc Tryz.prog w base spare held fuel 25 cs = some x) : ∃ (q : Bool) (a b : Int), cs = [.bool q, .int .i64 a, .int .i64 b] ∧ in64 a ∧ in64 b := by
  obtain ⟨ys, n, _, rfl, hlen, hyl, hf⟩ := DataW.trod_struct Tryz.underlying25 h
  have hc : Tryz.prog.cellsOf 25 = 3 := by kernel_rfl
  have q_bool : Tryz.prog.cellsOf 4 = 1 := by kernel_rfl
  have q_int64 : Tryz.prog.cellsOf 2 = 1 := by kernel_rfl
  rw [hc] at hlen
  match cs, hlen with
  | [k0, k1, k2], _ =>
    match ys, hyl with
    | [y0, y1, y2], _ =>
      have g0 : DataW.trod enc Tryz.prog w base spare held n 4 (List.take (Tryz.prog.cellsOf 4) [k0, k1, k2]) = some y0 := hf 0 _ rfl
      rw [q_bool] at g0
      have g1 : DataW.trod enc Tryz.prog w base spare held n 2 (List.take (Tryz.prog.cellsOf 2) [k1, k2]) = some y1 := hf 1 _ rfl
      rw [q_int64] at g1
      have g2 : DataW.trod enc Tryz.prog w base spare held n 2 (List.take (Tryz.prog.cellsOf 2) [k2]) = some y2 := hf 2 _ rfl
      rw [q_int64] at g2
      simp only [List.take_succ_cons, List.take_zero] at g0 g1 g2
      have hb0 : Rows.uptoBulk y0.1 < Rows.uptoBulk (DataW.agg ([y0, y1, y2].map (·.1))) := by simp [Rows.uptoBulk, Rows.uptoBulkAll]; omega
      have hb1 : Rows.uptoBulk y1.1 < Rows.uptoBulk (DataW.agg ([y0, y1, y2].map (·.1))) := by simp [Rows.uptoBulk, Rows.uptoBulkAll]; omega
      have hb2 : Rows.uptoBulk y2.1 < Rows.uptoBulk (DataW.agg ([y0, y1, y2].map (·.1))) := by simp [Rows.uptoBulk, Rows.uptoBulkAll]; omega
      obtain ⟨p0, e0, _⟩ := DataW.trod_bool Tryz.underlying4 g0
      injection e0 with e0
      obtain ⟨p1, e1, _, w1⟩ := DataW.trod_int Tryz.underlying2 g1
      injection e1 with e1
      obtain ⟨p2, e2, _, w2⟩ := DataW.trod_int Tryz.underlying2 g2
      injection e2 with e2
      subst e0 e1 e2
      exact ⟨p0, p1, p2, rfl, by simp [Lit.wf] at w1; exact w1, by simp [Lit.wf] at w2; exact w2⟩
theorem trod_tx : ∀ (N fuel : Nat) (cs : List Value) (x : DataW H × List MemPlace), Rows.uptoBulk x.1 ≤ N → DataW.trod enc Tryz.prog w base spare held fuel 33 cs = some x →
    ∃ z : TxH × TxT, cs = encTx z.1 ∧ TxAt w (· < w.heap.size) z.1 z.2 ∧ TxOk (Rows.uptoBulk x.1) z.2 := by
  intro N
  induction N with
  | zero => intro fuel cs x hN _; have := bulk_pos x.1; omega
  | succ N ih =>
    intro fuel cs x hN h
    obtain ⟨ys, n, _, rfl, hlen, hyl, hf⟩ := DataW.trod_struct Tryz.underlying33 h
    have hc : Tryz.prog.cellsOf 33 = 16 := by kernel_rfl
    have q_Code : Tryz.prog.cellsOf 30 = 1 := by kernel_rfl
    have q_acl : Tryz.prog.cellsOf 23 = 1 := by kernel_rfl
    have q_bytes : Tryz.prog.cellsOf 22 = 1 := by kernel_rfl
    have q_int32 : Tryz.prog.cellsOf 21 = 1 := by kernel_rfl
    have q_int64 : Tryz.prog.cellsOf 2 = 1 := by kernel_rfl
    have q_quota : Tryz.prog.cellsOf 25 = 3 := by kernel_rfl
    have q_ses : Tryz.prog.cellsOf 28 = 3 := by kernel_rfl
    have q_string : Tryz.prog.cellsOf 9 = 1 := by kernel_rfl
    have q_strs : Tryz.prog.cellsOf 29 = 1 := by kernel_rfl
    have q_txns : Tryz.prog.cellsOf 31 = 1 := by kernel_rfl
    rw [hc] at hlen
    match cs, hlen with
    | [k0, k1, k2, k3, k4, k5, k6, k7, k8, k9, k10, k11, k12, k13, k14, k15], _ =>
      match ys, hyl with
      | [y0, y1, y2, y3, y4, y5, y6, y7, y8, y9, y10, y11], _ =>
        have g0 : DataW.trod enc Tryz.prog w base spare held n 21 (List.take (Tryz.prog.cellsOf 21) [k0, k1, k2, k3, k4, k5, k6, k7, k8, k9, k10, k11, k12, k13, k14, k15]) = some y0 := hf 0 _ rfl
        rw [q_int32] at g0
        have g1 : DataW.trod enc Tryz.prog w base spare held n 9 (List.take (Tryz.prog.cellsOf 9) [k1, k2, k3, k4, k5, k6, k7, k8, k9, k10, k11, k12, k13, k14, k15]) = some y1 := hf 1 _ rfl
        rw [q_string] at g1
        have g2 : DataW.trod enc Tryz.prog w base spare held n 22 (List.take (Tryz.prog.cellsOf 22) [k2, k3, k4, k5, k6, k7, k8, k9, k10, k11, k12, k13, k14, k15]) = some y2 := hf 2 _ rfl
        rw [q_bytes] at g2
        have g3 : DataW.trod enc Tryz.prog w base spare held n 23 (List.take (Tryz.prog.cellsOf 23) [k3, k4, k5, k6, k7, k8, k9, k10, k11, k12, k13, k14, k15]) = some y3 := hf 3 _ rfl
        rw [q_acl] at g3
        have g4 : DataW.trod enc Tryz.prog w base spare held n 2 (List.take (Tryz.prog.cellsOf 2) [k4, k5, k6, k7, k8, k9, k10, k11, k12, k13, k14, k15]) = some y4 := hf 4 _ rfl
        rw [q_int64] at g4
        have g5 : DataW.trod enc Tryz.prog w base spare held n 21 (List.take (Tryz.prog.cellsOf 21) [k5, k6, k7, k8, k9, k10, k11, k12, k13, k14, k15]) = some y5 := hf 5 _ rfl
        rw [q_int32] at g5
        have g6 : DataW.trod enc Tryz.prog w base spare held n 21 (List.take (Tryz.prog.cellsOf 21) [k6, k7, k8, k9, k10, k11, k12, k13, k14, k15]) = some y6 := hf 6 _ rfl
        rw [q_int32] at g6
        have g7 : DataW.trod enc Tryz.prog w base spare held n 25 (List.take (Tryz.prog.cellsOf 25) [k7, k8, k9, k10, k11, k12, k13, k14, k15]) = some y7 := hf 7 _ rfl
        rw [q_quota] at g7
        have g8 : DataW.trod enc Tryz.prog w base spare held n 28 (List.take (Tryz.prog.cellsOf 28) [k10, k11, k12, k13, k14, k15]) = some y8 := hf 8 _ rfl
        rw [q_ses] at g8
        have g9 : DataW.trod enc Tryz.prog w base spare held n 29 (List.take (Tryz.prog.cellsOf 29) [k13, k14, k15]) = some y9 := hf 9 _ rfl
        rw [q_strs] at g9
        have g10 : DataW.trod enc Tryz.prog w base spare held n 30 (List.take (Tryz.prog.cellsOf 30) [k14, k15]) = some y10 := hf 10 _ rfl
        rw [q_Code] at g10
        have g11 : DataW.trod enc Tryz.prog w base spare held n 31 (List.take (Tryz.prog.cellsOf 31) [k15]) = some y11 := hf 11 _ rfl
        rw [q_txns] at g11
        simp only [List.take_succ_cons, List.take_zero] at g0 g1 g2 g3 g4 g5 g6 g7 g8 g9 g10 g11
        have hb0 : Rows.uptoBulk y0.1 < Rows.uptoBulk (DataW.agg ([y0, y1, y2, y3, y4, y5, y6, y7, y8, y9, y10, y11].map (·.1))) := by simp [Rows.uptoBulk, Rows.uptoBulkAll]; omega
        have hb1 : Rows.uptoBulk y1.1 < Rows.uptoBulk (DataW.agg ([y0, y1, y2, y3, y4, y5, y6, y7, y8, y9, y10, y11].map (·.1))) := by simp [Rows.uptoBulk, Rows.uptoBulkAll]; omega
        have hb2 : Rows.uptoBulk y2.1 < Rows.uptoBulk (DataW.agg ([y0, y1, y2, y3, y4, y5, y6, y7, y8, y9, y10, y11].map (·.1))) := by simp [Rows.uptoBulk, Rows.uptoBulkAll]; omega
        have hb3 : Rows.uptoBulk y3.1 < Rows.uptoBulk (DataW.agg ([y0, y1, y2, y3, y4, y5, y6, y7, y8, y9, y10, y11].map (·.1))) := by simp [Rows.uptoBulk, Rows.uptoBulkAll]; omega
        have hb4 : Rows.uptoBulk y4.1 < Rows.uptoBulk (DataW.agg ([y0, y1, y2, y3, y4, y5, y6, y7, y8, y9, y10, y11].map (·.1))) := by simp [Rows.uptoBulk, Rows.uptoBulkAll]; omega
        have hb5 : Rows.uptoBulk y5.1 < Rows.uptoBulk (DataW.agg ([y0, y1, y2, y3, y4, y5, y6, y7, y8, y9, y10, y11].map (·.1))) := by simp [Rows.uptoBulk, Rows.uptoBulkAll]; omega
        have hb6 : Rows.uptoBulk y6.1 < Rows.uptoBulk (DataW.agg ([y0, y1, y2, y3, y4, y5, y6, y7, y8, y9, y10, y11].map (·.1))) := by simp [Rows.uptoBulk, Rows.uptoBulkAll]; omega
        have hb7 : Rows.uptoBulk y7.1 < Rows.uptoBulk (DataW.agg ([y0, y1, y2, y3, y4, y5, y6, y7, y8, y9, y10, y11].map (·.1))) := by simp [Rows.uptoBulk, Rows.uptoBulkAll]; omega
        have hb8 : Rows.uptoBulk y8.1 < Rows.uptoBulk (DataW.agg ([y0, y1, y2, y3, y4, y5, y6, y7, y8, y9, y10, y11].map (·.1))) := by simp [Rows.uptoBulk, Rows.uptoBulkAll]; omega
        have hb9 : Rows.uptoBulk y9.1 < Rows.uptoBulk (DataW.agg ([y0, y1, y2, y3, y4, y5, y6, y7, y8, y9, y10, y11].map (·.1))) := by simp [Rows.uptoBulk, Rows.uptoBulkAll]; omega
        have hb10 : Rows.uptoBulk y10.1 < Rows.uptoBulk (DataW.agg ([y0, y1, y2, y3, y4, y5, y6, y7, y8, y9, y10, y11].map (·.1))) := by simp [Rows.uptoBulk, Rows.uptoBulkAll]; omega
        have hb11 : Rows.uptoBulk y11.1 < Rows.uptoBulk (DataW.agg ([y0, y1, y2, y3, y4, y5, y6, y7, y8, y9, y10, y11].map (·.1))) := by simp [Rows.uptoBulk, Rows.uptoBulkAll]; omega
        dsimp only at hN ⊢
        obtain ⟨ty, e0, _, w0⟩ := DataW.trod_int Tryz.underlying21 g0
        injection e0 with e0
        obtain ⟨path, e1, hs1⟩ := trod_str g1
        injection e1 with e1
        obtain ⟨A2, n2, c2, l2, e2, r2, m2, s2, t2⟩ := openD8 g2
        injection e2 with e2
        obtain ⟨A3, n3, c3, l3, e3, r3, m3, s3, t3⟩ := openDAcl g3
        injection e3 with e3
        obtain ⟨ow, e4, _, w4⟩ := DataW.trod_int Tryz.underlying2 g4
        injection e4 with e4
        obtain ⟨ve, e5, _, w5⟩ := DataW.trod_int Tryz.underlying21 g5
        injection e5 with e5
        obtain ⟨cr, e6, _, w6⟩ := DataW.trod_int Tryz.underlying21 g6
        injection e6 with e6
        obtain ⟨qh, qc, qb, e7, w7, w7'⟩ := trod_quota g7
        injection e7 with e7 e7'; injection e7' with e7' e7''; injection e7'' with e7''
        obtain ⟨⟨si, st, A8, n8, c8⟩, e8, l8, hz8⟩ := trod_sess g8
        injection e8 with e8 e8'; injection e8' with e8' e8''; injection e8'' with e8''
        obtain ⟨A9, n9, c9, l9, e9, r9, m9, s9, t9⟩ := openDStr g9
        injection e9 with e9
        obtain ⟨co, e10, _, w10⟩ := DataW.trod_int Tryz.underlying30 g10
        injection e10 with e10
        obtain ⟨A11, n11, c11, l11, e11, r11, m11, s11, t11⟩ := open_rowsB (enc0 := fun z : TxH × TxT => encTx z.1) (k := 16) Tryz.underlying31 (by kernel_rfl) (by decide) (fun (z : TxH × TxT) m => TxAt w (· < w.heap.size) z.1 z.2 ∧ TxOk m z.2) N (fun fu cs' x' hx' hh => ih fu cs' x' hx' hh) (fun _ _ _ hab hz => ⟨hz.1, hz.2.mono fun _ _ h => h.mono hab⟩) (by omega) g11
        injection e11 with e11
        subst e0 e1 e2 e3 e4 e5 e6 e7 e7' e7'' e8 e8' e8'' e9 e10 e11
        have hlen11 : l11.length = n11 := r11.len
        have g1' : ∀ j, j < n11 → (l11.map (·.1))[j]! = l11[j]!.1 := fun j hj => by rw [getElem!_pos _ j (by simpa [hlen11] using hj), getElem!_pos l11 j (by omega)]; simp
        have g2' : ∀ j, j < n11 → (l11.map (·.2))[j]! = l11[j]!.2 := fun j hj => by rw [getElem!_pos _ j (by simpa [hlen11] using hj), getElem!_pos l11 j (by omega)]; simp
        refine ⟨(⟨⟨ty, path, ow, ve, cr, qh, qc, qb, si, st, co⟩, (A2, n2, c2), (A3, n3, c3), (A8, n8, c8), (A9, n9, c9), (A11, n11, c11)⟩, .mk ⟨⟨ty, path, ow, ve, cr, qh, qc, qb, si, st, co⟩, l2, l3, l8, l9⟩ (l11.map (·.2))), rfl, ?_, ?_⟩
        · refine TrAt.of_subs (L := l11.map (·.1)) ⟨rfl, SlR.of_sl r2 m2, SlR.of_sl r3 m3, SlR.of_sl hz8.2.2.1 hz8.2.2.2.1, SlR.of_sl r9 m9⟩ (by simp [hlen11]) ⟨by simp [hlen11], m11, fun h0 => ?_⟩ (fun j hj => ?_)
          · obtain ⟨b, off, eA, hb, hc⟩ := r11.2 h0
            exact ⟨b, off, eA, hb, fun j hj i u hu => hc j hj i u (by rw [g1' j hj] at hu; exact hu)⟩
          · rw [g1' j hj, g2' j hj]; exact (t11 j hj).1
        · refine .mk _ _ ⟨⟨by simp [Lit.wf] at w0; exact w0, by simp [Lit.wf] at w4; exact w4, by simp [Lit.wf] at w5; exact w5, by simp [Lit.wf] at w6; exact w6, w7, w7', hz8.1, hz8.2.1, by simp [Lit.wf] at w10; exact w10⟩, by show path.size ≤ _; omega, by show l2.length ≤ _; rw [r2.len]; omega, by show l3.length ≤ _; rw [r3.len]; omega, Nat.le_trans (Nat.le_of_eq hz8.2.2.1.len) (Nat.le_trans hz8.2.2.2.2.1 (Nat.le_of_lt hb8)), by show l9.length ≤ _; rw [r9.len]; omega, by rw [List.length_map, hlen11]; omega, fun j hj => ?_, fun j hj => ?_, fun j hj => ?_⟩ (fun j hj => ?_)
          · have := t3 j (by rw [← r3.len]; exact hj); exact ⟨this.1, Nat.le_trans this.2.1 (Nat.le_of_lt hb3), Nat.le_trans this.2.2 (Nat.le_of_lt hb3)⟩
          · have := hz8.2.2.2.2.2 j (by rw [← hz8.2.2.1.len]; exact hj); exact ⟨Nat.le_trans this.1 (Nat.le_of_lt hb8), Nat.le_trans this.2 (Nat.le_of_lt hb8)⟩
          · exact Nat.le_trans (t9 j (by rw [← r9.len]; exact hj)) (Nat.le_of_lt hb9)
          · have hj' : j < n11 := by simpa [hlen11] using hj
            rw [g2' j hj']
            exact (t11 j hj').2.mono fun _ _ h => h.mono (by omega)
theorem DlSm.mono {m m' : Nat} {d : DlT} (h : DlSm m d) (hm : m ≤ m') : DlSm m' d := ⟨h.1, h.2.mono fun _ _ h => h.mono hm⟩
theorem trod_dl {fuel : Nat} {cs : List Value} {x : DataW H × List MemPlace} (h : DataW.trod enc Tryz.prog w base spare held fuel 35 cs = some x) : ∃ z : DlH × DlT, cs = encDl z.1 ∧ DlAt w (· < w.heap.size) z.1 z.2 ∧ DlSm (Rows.uptoBulk x.1) z.2 := by
  obtain ⟨ys, n, _, rfl, hlen, hyl, hf⟩ := DataW.trod_struct Tryz.underlying35 h
  have hc : Tryz.prog.cellsOf 35 = 20 := by kernel_rfl
  have q_Txn : Tryz.prog.cellsOf 33 = 16 := by kernel_rfl
  have q_int32 : Tryz.prog.cellsOf 21 = 1 := by kernel_rfl
  have q_int64 : Tryz.prog.cellsOf 2 = 1 := by kernel_rfl
  rw [hc] at hlen
  match cs, hlen with
  | [k0, k1, k2, k3, k4, k5, k6, k7, k8, k9, k10, k11, k12, k13, k14, k15, k16, k17, k18, k19], _ =>
    match ys, hyl with
    | [y0, y1, y2, y3, y4], _ =>
      have g0 : DataW.trod enc Tryz.prog w base spare held n 2 (List.take (Tryz.prog.cellsOf 2) [k0, k1, k2, k3, k4, k5, k6, k7, k8, k9, k10, k11, k12, k13, k14, k15, k16, k17, k18, k19]) = some y0 := hf 0 _ rfl
      rw [q_int64] at g0
      have g1 : DataW.trod enc Tryz.prog w base spare held n 21 (List.take (Tryz.prog.cellsOf 21) [k1, k2, k3, k4, k5, k6, k7, k8, k9, k10, k11, k12, k13, k14, k15, k16, k17, k18, k19]) = some y1 := hf 1 _ rfl
      rw [q_int32] at g1
      have g2 : DataW.trod enc Tryz.prog w base spare held n 2 (List.take (Tryz.prog.cellsOf 2) [k2, k3, k4, k5, k6, k7, k8, k9, k10, k11, k12, k13, k14, k15, k16, k17, k18, k19]) = some y2 := hf 2 _ rfl
      rw [q_int64] at g2
      have g3 : DataW.trod enc Tryz.prog w base spare held n 2 (List.take (Tryz.prog.cellsOf 2) [k3, k4, k5, k6, k7, k8, k9, k10, k11, k12, k13, k14, k15, k16, k17, k18, k19]) = some y3 := hf 3 _ rfl
      rw [q_int64] at g3
      have g4 : DataW.trod enc Tryz.prog w base spare held n 33 (List.take (Tryz.prog.cellsOf 33) [k4, k5, k6, k7, k8, k9, k10, k11, k12, k13, k14, k15, k16, k17, k18, k19]) = some y4 := hf 4 _ rfl
      rw [q_Txn] at g4
      simp only [List.take_succ_cons, List.take_zero] at g0 g1 g2 g3 g4
      have hb0 : Rows.uptoBulk y0.1 < Rows.uptoBulk (DataW.agg ([y0, y1, y2, y3, y4].map (·.1))) := by simp [Rows.uptoBulk, Rows.uptoBulkAll]; omega
      have hb1 : Rows.uptoBulk y1.1 < Rows.uptoBulk (DataW.agg ([y0, y1, y2, y3, y4].map (·.1))) := by simp [Rows.uptoBulk, Rows.uptoBulkAll]; omega
      have hb2 : Rows.uptoBulk y2.1 < Rows.uptoBulk (DataW.agg ([y0, y1, y2, y3, y4].map (·.1))) := by simp [Rows.uptoBulk, Rows.uptoBulkAll]; omega
      have hb3 : Rows.uptoBulk y3.1 < Rows.uptoBulk (DataW.agg ([y0, y1, y2, y3, y4].map (·.1))) := by simp [Rows.uptoBulk, Rows.uptoBulkAll]; omega
      have hb4 : Rows.uptoBulk y4.1 < Rows.uptoBulk (DataW.agg ([y0, y1, y2, y3, y4].map (·.1))) := by simp [Rows.uptoBulk, Rows.uptoBulkAll]; omega
      dsimp only
      obtain ⟨se, e0, _, w0⟩ := DataW.trod_int Tryz.underlying2 g0
      injection e0 with e0
      obtain ⟨xi, e1, _, w1⟩ := DataW.trod_int Tryz.underlying21 g1
      injection e1 with e1
      obtain ⟨zx, e2, _, w2⟩ := DataW.trod_int Tryz.underlying2 g2
      injection e2 with e2
      obtain ⟨ti, e3, _, w3⟩ := DataW.trod_int Tryz.underlying2 g3
      injection e3 with e3
      obtain ⟨⟨hh, tt⟩, e4, r4, s4⟩ := trod_tx _ _ _ _ (Nat.le_refl _) g4
      subst e0 e1 e2 e3
      refine ⟨(⟨se, xi, zx, ti, hh⟩, ⟨se, xi, zx, ti, tt⟩), ?_, ⟨⟨rfl, rfl, rfl, rfl⟩, r4⟩, ⟨by simp [Lit.wf] at w0; exact w0, by simp [Lit.wf] at w1; exact w1, by simp [Lit.wf] at w2; exact w2, by simp [Lit.wf] at w3; exact w3⟩, s4.mono fun _ _ h => h.mono (Nat.le_of_lt hb4)⟩
      show _ = [Value.int .i64 se, .int .i32 xi, .int .i64 zx, .int .i64 ti] ++ encTx hh
      rw [← e4]; rfl
theorem open_dl {v : Value} {d : DataW H} {ps : List MemPlace} {b0 : Nat} (hval : Value.okWide Tryz.prog w .any b0 35 v) (h : DataW.Trod enc Tryz.prog w base spare held 35 v d ps) (hb : Rows.uptoBulk d ≤ 1048576) :
    ∃ z : DlH × DlT, v = dlV z.1 ∧ DlAt w (· < w.heap.size) z.1 z.2 ∧ DlSm 1048576 z.2 := by
  obtain ⟨cs, rfl, _⟩ := okWide_struct Tryz.underlying35 hval
  obtain ⟨_, h⟩ := h
  obtain ⟨z, e, hz, hs⟩ := trod_dl h
  refine ⟨z, ?_, hz, hs.mono hb⟩
  have e' : cs.toList = encDl z.1 := e
  show Value.agg cs = .agg (encDl z.1).toArray
  rw [← e']
end
end Go.Proofs.YthpjneobmmpbnaaGreatDoor
