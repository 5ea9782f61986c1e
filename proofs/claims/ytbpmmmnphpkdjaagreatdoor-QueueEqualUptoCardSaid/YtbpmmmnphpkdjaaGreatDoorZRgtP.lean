/- Which deltas may be (plain). No program; no condition. -/
import Derived.Test.YtbpmmmnphpkdjaaGreatDoorZTxnP
import Derived.Test.YtbpmmmnphpkdjaaGreatDoorZDltA
import Derived.Test.YtbpmmmnphpkdjaaGreatDoorZPathW
import Derived.Test.YtbpmmmnphpkdjaaGreatDoorZSesR
import Derived.Lib.Bytealg
namespace Go.Proofs.YtbpmmmnphpkdjaaGreatDoor
open Go.RowKit
/-! ### Which deltas may be -/
def badB (s : ByteArray) : Bool := !validP s || decide (s = sSlash)
def namedB (v : TxF) : Bool := if v.n.ty = 1 ∨ v.n.ty = 2 then badB v.n.path else if partB v.n.ty then !validP v.n.path else if v.n.ty = -11 then v.paths.any badB else false
def longB (x : IdV) : Bool := decide (256 < x.1.size) || decide (256 < x.2.size)
def greatB (v : TxF) (k : Nat) : Bool := decide (1048575 < v.data.length) || decide (16 < v.acl.length) || decide (1024 < v.paths.length) || decide (1024 < k) || v.acl.any (fun a => longB a.2) || v.ids.any longB
def spareB (v : TxF) (k : Nat) : Bool :=
  (!partB v.n.ty && decide (v.n.path ≠ ByteArray.empty)) || (!decide (v.n.ty = 1 ∨ v.n.ty = 5) && decide (v.data ≠ [])) || (!decide (v.n.ty = 1 ∨ v.n.ty = 7) && decide (v.acl ≠ [])) ||
  (!decide (v.n.ty = 1) && decide (v.n.ow ≠ 0)) || (!decide (v.n.ty = 1) && decide (v.n.cr ≠ 0)) || (!decide (v.n.ty = 5 ∨ v.n.ty = 7 ∨ v.n.ty = 13) && decide (v.n.ve ≠ 0)) ||
  (!decide (v.n.ty = 120) && (v.n.qh || decide (v.n.qc ≠ 0) || decide (v.n.qb ≠ 0))) || (!decide (v.n.ty = -11) && decide (v.paths ≠ [])) || (!decide (v.n.ty = -1) && decide (v.n.co ≠ 0)) || (!decide (v.n.ty = 14) && decide (k ≠ 0)) ||
  (!decide (v.n.ty = -10) && (decide (v.n.si ≠ 0) || decide (v.n.st ≠ 0) || decide (v.ids ≠ [])))
def utf8B (s : ByteArray) : Bool := Lib.validD s.data.toList
def cmpB (a b : ByteArray) : Int := Lib.compareBytes a.data.toList b.data.toList
/-- do paths not rise? -/
def fallB (l : List ByteArray) : Bool := (List.range (l.length - 1)).any fun j => decide (0 ≤ cmpB l[j]! l[j + 1]!)
open Classical in
noncomputable def oddB (z : Int) (v : TxF) (k : Nat) : Bool :=
  v.acl.any (fun a => !utf8B a.2.1 || !utf8B a.2.2) || spareB v k ||
  (if v.n.ty = -11 then fallB v.paths else if v.n.ty = 120 then (!v.n.qh || decide (v.n.qc < -1) || decide (v.n.qb < -1)) else if v.n.ty = -10 then (decide (v.n.si ≠ 0) || !decide (rightS (z, v.n.st, v.ids))) else if v.n.ty = -1 then decide (0 ≤ v.n.co) else false)
noncomputable def ownE (z : Int) (v : TxF) (k : Nat) : Int := if namedB v then 30 else if greatB v k then 3 else if oddB z v k then 1 else 0
/-- the error of the first part that is wrong -/
noncomputable def subsE (z : Int) : List TxT → Int
  | [] => 0
  | t :: r => if !partB t.v.n.ty then 110 else if ownE z t.v t.subs.length ≠ 0 then ownE z t.v t.subs.length else subsE z r
noncomputable def rightE (d : DlT) : Int :=
  if !knownB d.t.v.n.ty then 110 else if d.zx < 1 then 1 else if ownE d.zx d.t.v d.t.subs.length ≠ 0 then ownE d.zx d.t.v d.t.subs.length else subsE d.zx d.t.subs
end Go.Proofs.YtbpmmmnphpkdjaaGreatDoor
