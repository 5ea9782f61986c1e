/- Words for the walk of delta.plain. Condition: lists of at most 2^20 elements. -/
import Derived.Test.YtbpmmmnphpkdjaaGreatDoorZDltB
import Derived.Test.YtbpmmmnphpkdjaaGreatDoorZRowX
namespace Go.Proofs.YtbpmmmnphpkdjaaGreatDoor
open Go.RowKit Go.MapKept
/-- what the calls in it answer, in every world whose memory is this one -/
structure PlC (W : World) (h k : TxH) (bd ba bi bp : Bool) : Prop where
  d : ∀ X : World, X.heap = W.heap → Calls Tryz.prog 209 #[slV h.d, slV k.d] X (QuietB X bd)
  a : ∀ X : World, X.heap = W.heap → Calls Tryz.prog 210 #[slV h.a, slV k.a] X (QuietB X ba)
  i : ∀ X : World, X.heap = W.heap → Calls Tryz.prog 211 #[slV h.i, slV k.i] X (QuietB X bi)
  p : ∀ X : World, X.heap = W.heap → Calls Tryz.prog 212 #[slV h.p, slV k.p] X (QuietB X bp)
def PlR (w : World) (b : Bool) (e : Ending) (w' : World) : Prop := e = .returned (.bool b) ∧ Below w.heap.size w w'
theorem PlR.mk {w w' : World} {a b : Bool} (hb : Below w.heap.size w w') (e : b = a) : PlR w a (.returned (.bool b)) w' := ⟨by rw [e], hb⟩
theorem two_below (w : World) (a b : Obj) : Below w.heap.size w ((w.alloc a).alloc b) := ((Below.refl _ w).alloc (Nat.le_refl _) _).alloc (by simp) _
def objTx (h : TxH) : Obj := .cells #[.int .i32 h.n.ty, .string h.n.path, slV h.d, slV h.a, .int .i64 h.n.ow, .int .i32 h.n.ve, .int .i32 h.n.cr, .bool h.n.qh, .int .i64 h.n.qc, .int .i64 h.n.qb, .int .i64 h.n.si, .int .i32 h.n.st, slV h.i, slV h.p, .int .i32 h.n.co, slV h.s] 52
theorem str_same (a b : ByteArray) (e : a = b) : (a.toList == b.toList) = true := by subst e; simp
theorem int_same (a b : Int) (e : a = b) : (a == b) = true := beq_iff_eq.2 e
theorem int_other (a b : Int) (e : ¬ a = b) : (a == b) = false := beq_eq_false_iff_ne.2 e
/-- the answer, of the answers to the calls -/
def plB (h k : TxH) (bd ba bi bp : Bool) : Bool :=
  decide (h.n.ty = k.n.ty) && decide (h.n.path = k.n.path) && bd && ba && decide (h.n.ow = k.n.ow) && decide (h.n.ve = k.n.ve) && decide (h.n.cr = k.n.cr) && decide ((h.n.qh, h.n.qc, h.n.qb) = (k.n.qh, k.n.qc, k.n.qb)) && decide (h.n.si = k.n.si) && decide (h.n.st = k.n.st) && bi && bp && decide (h.n.co = k.n.co)
end Go.Proofs.YtbpmmmnphpkdjaaGreatDoor
