/- The walks of arborref06.put and Fix. Condition: at most 2^20 identities, texts below 2^30. -/
import Derived.Test.YtibklpbnjpefnaaGreatDoorAclX
namespace Go.Proofs.YtibklpbnjpefnaaGreatDoor
open Go.RowKit

def RowPost (base : Nat) (v : Value) (out : List AclV) (w : World) (e : Ending) (w' : World) : Prop :=
  ∃ v', e = .returned v' ∧ w'.ownsRow base 71 3 v' out.length (out.flatMap encAcl) ∧ Below base w w' ∧ (v'.ownBlock = v.ownBlock ∨ ∃ g, w.heap.size ≤ g ∧ v'.ownBlock = some g) ∧ ∀ g, g < w.heap.size → v.ownBlock ≠ some g → w'.heap[g]? = w.heap[g]?

def FixRelR (l : List AclV) (ids : List IdV) (m : Nat) (w : World) (v i : Value) (wr : World) : Prop := ∃ (k : Nat) (out : List AclV), i = .int .i64 ↑k ∧ k ≤ l.length ∧ fixF ids [] l = fixF ids out (l.drop k) ∧ out.length ≤ k * (m + 1) ∧
  wr.ownsRow w.heap.size 71 3 v out.length (out.flatMap encAcl) ∧ Below w.heap.size w wr
def InFixR (ids : List IdV) (m : Nat) (p : Int) (out : List AclV) (w w0 : World) (v s i : Value) (wr : World) : Prop := ∃ (k : Nat), i = .int .i64 ↑k ∧ k ≤ m ∧ s = .bool (hasD ids k) ∧
  wr.ownsRow w.heap.size 71 3 v (idFold p out ids k).length ((idFold p out ids k).flatMap encAcl) ∧ Below w.heap.size w wr ∧ wr.cell? ⟨w0.heap.size, 0, none⟩ = some (.int .i32 p) ∧ w0.heap.size < wr.heap.size ∧ v.ownBlock ≠ some w0.heap.size

end Go.Proofs.YtibklpbnjpefnaaGreatDoor
