/- Maps whose keys are int64, by their lists of keys and values; what blocks a call may turn. -/
import Derived.Test.YthpjneobmmpbnaaGreatDoorGHeld
import Derived.Test.YthpjneobmmpbnaaGreatDoorProg
import Derived.Maps.Range
import Derived.Lib.SlKeysI
import Derived.Lib.Hide
import Derived.Lib.SlicesS
import Derived.LoopTactic
import Derived.BigCall
import Derived.Laws.AppendOwn
import Derived.Deep.AppendLies
import Derived.Deep.QuietTactic
import Derived.BigQuiet
import Derived.IntWalk
namespace Go.Proofs.YthpjneobmmpbnaaGreatDoor
open Go.RowKit Go.MapKept Go.Maps

def wfI (i : Int) : Prop := -9223372036854775808 ≤ i ∧ i ≤ 9223372036854775807
section
variable {w w' : World} {t e : TypeId} {b : Nat} {l : List (Int × Value)}
end
/-- what may turn: blocks of 'own', and new ones -/
structure Fr (own : List Nat) (w w' : World) : Prop where
  os : w'.os = w.os
  tape : w'.tape = w.tape
  output : w'.output = w.output
  size : w.heap.size ≤ w'.heap.size
  block : ∀ g, g < w.heap.size → g ∉ own → w'.heap[g]? = w.heap[g]?
theorem Fr.refl (own : List Nat) (w : World) : Fr own w w := ⟨rfl, rfl, rfl, Nat.le_refl _, fun _ _ _ => rfl⟩
theorem Fr.trans {own own1 : List Nat} {a b c : World} (h : Fr own a b) (k : Fr own1 b c) (hs : ∀ g ∈ own1, g ∈ own ∨ a.heap.size ≤ g) : Fr own a c :=
  ⟨k.os.trans h.os, k.tape.trans h.tape, k.output.trans h.output, Nat.le_trans h.size k.size, fun g hg hn => (k.block g (Nat.lt_of_lt_of_le hg h.size) (fun hm => (hs g hm).elim hn (fun hle => by omega))).trans (h.block g hg hn)⟩
theorem Fr.below {own : List Nat} {w w' : World} {B : Nat} (h : Fr own w w') (hB : B ≤ w.heap.size) (ho : ∀ g ∈ own, B ≤ g) : Below B w w' :=
  ⟨h.os, h.tape, h.output, h.size, fun g hg => h.block g (by omega) (fun hm => by have := ho g hm; omega)⟩
theorem Fr.of_below {own : List Nat} {w w' : World} (h : Below w.heap.size w w') : Fr own w w' := ⟨h.os, h.tape, h.output, h.size, fun g hg _ => h.block g hg⟩
theorem Fr.of_grown {own : List Nat} {w w' : World} {b : Nat} (h : w.grownBy w' (some b)) (hb : b ∈ own) : Fr own w w' :=
  ⟨h.os, h.tape, h.output, h.size, fun g hg hn => h.block g hg (fun e => by injection e with e; exact hn (e ▸ hb))⟩
end Go.Proofs.YthpjneobmmpbnaaGreatDoor
namespace Go.Proofs.YthpjneobmmpbnaaGreatDoor
open Go.RowKit Go.MapKept Go.Maps
theorem cellH {w : World} {b o : Nat} {cs : Array Value} {t : TypeId} {f : Nat × Nat} (h : w.heap[b]? = some (.cells cs t f)) : w.cell? ⟨b, o, none⟩ = cs[o]? := by simp [World.cell?, h]
end Go.Proofs.YthpjneobmmpbnaaGreatDoor
namespace Go.Proofs.YthpjneobmmpbnaaGreatDoor
open Go.RowKit Go.MapKept Go.Maps
theorem info_partsI {T : TypeId} {z : Value} {s b : Nat} (h : (Tryz.prog.info? T).map (fun i => (i.zero, i.size, i.bytes)) = some (some z, s, b)) : ∃ i, Tryz.prog.info? T = some i ∧ i.zero = some z ∧ i.size = s ∧ i.bytes = b := by
  cases hi : Tryz.prog.info? T with
  | none => rw [hi] at h; cases h
  | some i =>
    rw [hi] at h
    simp only [Option.map_some, Option.some.injEq, Prod.mk.injEq] at h
    exact ⟨i, rfl, h.1, h.2.1, h.2.2⟩
theorem own_fr {w w' : World} {base n k : Nat} {e : TypeId} {v : Value} {xs : List Value} {own : List Nat} (h : w.ownsRow base e k v n xs) (hf : Fr own w w') (hb : ∀ g ∈ own, g < base) : w'.ownsRow base e k v n xs := by
  refine ⟨h.1, h.2.imp id fun ⟨g, cap, cur, e1, e2, e3, r⟩ => ⟨g, cap, cur, e1, e2, ?_, r⟩⟩
  exact (hf.block g (Array.getElem?_eq_some_iff.1 e3).1 (fun hm => by have := hb g hm; omega)).trans e3
theorem own_formI {w : World} {base n k : Nat} {T : TypeId} {v : Value} {r : List Value} (h : w.ownsRow base T k v n r) : ∃ A c, v = .slice A n c := by
  rcases h.2 with ⟨e, e2⟩ | ⟨g, cap, cur, e, _⟩
  · subst e e2; exact ⟨none, 0, rfl⟩
  · exact ⟨_, _, e⟩
end Go.Proofs.YthpjneobmmpbnaaGreatDoor
namespace Go.Proofs.YthpjneobmmpbnaaGreatDoor
open Go.RowKit Go.MapKept Go.Maps
theorem Fr.drewN (own : List Nat) (w : World) (q : Nat) : Fr own w (w.drewN q) := ⟨rfl, rfl, rfl, Nat.le_refl _, fun _ _ _ => rfl⟩
end Go.Proofs.YthpjneobmmpbnaaGreatDoor
namespace Go.Proofs.YthpjneobmmpbnaaGreatDoor
open Go.RowKit Go.MapKept Go.Maps
theorem Fr.grown {own : List Nat} {w wr w5 : World} {row : Option Nat} (h : Fr own w wr) (hg : wr.grownBy w5 row) (hr : ∀ k, row = some k → w.heap.size ≤ k) : Fr own w w5 :=
  ⟨hg.os.trans h.os, hg.tape.trans h.tape, hg.output.trans h.output, Nat.le_trans h.size hg.size, fun g hlt hn => (hg.block g (Nat.lt_of_lt_of_le hlt h.size) (fun e => by have := hr g e.symm; omega)).trans (h.block g hlt hn)⟩
end Go.Proofs.YthpjneobmmpbnaaGreatDoor
