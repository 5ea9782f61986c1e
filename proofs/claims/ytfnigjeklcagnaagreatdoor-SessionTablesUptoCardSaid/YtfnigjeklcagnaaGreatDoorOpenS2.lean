/- Arguments that are lists of sessions. No condition. -/
import Derived.Test.YtfnigjeklcagnaaGreatDoorOpenS
import Derived.Test.YtfnigjeklcagnaaGreatDoorTabA
namespace Go.Proofs.YtfnigjeklcagnaaGreatDoor
open Go.RowKit Go.WideShapes
set_option maxRecDepth 100000
/-- the slice reads these sessions, which are well formed -/
def ArgS (w : World) (A : Option Addr) (n : Nat) (Z : List EntV) : Prop := SlS w A n Z ∧ ∀ j, j < n → SesOk w Z[j]!.1 Z[j]!.2 1048576
theorem SesOk.below {w w' : World} {z : SesV} {l : List IdV} {m : Nat} (h : SesOk w z l m) (hb : Below w.heap.size w w') : SesOk w' z l m :=
  ⟨h.1, h.2.1, h.2.2.1.belowMore hb hb.size, h.2.2.2.1, h.2.2.2.2⟩
theorem ArgS.below {w w' : World} {A : Option Addr} {n : Nat} {Z : List EntV} (h : ArgS w A n Z) (hb : Below w.heap.size w w') : ArgS w' A n Z :=
  ⟨h.1.below hb, fun j hj => (h.2 j hj).below hb⟩
section
variable {H : Type} {enc : TypeId × Value → H} {w : World} {base : Nat} {spare : Nat → Bool} {held : Bool}
theorem open_sesss {v : Value} {d : DataW H} {ps : List MemPlace} {b0 : Nat} (hval : Value.okWide Tryz.prog w .any b0 50 v) (h : DataW.Trod enc Tryz.prog w base spare held 50 v d ps) (hb : Rows.uptoBulk d ≤ 1048576) :
    ∃ A n c Z, v = .slice A n c ∧ ArgS w A n Z ∧ n ≤ 1048576 := by
  obtain ⟨A, n, c, l, e, h1, h2, h3, h4⟩ := open_rows (enc0 := encS) (k := 3) Tryz.underlying50 (by kernel_rfl) (by decide) (fun (z : SesV) m => ∃ l, SesOk w z l m) (fun _ _ x hx => trod_sess hx) (fun _ _ _ hab hz => by
    obtain ⟨l, hz⟩ := hz
    exact ⟨l, hz.mono hab⟩) hval h
  obtain ⟨I, hI⟩ : ∃ I : Nat → List IdV, ∀ j, j < n → SesOk w l[j]! (I j) 1048576 := by
    classical
    refine ⟨fun j => if h : j < n then (h4 j h).choose else [], fun j hj => ?_⟩
    simp only [dif_pos hj]
    exact (h4 j hj).choose_spec.mono hb
  have hget : ∀ j, j < n → ((List.range n).map fun j => ((l[j]!, I j) : EntV))[j]! = (l[j]!, I j) := fun j hj => by
    rw [getElem!_pos _ _ (by simpa using hj)]; simp
  refine ⟨A, n, c, (List.range n).map fun j => (l[j]!, I j), e, ⟨⟨by simp, fun j hj => ?_⟩, fun j hj => ?_⟩, Nat.le_trans h3 hb⟩
  · rw [hget j hj]
    obtain ⟨b, off, e2, _, hc⟩ := h1.cells hj
    exact ⟨⟨b, off, e2, hc 0 _ rfl, hc 1 _ rfl, hc 2 _ rfl⟩, (hI j hj).2.2.1, (hI j hj).2.2.2.2.1⟩
  · rw [hget j hj]; exact hI j hj
end
end Go.Proofs.YtfnigjeklcagnaaGreatDoor
