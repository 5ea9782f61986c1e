/- Arguments that are lists of int64. No condition. -/
import Derived.Test.YtfnigjeklcagnaaGreatDoorRows2
import Derived.Test.YtfnigjeklcagnaaGreatDoorLongs
namespace Go.Proofs.YtfnigjeklcagnaaGreatDoor
open Go.RowKit Go.WideShapes
set_option maxRecDepth 100000
section
variable {H : Type} {enc : TypeId × Value → H} {w : World} {base : Nat} {spare : Nat → Bool} {held : Bool}
def encZ1 (z : Int) : List Value := [.int .i64 z]
theorem open_longs {v : Value} {d : DataW H} {ps : List MemPlace} {b0 : Nat} (hval : Value.okWide Tryz.prog w .any b0 33 v) (h : DataW.Trod enc Tryz.prog w base spare held 33 v d ps) (hb : Rows.uptoBulk d ≤ 1048576) :
    ∃ A n c l, v = .slice A n c ∧ SlI w A n l ∧ n ≤ 1048576 ∧ (∀ j, j < n → wfI l[j]!) ∧ (A = none → n = 0 ∧ c = 0) := by
  obtain ⟨A, n, c, l, e, h1, h2, h3, h4⟩ := open_rows (enc0 := encZ1) (k := 1) Tryz.underlying33 (by kernel_rfl) (by decide) (fun (z : Int) _ => wfI z)
    (fun _ _ x hx => by
      obtain ⟨z, e, _, hw⟩ := DataW.trod_int Tryz.underlying2 hx
      exact ⟨z, e, by simp [Lit.wf] at hw; exact hw⟩) (fun _ _ _ _ hz => hz) hval h
  refine ⟨A, n, c, l, e, ⟨h1.1, fun j hj => ?_⟩, Nat.le_trans h3 hb, h4, h2⟩
  obtain ⟨b, off, e2, _, hc⟩ := h1.cells hj
  refine ⟨b, off, e2, ?_⟩
  have := hc 0 (.int .i64 l[j]!) rfl
  rwa [Nat.mul_one, Nat.add_zero] at this
end
end Go.Proofs.YtfnigjeklcagnaaGreatDoor
