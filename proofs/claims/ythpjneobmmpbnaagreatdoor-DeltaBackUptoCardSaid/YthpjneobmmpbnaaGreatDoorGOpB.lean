/- Arguments that are bytes. No condition. -/
import Derived.Test.YthpjneobmmpbnaaGreatDoorGRf3
import Derived.Test.YthpjneobmmpbnaaGreatDoorGJutL
namespace Go.Proofs.YthpjneobmmpbnaaGreatDoor
open Go.RowKit Go.MapKept Go.Maps
def ArgB (w : World) (A : Option Addr) (n c : Nat) (l : Bs) : Prop := Sl w w.heap.size enc8 1 A n l ∧ (A = none → n = 0 ∧ c = 0) ∧ n ≤ 1048576 ∧ n ≤ c
theorem ArgB.below {w w' : World} {A : Option Addr} {n c : Nat} {l : Bs} (h : ArgB w A n c l) (hb : Below w.heap.size w w') : ArgB w' A n c l := ⟨h.1.belowMore hb hb.size, h.2⟩
set_option maxRecDepth 100000 in
theorem open_bytes {H : Type} {enc : TypeId × Value → H} {w : World} {base : Nat} {spare : Nat → Bool} {held : Bool} {v : Value} {d : DataW H} {ps : List MemPlace} {b0 : Nat} (hval : Value.okWide Tryz.prog w .any b0 22 v) (h : DataW.Trod enc Tryz.prog w base spare held 22 v d ps) (hb : Rows.uptoBulk d ≤ 1048576) :
    ∃ A n c l, v = .slice A n c ∧ ArgB w A n c l := by
  obtain ⟨A, n, c, l, e, h1, h2, h3, h4⟩ := open_rows (enc0 := enc8) (k := 1) Tryz.underlying22 (by kernel_rfl) (by decide) (fun (_ : UInt8) _ => True)
    (fun _ _ x hx => by
      obtain ⟨z, e, _, hw⟩ := DataW.trod_int Tryz.underlying5 hx
      have hw2 : 0 ≤ z ∧ z ≤ 255 := by simp [Lit.wf] at hw; exact hw
      refine ⟨UInt8.ofNat z.toNat, ?_, trivial⟩
      rw [e]
      unfold enc8
      have h9 : (UInt8.ofNat z.toNat).toNat = z.toNat := UInt8.toNat_ofNat_of_lt (by show z.toNat < 256; omega)
      rw [h9, Int.toNat_of_nonneg hw2.1]) (fun _ _ _ _ hz => hz) hval h
  subst e
  refine ⟨A, n, c, l, rfl, h1, h2, Nat.le_trans h3 hb, ?_⟩
  obtain ⟨fuel, h⟩ := h
  rcases Deep.open_slice Tryz.underlying22 h with ⟨e1, e2⟩ | ⟨a, len, cap, m, n', D, Pl, e1, _, hlc, _, hm, e2, hx⟩
  · injection e1 with e1 _
    injection e1 with e1 e3 e4
    omega
  · injection e1 with e1 _
    injection e1 with e1 e3 e4
    omega
end Go.Proofs.YthpjneobmmpbnaaGreatDoor
