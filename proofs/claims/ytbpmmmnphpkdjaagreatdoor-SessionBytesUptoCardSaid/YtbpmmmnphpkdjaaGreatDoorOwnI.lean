/- Rows of memory that a caller owns: small words. No condition. -/
import Derived.Test.YtbpmmmnphpkdjaaGreatDoorClk
import Derived.Lib.SlKeysI
import Derived.Laws.AppendOwn
import Derived.Deep.AppendLies
namespace Go.Proofs.YtbpmmmnphpkdjaaGreatDoor
open Go.RowKit Go.MapKept Go.Maps
/-- the slice holds these numbers -/
def RowI (w : World) (base : Nat) (v : Value) (l : List Int) : Prop := w.ownsRow base 2 1 v l.length (l.map encZ)
theorem infoI64 : (Tryz.prog.info? 2).map (fun i => (i.zero, i.size, i.bytes)) = some (some (.int .i64 0), 1, 8) := by kernel_rfl
theorem info_partsI {T : TypeId} {z : Value} {s b : Nat} (h : (Tryz.prog.info? T).map (fun i => (i.zero, i.size, i.bytes)) = some (some z, s, b)) : ∃ i, Tryz.prog.info? T = some i ∧ i.zero = some z ∧ i.size = s ∧ i.bytes = b := by
  cases hi : Tryz.prog.info? T with
  | none => rw [hi] at h; cases h
  | some i =>
    rw [hi] at h
    simp only [Option.map_some, Option.some.injEq, Prod.mk.injEq] at h
    exact ⟨i, rfl, h.1, h.2.1, h.2.2⟩
theorem own_fr {w w' : World} {base n k : Nat} {e : TypeId} {v : Value} {xs : List Value} {own : List Nat} (h : w.ownsRow base e k v n xs) (hf : Fr own w w') (hb : ∀ g ∈ own, g < base) : w'.ownsRow base e k v n xs := by
  refine ⟨h.1, h.2.imp id fun ⟨g, cap, cur, e1, e2, e3, r⟩ => ⟨g, cap, cur, e1, e2, ?_, r⟩⟩
  exact (hf.block g (Array.getElem?_eq_some_iff.1 e3).1 (fun hm => by have := hb g hm; omega)).trans e3
theorem own_formI {w : World} {base n k : Nat} {T : TypeId} {v : Value} {r : List Value} (h : w.ownsRow base T k v n r) : ∃ A c, v = .slice A n c := by
  rcases h.2 with ⟨e, e2⟩ | ⟨g, cap, cur, e, _⟩
  · subst e e2; exact ⟨none, 0, rfl⟩
  · exact ⟨_, _, e⟩
theorem row_at {w : World} {base n c : Nat} {A : Option Addr} {l : List Int} (h : w.ownsRow base 2 1 (.slice A n c) n (l.map encZ)) (hl : l.length = n) {j : Nat} (hj : j < n) : ∃ g, A = some ⟨g, 0, none⟩ ∧ base ≤ g ∧ w.cell? ⟨g, j, none⟩ = some (.int .i64 l[j]!) := by
  obtain ⟨g, cap, e, h1, h2⟩ := h.form (by omega)
  injection e with e e2 e3
  subst e e3
  refine ⟨g, rfl, h1, ?_⟩
  rw [h.cellAt j (by omega), List.getElem?_map, List.getElem?_eq_getElem (by omega), getElem!_pos l j (by omega)]
  rfl
end Go.Proofs.YtbpmmmnphpkdjaaGreatDoor
