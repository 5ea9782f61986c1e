/- The walks over lists of identities and of entries: the reference's Same, slices.Equal, slices.Contains, slices.ContainsFunc. -/
import Derived.Test.YthpjneobmmpbnaaGreatDoorGAclDec
import Derived.LoopTactic
import Derived.Deep.QuietTactic
import Derived.BigQuiet
import Derived.BigCall
import Derived.Test.YthpjneobmmpbnaaGreatDoorGJutP
import Derived.Test.YthpjneobmmpbnaaGreatDoorGFrame
import Derived.Deep.Slices
import Derived.ChangeArms
import Derived.WideShapes
namespace Go.Proofs.YthpjneobmmpbnaaGreatDoor
open Go.RowKit

def QuietB (w : World) (b : Bool) (e : Ending) (w' : World) : Prop := e = .returned (.bool b) ∧ ∃ q, w' = w.drewN q
theorem QuietB.mk {w w' : World} {a b : Bool} (h : ∃ q, w' = w.drewN q) (e : b = a) : QuietB w a (.returned (.bool b)) w' := ⟨by rw [e], h⟩
theorem list_ext_bang {α : Type} [Inhabited α] {xs ys : List α} (hl : xs.length = ys.length) (h : ∀ j, j < xs.length → xs[j]! = ys[j]!) : xs = ys := by
  refine List.ext_getElem hl fun j h1 h2 => ?_
  have := h j h1
  rwa [getElem!_pos xs j h1, getElem!_pos ys j h2] at this

end Go.Proofs.YthpjneobmmpbnaaGreatDoor
namespace Go.Proofs.YthpjneobmmpbnaaGreatDoor
open Go.RowKit Go.WideShapes
set_option maxRecDepth 100000
theorem bulkAll_map {H : Type} (f : Nat → DataW H) : ∀ (l : List Nat) (i : Nat), i ∈ l → Rows.uptoBulk (f i) ≤ Rows.uptoBulkAll (l.map f) := fun _ _ h => bulk_part (List.mem_map_of_mem h)
theorem bulk_pos {H : Type} (d : DataW H) : 1 ≤ Rows.uptoBulk d := by
  cases d with
  | lit x => cases x <;> simp [Rows.uptoBulk]
  | _ => simp [Rows.uptoBulk]
theorem bulkAll_len {H : Type} : ∀ l : List (DataW H), l.length ≤ Rows.uptoBulkAll l
  | [] => by simp [Rows.uptoBulkAll]
  | d :: r => by have := bulkAll_len r; have := bulk_pos d; simp only [Rows.uptoBulkAll, List.length_cons]; omega
section
variable {H : Type} {enc : TypeId × Value → H} {w : World} {base : Nat} {spare : Nat → Bool} {held : Bool}
theorem add_two {a : Addr} (hs : a.spot = none) (i u : Nat) : (a.add i).add u = ⟨a.block, a.off + i + u, none⟩ := by
  obtain ⟨b, o, s⟩ := a
  simp only at hs
  subst hs
  simp only [Addr.add]
  by_cases h : i = 0 <;> by_cases h' : u = 0 <;> simp [h, h']
theorem add_nil_ (a : Addr) : a.add 0 = a := by simp [Addr.add]
theorem open_rows {α : Type} [Inhabited α] {enc0 : α → List Value} {k : Nat} {t e : TypeId} (ht : Tryz.prog.underlying t = some (.slice e)) (hC : Tryz.prog.cellsOf e = k) (hk0 : 0 < k) (small : α → Nat → Prop)
    (hel : ∀ (fuel : Nat) cs' (x : DataW H × List MemPlace), DataW.trod enc Tryz.prog w base spare held fuel e cs' = some x → ∃ z : α, cs' = enc0 z ∧ small z (Rows.uptoBulk x.1)) (hmono : ∀ z a b, a ≤ b → small z a → small z b)
    {v : Value} {d : DataW H} {ps : List MemPlace} {b0 : Nat} (hval : Value.okWide Tryz.prog w .any b0 t v) (h : DataW.Trod enc Tryz.prog w base spare held t v d ps) :
    ∃ A n c l, v = .slice A n c ∧ Sl w w.heap.size enc0 k A n l ∧ (A = none → n = 0 ∧ c = 0) ∧ n ≤ Rows.uptoBulk d ∧ ∀ j, j < n → small l[j]! (Rows.uptoBulk d) := by
  obtain ⟨A, n, c, rfl⟩ := okWide_slice ht hval
  obtain ⟨fuel, h⟩ := h
  rcases Deep.open_slice ht h with ⟨e1, e2⟩ | ⟨a, len, cap, m, n', D, Pl, e1, _, hlc, _, hm, e2, hx⟩
  · injection e1 with e1 _
    injection e1 with e1 e3 e4
    subst e1 e3 e4
    exact ⟨none, 0, 0, [], rfl, Sl.nil_, fun _ => ⟨rfl, rfl⟩, Nat.zero_le _, fun j hj => absurd hj (by omega)⟩
  · injection e1 with e1 _
    injection e1 with e1 e3 e4
    subst e1 e3 e4
    have hd : d = .slice ((List.range n).map D) ((List.range (m - n)).map fun j => D (n + j)) := congrArg Prod.fst e2
    have hnm : n ≤ m := by rw [hm]; split <;> omega
    have hspot : 0 < n → a.spot = none := fun h0 => by
      obtain ⟨cs', h1, h2⟩ := hx 0 (by omega)
      rw [hC, Nat.zero_mul, add_nil_] at h1
      obtain ⟨_, hlen, hcell⟩ := World.cells?_some h1
      have hg := hcell 0 hk0
      rw [add_nil_, List.getElem?_eq_getElem (by omega)] at hg
      exact World.cell?_spot hg
    have key : ∀ i, i < n → ∃ z : α, (∀ u y, (enc0 z)[u]? = some y → a.spot = none ∧ w.cell? ⟨a.block, a.off + i * k + u, none⟩ = some y ∧ a.block < w.heap.size) ∧ small z (Rows.uptoBulk d) ∧ (enc0 z).length = k := by
      intro i hi
      obtain ⟨cs', h1, h2⟩ := hx i (by omega)
      rw [hC] at h1
      obtain ⟨z, e3, hz⟩ := hel _ _ _ h2
      subst e3
      obtain ⟨_, hlen, hcell⟩ := World.cells?_some h1
      refine ⟨z, fun u y hu => ?_, hmono z _ _ ?_ hz, hlen⟩
      · have hul : u < k := by rw [← hlen]; exact (List.getElem?_eq_some_iff.1 hu).1
        have hg := (hcell u hul).trans hu
        have hg' : w.cell? ⟨a.block, a.off + i * k + u, none⟩ = some y := by
          rw [← hg, add_two (hspot (by omega))]
        exact ⟨hspot (by omega), hg', (by have := World.block_lt_of_cell? _ _ hg'; exact this)⟩
      · rw [hd]
        have := bulkAll_map D (List.range n) i (by simp [hi])
        simp only [Rows.uptoBulk]
        omega
    obtain ⟨Z, hZ⟩ : ∃ Z : Nat → α, ∀ i, i < n → (∀ u y, (enc0 (Z i))[u]? = some y → a.spot = none ∧ w.cell? ⟨a.block, a.off + i * k + u, none⟩ = some y ∧ a.block < w.heap.size) ∧ small (Z i) (Rows.uptoBulk d) ∧ (enc0 (Z i)).length = k := by
      classical
      refine ⟨fun i => if h : i < n then (key i h).choose else default, fun i hi => ?_⟩
      simp only [dif_pos hi]
      exact (key i hi).choose_spec
    have hget : ∀ j, j < n → ((List.range n).map Z)[j]! = Z j := fun j hj => by
      rw [getElem!_pos _ _ (by simpa using hj)]; simp
    refine ⟨some a, n, c, (List.range n).map Z, rfl, ⟨by simp, fun h0 => ?_⟩, (fun hh => by cases hh), ?_, fun j hj => by rw [hget j hj]; exact (hZ j hj).2.1⟩
    · obtain ⟨h1, _, h3⟩ := hZ 0 h0
      obtain ⟨y, hy⟩ : ∃ y, (enc0 (Z 0))[0]? = some y := ⟨_, List.getElem?_eq_getElem (by omega)⟩
      obtain ⟨hs, _, hb⟩ := h1 0 y hy
      refine ⟨a.block, a.off, ?_, hb, fun j hj i u hu => ?_⟩
      · obtain ⟨b, o, s⟩ := a
        simp only at hs
        subst hs; rfl
      · rw [hget j hj] at hu
        exact ((hZ j hj).1 i u hu).2.1
    · rw [hd]
      have := bulkAll_len ((List.range n).map D)
      simp only [Rows.uptoBulk]
      simp at this
      omega
end
end Go.Proofs.YthpjneobmmpbnaaGreatDoor
