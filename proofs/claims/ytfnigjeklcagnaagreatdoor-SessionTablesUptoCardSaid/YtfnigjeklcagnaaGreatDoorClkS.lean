/- slices.Sorted(maps.Keys(m)) at a clock's maps: the keys, rising. Condition: fewer than 2^30 entries. -/
import Derived.Test.YtfnigjeklcagnaaGreatDoorIter
import Derived.Test.YtfnigjeklcagnaaGreatDoorClk
namespace Go.Proofs.YtfnigjeklcagnaaGreatDoor
open Go.RowKit Go.Maps Go.Shelf Go.ChangeShapes Go.WideShapes
open Go.WideElems (Fit rd rg)

theorem MapI.owns {w : World} {b : Nat} {l : List (Int × Value)} (h : MapI w b l) (hl : l.length ≤ 1073741824) :
    ∃ D0 : DataW Unit, w.ownsMap Tryz.prog 2 (fun _ => some (.lit (.bool true), [])) b l.length D0 ∧ (intKeys D0).Perm (l.map (·.1)) ∧ Maps.size D0 = l.length := by
  obtain ⟨es, clock, hb, hs, hl2, hk⟩ := h
  have hsz : es.size = l.length := by
    have := congrArg List.length hl2
    simpa using this
  have hread : ∀ x ∈ es.toList, rd Tryz.prog 2 (fun _ => some ((.lit (.bool true) : DataW Unit), [])) x = some (match x.key with | .int .i64 i => (Lit.int .i64 i, .lit (.bool true)) | _ => (.bool false, .nil)) ∧ ∃ i, x.key = .int .i64 i := fun x hx => by
    have hx2 : (x.key, x.val) ∈ l.map (fun x => ((.int .i64 x.1, x.2) : Value × Value)) := by rw [← hl2]; exact List.mem_map.2 ⟨x, hx, rfl⟩
    obtain ⟨kl, hkl⟩ := hk _ hx2
    obtain ⟨i, hi, hkl2, _⟩ := Maps.keyOf_i64 Tryz.underlying2 hkl
    have hi : x.key = .int .i64 i := hi
    refine ⟨?_, i, hi⟩
    unfold rd
    rw [show keyOf Tryz.prog 2 x.key = some kl from hkl, hkl2, hi]
    rfl
  refine ⟨_, ⟨es, clock, hb, ⟨by rw [hsz]; exact Nat.le_trans hl (by decide), hs, fun x hx => ⟨_, (hread x hx).1⟩⟩, Nat.le_of_eq hsz, rfl⟩, ?_, ?_⟩
  · show (((es.toList.map (rg Tryz.prog 2 _)).foldr DataW.insert []).map fun p => _root_.Go.intOf p.1).Perm _
    refine ((sorted_perm _).map _).trans ?_
    have e : (es.toList.map (rg Tryz.prog 2 (fun _ => some ((.lit (.bool true) : DataW Unit), [])))).map (fun p => _root_.Go.intOf p.1) = l.map (·.1) := by
      have e2 : l.map (·.1) = (l.map (fun x => ((.int .i64 x.1, x.2) : Value × Value))).map (fun q => match q.1 with | .int .i64 i => i | _ => 0) := by rw [List.map_map]; rfl
      rw [e2, ← hl2, List.map_map, List.map_map]
      refine List.map_congr_left fun x hx => ?_
      obtain ⟨h1, i, h2⟩ := hread x hx
      simp only [Function.comp, rg, h1, Option.getD_some, h2]
      rfl
    rw [e]
  · show ((es.toList.map (rg Tryz.prog 2 _)).foldr DataW.insert []).length = _
    rw [length_sorted, List.length_map, Array.length_toList, hsz]
def sortI (l : List Int) : List Int := l.mergeSort leI
theorem sortI_perm (l : List Int) : (sortI l).Perm l := List.mergeSort_perm l leI
theorem sorts_in (m : Nat) : AnyZI.SortsIn Tryz.prog Tryz.sortedA_ren Fence.wide m :=
  ⟨fun blk off cap ss W hH hblk hsz => callsIn_wide.2 (AnyM.slices_Sort_int Tryz.sortA blk off cap ss W hH hblk hsz),
   fun p cap W => callsIn_wide.2 (AnyM.slices_Sort_int_none Tryz.sortA p cap W)⟩
theorem keysA_any (mb : Option Nat) (W : World) : Calls Tryz.prog 42 #[.map mb] W fun e w' => e = .returned (.func (.func 56) #[] #[.pointer (some ⟨W.heap.size, 0, none⟩)]) ∧ w' = W.alloc (.cells #[.map mb] 80) :=
  callsIn_wide.1 (AnyZI.keys_in Tryz.keysA Fence.wide 5 trivial rfl mb W)
theorem keysB_any (mb : Option Nat) (W : World) : Calls Tryz.prog 43 #[.map mb] W fun e w' => e = .returned (.func (.func 57) #[] #[.pointer (some ⟨W.heap.size, 0, none⟩)]) ∧ w' = W.alloc (.cells #[.map mb] 84) :=
  callsIn_wide.1 (AnyZI.keys_in Tryz.keysB Fence.wide 5 trivial rfl mb W)
def SortPost (w : World) (l : List Int) (e : Ending) (w' : World) : Prop :=
  ∃ A c, e = .returned (.slice A l.length c) ∧ w'.ownsRow w.heap.size 2 1 (.slice A l.length c) l.length (l.map encZ) ∧ Below w.heap.size w w'
theorem sort_close {w w' : World} {v : Value} {ss l : List Int} (hp : ss.Perm l) (hr : w'.ownsRow w.heap.size 2 1 v ss.length ((ss.mergeSort leI).map encZ)) (hb : Below w.heap.size w w') : SortPost w (sortI l) (.returned v) w' := by
  have e1 : ss.mergeSort leI = sortI l := mergeSort_of_perm_i hp
  have e2 : ss.length = (sortI l).length := by rw [hp.length_eq, (sortI_perm l).length_eq]
  rw [e1, e2] at hr
  rcases hr.2 with ⟨h1, h2⟩ | ⟨g, cap, cur, h1, h2⟩
  · subst h1
    exact ⟨none, 0, by rw [h2], by rw [h2] at hr ⊢; exact hr, hb⟩
  · subst h1
    exact ⟨_, _, rfl, hr, hb⟩
set_option maxHeartbeats 1000000 in
theorem sortedA_any (b : Nat) (l : List (Int × Value)) (w : World) (h : MapI w b l) (hl : l.length ≤ 1073741824) :
    Calls Tryz.prog 41 #[.func (.func 56) #[] #[.pointer (some ⟨w.heap.size, 0, none⟩)]] (w.alloc (.cells #[.map (some b)] 80)) (SortPost (w.alloc (.cells #[.map (some b)] 80)) (sortI (l.map (·.1)))) := by
  obtain ⟨D0, hown, hperm, hsize⟩ := h.owns hl
  have hbl := hown.lt
  have hseq : SeqGives Fence.wide 2 Tryz.prog 56 #[.pointer (some ⟨w.heap.size, 0, none⟩)] encZ (fun ss => ss.Perm (intKeys D0)) (Maps.size D0) (w.alloc (.cells #[.map (some b)] 80)) :=
    AnyZI.keys_gives (ρ := Tryz.keysA_ren) { Tryz.keysA with } Fence.wide _ trivial rfl (by omega) w.heap.size b l.length D0 _ (by simp) (by simp) (by
      obtain ⟨es, clock, hb, Ft, hs, hD⟩ := hown
      exact ⟨es, clock, (Below.heap_alloc _ _ b hbl).trans hb, Ft, hs, hD⟩)
  have cS := AnyZI.sorted_in Tryz.sortedA Fence.wide 5 trivial trivial trivial trivial rfl (by omega) (sorts_in _) (enters_of Tryz.func55 (by kernel_rfl) rfl) 56 #[.pointer (some ⟨w.heap.size, 0, none⟩)] trivial (enters_of Tryz.func56 (by kernel_rfl) rfl) _ _ (by rw [hsize]; exact Nat.le_trans hl (by decide)) (by rw [hsize]; omega) _ hseq
  refine (callsIn_wide.1 cS).mono ?_
  rintro e w' ⟨v, ss, rfl, hS, hrow, _, hb⟩
  exact sort_close (hS.trans hperm) hrow hb
set_option maxHeartbeats 1000000 in
theorem sortedB_any (b : Nat) (l : List (Int × Value)) (w : World) (h : MapI w b l) (hl : l.length ≤ 1073741824) :
    Calls Tryz.prog 41 #[.func (.func 57) #[] #[.pointer (some ⟨w.heap.size, 0, none⟩)]] (w.alloc (.cells #[.map (some b)] 84)) (SortPost (w.alloc (.cells #[.map (some b)] 84)) (sortI (l.map (·.1)))) := by
  obtain ⟨D0, hown, hperm, hsize⟩ := h.owns hl
  have hbl := hown.lt
  have hseq : SeqGives Fence.wide 2 Tryz.prog 57 #[.pointer (some ⟨w.heap.size, 0, none⟩)] encZ (fun ss => ss.Perm (intKeys D0)) (Maps.size D0) (w.alloc (.cells #[.map (some b)] 84)) :=
    AnyZI.keys_gives (ρ := Tryz.keysB_ren) { Tryz.keysB with } Fence.wide _ trivial rfl (by omega) w.heap.size b l.length D0 _ (by simp) (by simp) (by
      obtain ⟨es, clock, hb, Ft, hs, hD⟩ := hown
      exact ⟨es, clock, (Below.heap_alloc _ _ b hbl).trans hb, Ft, hs, hD⟩)
  have cS := AnyZI.sorted_in Tryz.sortedA Fence.wide 5 trivial trivial trivial trivial rfl (by omega) (sorts_in _) (enters_of Tryz.func55 (by kernel_rfl) rfl) 57 #[.pointer (some ⟨w.heap.size, 0, none⟩)] trivial (enters_of Tryz.func57 (by kernel_rfl) rfl) _ _ (by rw [hsize]; exact Nat.le_trans hl (by decide)) (by rw [hsize]; omega) _ hseq
  refine (callsIn_wide.1 cS).mono ?_
  rintro e w' ⟨v, ss, rfl, hS, hrow, _, hb⟩
  exact sort_close (hS.trans hperm) hrow hb
end Go.Proofs.YtfnigjeklcagnaaGreatDoor
