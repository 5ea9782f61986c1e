/- The walks of arborlaw06.world, no, live. No condition but the variables' being laid. -/
import Derived.Test.YtibklpbnjpefnaaGreatDoorAclT
import Derived.Deep.RegionWith
import Derived.Deep.RegionHeld3
import Derived.Outline
namespace Go.Proofs.YtibklpbnjpefnaaGreatDoor
open Go.RowKit

theorem world_any (p : Int) (w : World) : Calls Tryz.prog 46 #[.int .i32 p] w fun e w' => e = .returned (.agg #[.int .i32 p, .string ⟨#[119, 111, 114, 108, 100]⟩, .string ⟨#[97, 110, 121, 111, 110, 101]⟩]) ∧ w' = w.alloc (.cells #[.int .i32 p, .string ⟨#[119, 111, 114, 108, 100]⟩, .string ⟨#[97, 110, 121, 111, 110, 101]⟩] 71) := by
  go_enter Tryz.func46, Tryz.ntmps46
  go_wp2
  exact bodyPost_ret (v := .agg #[.int .i32 p, .string ⟨#[119, 111, 114, 108, 100]⟩, .string ⟨#[97, 110, 121, 111, 110, 101]⟩]) (by simp [results, Tryz.results46, go_sem]) rfl ⟨rfl, rfl⟩
theorem no_any (n : Int) (w : World) : Calls Tryz.prog 17 #[.int .i64 n] w fun e w' => e = .returned (.int .i64 n) ∧ w = w' := by
  go_enter Tryz.func17, Tryz.ntmps17
  go_wp2
  go_ret
  exact ⟨rfl, rfl⟩
theorem Sl.of_heap {α : Type} [Inhabited α] {w : World} {enc : α → List Value} {k b : Nat} {zs : List α} {T : TypeId} {fz : Nat × Nat} (hk : ∀ x, (enc x).length = k) (h : w.heap[b]? = some (.cells (zs.flatMap enc).toArray T fz)) : Sl w w.heap.size enc k (some ⟨b, 0, none⟩) zs.length zs := by
  refine ⟨rfl, fun _ => ⟨b, 0, rfl, (Array.getElem?_eq_some_iff.1 h).1, fun j hj i u hu => ?_⟩⟩
  rw [Nat.zero_add, cell_of_row w b _ _ _ _ h]
  have := flat_at hk zs j i u hj hu
  simpa using this

theorem heap_alloc_eq (w : World) (o : Obj) (n : Nat) : (w.alloc o).heap[n]? = if n = w.heap.size then some o else w.heap[n]? := by
  by_cases h : n = w.heap.size
  · subst h; rw [if_pos rfl]; exact (MapKept.heap_alloc _ _).1
  · rw [if_neg h]
    by_cases hlt : n < w.heap.size
    · exact Below.heap_alloc w o n hlt
    · rw [Array.getElem?_eq_none (by simp; omega), Array.getElem?_eq_none (by omega)]
theorem heap_drew (w : World) : w.drew.heap = w.heap := rfl
theorem heap_two1 (w : World) (o o2 : Obj) : ((w.alloc o).alloc o2).heap[w.heap.size]? = some o := by
  rw [Below.heap_alloc _ _ _ (by simp)]; exact (MapKept.heap_alloc _ _).1
theorem heap_two2 (w : World) (o o2 : Obj) : ((w.alloc o).alloc o2).heap[w.heap.size + 1]? = some o2 := by
  have e : (w.alloc o).heap.size = w.heap.size + 1 := by simp
  rw [← e]; exact (MapKept.heap_alloc _ _).1
theorem fixP_ex : fixP [(31, sWorld, sAnyone), (1, sAuth, ByteArray.empty), (31, sWorld, sAnyone)] [(sDigest, (⟨#[117, 58, 112]⟩ : ByteArray))] = some [ex0, ex1] := by decide +kernel
theorem fix_ex (b1 c1 b2 c2 : Nat) (W : World) (hE : Env W) (h1 : W.heap[b1]? = some (.cells #[.int .i32 31, .string ⟨#[119, 111, 114, 108, 100]⟩, .string ⟨#[97, 110, 121, 111, 110, 101]⟩, .int .i32 1, .string ⟨#[97, 117, 116, 104]⟩, .string ⟨#[]⟩, .int .i32 31, .string ⟨#[119, 111, 114, 108, 100]⟩, .string ⟨#[97, 110, 121, 111, 110, 101]⟩] 71 (0, 0)))
    (h2 : W.heap[b2]? = some (.cells #[.string ⟨#[100, 105, 103, 101, 115, 116]⟩, .string ⟨#[117, 58, 112]⟩] 69 (0, 0))) :
    Calls Tryz.prog 45 #[.slice (some ⟨b1, 0, none⟩) 3 c1, .slice (some ⟨b2, 0, none⟩) 1 c2] W (FixPost W W.heap.size (some [ex0, ex1])) := by
  rw [← fixP_ex]
  refine fix_any _ 3 c1 _ _ 1 c2 _ W hE (Sl.of_heap (zs := [(31, sWorld, sAnyone), (1, sAuth, ByteArray.empty), (31, sWorld, sAnyone)]) (fun _ => rfl) h1) (by decide) (Sl.of_heap (zs := [(sDigest, (⟨#[117, 58, 112]⟩ : ByteArray))]) (fun _ => rfl) h2) (by decide) ?_ ?_
  · intro j hj
    match j, hj with
    | 0, _ => exact ⟨by decide, by decide⟩
    | 1, _ => exact ⟨by decide, by decide⟩
    | 2, _ => exact ⟨by decide, by decide⟩
  · intro j hj
    match j, hj with
    | 0, _ => exact ⟨by decide, by decide⟩

theorem own_drop {w' : World} {m m' : Nat} {T : TypeId} {k n : Nat} {v : Value} {r : List Value} (hv : w'.ownsRow m' T k v n r) (hm : m ≤ m') : w'.ownsRow m T k v n r := by
  rcases hv with ⟨h1, h2⟩
  refine ⟨h1, ?_⟩
  rcases h2 with h | ⟨g', cap', cur, e, hge', h3⟩
  · exact .inl h
  · exact .inr ⟨g', cap', cur, e, Nat.le_trans hm hge', h3⟩
theorem fix_close {w W1 w2 : World} {g cap : Nat} (h1 : Below w.heap.size w W1) (hb : Below W1.heap.size W1 w2) (hv : w2.ownsRow W1.heap.size 71 3 (.slice (some ⟨g, 0, none⟩) [ex0, ex1].length cap) [ex0, ex1].length ([ex0, ex1].flatMap encAcl)) :
    ∃ g' cap', Value.slice (some ⟨g, 0, none⟩) 2 cap = .slice (some ⟨g', 0, none⟩) 2 cap' ∧ Value.int .i64 0 = .int .i64 0 ∧ Below w.heap.size w w2 ∧ w2.ownsRow w.heap.size 71 3 (.slice (some ⟨g', 0, none⟩) 2 cap') 2 ([ex0, ex1].flatMap encAcl) :=
  ⟨g, cap, rfl, rfl, h1.trans (hb.mono h1.size), own_drop hv h1.size⟩
theorem may_ex1 (g c : Nat) (w : World) (hE : Env w) (hs : Sl w w.heap.size encAcl 3 (some ⟨g, 0, none⟩) 2 [ex0, ex1]) :
    Calls Tryz.prog 48 #[.slice (some ⟨g, 0, none⟩) 2 c, .int .i32 2, .slice none 0 0] w (RetB w true) := by
  have e : mayP [ex0, ex1] 2 [] = true := by decide +kernel
  rw [← e]
  refine may_any _ 2 _ [ex0, ex1] 2 none 0 0 [] _ hE hs (by decide) Sl.nil_ (by decide) (fun j hj => ?_) (fun j hj => absurd hj (by omega))
  match j, hj with
  | 0, _ => exact ⟨by decide, by decide⟩
  | 1, _ => exact ⟨by decide, by decide⟩
theorem may_ex2 (g c : Nat) (w : World) (hE : Env w) (h : w.heap[g]? = some (.cells #[.int .i32 1, .string ⟨#[119, 111, 114, 108, 100]⟩, .string ⟨#[97, 110, 121, 111, 110, 101]⟩] 71 (0, 0))) :
    Calls Tryz.prog 48 #[.slice (some ⟨g, 0, none⟩) 1 c, .int .i32 2, .slice none 0 0] w (RetB w false) := by
  have e : mayP [(1, sWorld, sAnyone)] 2 [] = false := by decide +kernel
  rw [← e]
  refine may_any _ 1 _ [(1, sWorld, sAnyone)] 2 none 0 0 [] _ hE (Sl.of_heap (zs := [(1, sWorld, sAnyone)]) (fun _ => rfl) h) (by decide) Sl.nil_ (by decide) (fun j hj => ?_) (fun j hj => absurd hj (by omega))
  match j, hj with
  | 0, _ => exact ⟨by decide, by decide⟩
theorem exText_is : (exText.toList == [119, 111, 114, 108, 100, 58, 97, 110, 121, 111, 110, 101, 58, 99, 100, 114, 119, 97, 44, 100, 105, 103, 101, 115, 116, 58, 117, 58, 112, 58, 114]) = true := by decide +kernel
set_option maxRecDepth 100000 in
set_option maxHeartbeats 4000000 in
theorem live_any (w : World) (hE : Env w) : Calls Tryz.prog 13 #[] w (RetB w true) := by
  go_enter Tryz.func13, Tryz.ntmps13
  go_wp2
  have hb0 : Below w.heap.size w (w.alloc (.cells #[.string ⟨#[100, 105, 103, 101, 115, 116]⟩, .string ⟨#[117, 58, 112]⟩] 69)) := (Below.refl _ w).alloc (Nat.le_refl _) _
  have h0 : (w.alloc (.cells #[.string ⟨#[100, 105, 103, 101, 115, 116]⟩, .string ⟨#[117, 58, 112]⟩] 69)).heap[w.heap.size]? = some (.cells #[.string ⟨#[100, 105, 103, 101, 115, 116]⟩, .string ⟨#[117, 58, 112]⟩] 69 (0, 0)) := (MapKept.heap_alloc _ _).1
  generalize w.alloc (.cells #[.string ⟨#[100, 105, 103, 101, 115, 116]⟩, .string ⟨#[117, 58, 112]⟩] 69) = W at *
  have hlt : w.heap.size < W.heap.size := (Array.getElem?_eq_some_iff.1 h0).1
  have c0 : W.cell? ⟨w.heap.size, 0, none⟩ = some (.string ⟨#[100, 105, 103, 101, 115, 116]⟩) := by rw [Lib.cell_of_heap h0]; rfl
  have c1 : W.cell? ⟨w.heap.size, 1, none⟩ = some (.string ⟨#[117, 58, 112]⟩) := by rw [Lib.cell_of_heap h0]; rfl
  have H0 := Lib.hid h0; clear h0
  have hl1 : w.heap.size < W.heap.size + 1 := by omega
  have hl2 : w.heap.size < W.heap.size + 1 + 1 := by omega
  have hl3 : w.heap.size < W.heap.size + 1 + 1 + 1 := by omega
  have hn0 : w.heap.size ≠ W.heap.size := by omega
  have hn1 : w.heap.size ≠ W.heap.size + 1 := by omega
  have hn2 : w.heap.size ≠ W.heap.size + 1 + 1 := by omega
  go_upto_region 2 with fail
  go_cut [2, 3] from 4 (fun x y wx => ∃ g cap, x = .slice (some ⟨g, 0, none⟩) 2 cap ∧ y = .int .i64 0 ∧ Below w.heap.size w wx ∧ wx.ownsRow w.heap.size 71 3 (.slice (some ⟨g, 0, none⟩) 2 cap) 2 ([ex0, ex1].flatMap encAcl))
  case first =>
    go_region_with (first | (go_at_call 46; refine (world_any 31 _).mono ?_; rintro e w' ⟨rfl, rfl⟩) | (go_at_call 45; refine Calls.mono (fix_ex _ _ _ _ _ ?_ ?_ ?_) ?_; (refine hE.later ?_; repeat (first | exact hb0 | refine Below.drew ?_ | refine Below.alloc ?_ (by first | omega | (simp only [World.size_alloc]; omega)) _)); (simp only [heap_alloc_eq, heap_drew, World.size_alloc]; repeat (first | rw [if_pos trivial] | rw [if_pos (by omega)] | rw [if_neg (by omega)])); (simp only [heap_alloc_eq, heap_drew, World.size_alloc]; repeat (first | rw [if_pos trivial] | rw [if_pos (by omega)] | rw [if_neg (by omega)])); rintro e w'' ⟨⟨v, rfl, hv⟩, hb⟩; obtain ⟨g, cap, rfl, hge, _⟩ := hv.form (by decide)))
    all_goals (go_wp2_with fail; go_meet; refine fix_close ?_ hb hv; repeat (first | exact hb0 | refine Below.drew ?_ | refine Below.alloc ?_ (by first | omega | (simp only [World.size_alloc]; omega)) _))
  case rest =>
    obtain ⟨g, cap, rfl, rfl, hb, hv⟩ := hcut
    have hs0 : Sl wc wc.heap.size encAcl 3 (some ⟨g, 0, none⟩) 2 [ex0, ex1] := Sl.of_own (fun _ => rfl) hv rfl
    have HB := Lib.hid hb
    have HS := Lib.hid hs0
    clear hb hv hs0
    go_wp2_with fail
    go_at_call 47
    refine (text_ex _ _ _ (hE.later HB.out) HS.out).mono ?_
    rintro e w2 ⟨rfl, hb2⟩
    have HB2 := Lib.hid (HB.out.trans (hb2.mono HB.out.size))
    have HS2 := Lib.hid (HS.out.belowMore hb2 hb2.size)
    clear hb2 HB HS
    have hx := exText_is
    go_wp2_with fail
    go_at_call 17
    refine (no_any _ _).mono ?_
    rintro e w' ⟨rfl, rfl⟩
    go_wp2_with fail
    go_at_call 17
    refine (no_any _ _).mono ?_
    rintro e w' ⟨rfl, rfl⟩
    go_wp2_with fail
    go_at_call 48
    refine (may_ex1 _ _ _ (hE.later HB2.out) HS2.out).mono ?_
    rintro e w3 ⟨rfl, hb3⟩
    have HB3 := Lib.hid (HB2.out.trans (hb3.mono HB2.out.size))
    clear hb3 HB2 HS2
    go_wp2_with fail
    go_at_call 46
    refine (world_any 1 _).mono ?_
    rintro e w' ⟨rfl, rfl⟩
    go_wp2_with fail
    have hb4 : Below w.heap.size w ((w3.alloc (.cells #[.int .i32 1, .string ⟨#[119, 111, 114, 108, 100]⟩, .string ⟨#[97, 110, 121, 111, 110, 101]⟩] 71)).alloc (.cells #[.int .i32 1, .string ⟨#[119, 111, 114, 108, 100]⟩, .string ⟨#[97, 110, 121, 111, 110, 101]⟩] 71)) := (HB3.out.alloc HB3.out.size _).alloc (by have := HB3.out.size; simp only [World.size_alloc]; omega) _
    have HB4 := Lib.hid hb4
    clear hb4
    go_at_call 48
    refine (may_ex2 _ _ _ (hE.later HB4.out) (heap_two2 _ _ _)).mono ?_
    rintro e w5 ⟨rfl, hb5⟩
    have HB5 := Lib.hid (HB4.out.trans (hb5.mono HB4.out.size))
    clear hb5
    go_wp2_with fail
    go_ret
    exact ⟨rfl, HB5.out⟩
end Go.Proofs.YtibklpbnjpefnaaGreatDoor
