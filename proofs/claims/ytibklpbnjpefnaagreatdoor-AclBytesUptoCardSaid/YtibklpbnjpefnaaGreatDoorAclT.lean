/- The walks of acl.letters, of acl.Text at the example's list, and of arborlaw06.live. No condition but the variables' being laid. -/
import Derived.Test.YtibklpbnjpefnaaGreatDoorRefX
import Derived.StillTailTactics
namespace Go.Proofs.YtibklpbnjpefnaaGreatDoor
open Go.RowKit

def bitsV : Value := .agg #[.int .i32 4, .int .i32 8, .int .i32 1, .int .i32 2, .int .i32 16]
theorem letters_any (w : World) : Calls Tryz.prog 74 #[] w fun e w' => e = .returned (.tuple #[.string ⟨#[99, 100, 114, 119, 97]⟩, bitsV]) ∧ Below w.heap.size w w' := by
  go_enter Tryz.func74, Tryz.ntmps74
  go_wp2
  exact bodyPost_ret (v := .tuple #[.string ⟨#[99, 100, 114, 119, 97]⟩, bitsV]) (by simp [results, Tryz.results74, go_sem, bitsV]) rfl ⟨rfl, (Below.refl _ w).alloc (Nat.le_refl _) _⟩
def ex0 : AclV := (31, sWorld, sAnyone)
def ex1 : AclV := (1, sDigest, ⟨#[117, 58, 112]⟩)
def tx0 : ByteArray := ⟨#[119, 111, 114, 108, 100, 58, 97, 110, 121, 111, 110, 101, 58, 99, 100, 114, 119, 97]⟩
def tx1 : ByteArray := ⟨#[100, 105, 103, 101, 115, 116, 58, 117, 58, 112, 58, 114]⟩
theorem right0 : rightP ex0 = true := by decide +kernel
theorem right1 : rightP ex1 = true := by decide +kernel
def exText : ByteArray := tx0 ++ ⟨#[44]⟩ ++ tx1
def RetS (w : World) (s : ByteArray) (e : Ending) (w' : World) : Prop := e = .returned (.tuple #[.string s, .int .i64 0]) ∧ Below w.heap.size w w'
theorem tx0_eq : ((⟨#[119, 111, 114, 108, 100]⟩ : ByteArray) ++ (⟨#[58]⟩ : ByteArray) ++ (⟨#[97, 110, 121, 111, 110, 101]⟩ : ByteArray) ++ (⟨#[58]⟩ : ByteArray) ++ (⟨#[99, 100, 114, 119, 97]⟩ : ByteArray).extract 0 1 ++ (⟨#[99, 100, 114, 119, 97]⟩ : ByteArray).extract 1 2 ++ (⟨#[99, 100, 114, 119, 97]⟩ : ByteArray).extract 2 3 ++ (⟨#[99, 100, 114, 119, 97]⟩ : ByteArray).extract 3 4 ++ (⟨#[99, 100, 114, 119, 97]⟩ : ByteArray).extract 4 5) = tx0 := by decide +kernel
theorem tx1_eq : ((⟨#[100, 105, 103, 101, 115, 116]⟩ : ByteArray) ++ (⟨#[58]⟩ : ByteArray) ++ (⟨#[117, 58, 112]⟩ : ByteArray) ++ (⟨#[58]⟩ : ByteArray) ++ (⟨#[99, 100, 114, 119, 97]⟩ : ByteArray).extract 2 3) = tx1 := by decide +kernel
def TxRel (w : World) (v i : Value) (wr : World) : Prop := ∃ k : Nat, i = .int .i64 ↑k ∧ k ≤ 2 ∧ wr.ownsRow w.heap.size 9 1 v k ((([tx0, tx1] : List ByteArray).take k).map Value.string) ∧ Below w.heap.size w wr
theorem infoStr : (Tryz.prog.info? 9).map (fun i => (i.zero, i.size, i.bytes)) = some (some (.string ⟨#[]⟩), 1, 16) := by kernel_rfl

set_option maxRecDepth 100000 in
set_option maxHeartbeats 4000000 in
theorem text_ex (A : Option Addr) (c : Nat) (w : World) (hE : Env w) (hl : Sl w w.heap.size encAcl 3 A 2 [ex0, ex1]) :
    Calls Tryz.prog 47 #[.slice A 2 c] w (RetS w exText) := by
  obtain ⟨j0, hi0, hz0, hz1, hz2⟩ := info_parts infoStr
  have i0 : ∀ w, (Instr.index 127 (.agg #[.int .i32 4, .int .i32 8, .int .i32 1, .int .i32 2, .int .i32 16]) (.int .i64 0)).run Tryz.prog w = .ok (.int .i32 4) w := fun _ => by kernel_rfl
  have i1 : ∀ w, (Instr.index 127 (.agg #[.int .i32 4, .int .i32 8, .int .i32 1, .int .i32 2, .int .i32 16]) (.int .i64 1)).run Tryz.prog w = .ok (.int .i32 8) w := fun _ => by kernel_rfl
  have i2 : ∀ w, (Instr.index 127 (.agg #[.int .i32 4, .int .i32 8, .int .i32 1, .int .i32 2, .int .i32 16]) (.int .i64 2)).run Tryz.prog w = .ok (.int .i32 1) w := fun _ => by kernel_rfl
  have i3 : ∀ w, (Instr.index 127 (.agg #[.int .i32 4, .int .i32 8, .int .i32 1, .int .i32 2, .int .i32 16]) (.int .i64 3)).run Tryz.prog w = .ok (.int .i32 2) w := fun _ => by kernel_rfl
  have i4 : ∀ w, (Instr.index 127 (.agg #[.int .i32 4, .int .i32 8, .int .i32 1, .int .i32 2, .int .i32 16]) (.int .i64 4)).run Tryz.prog w = .ok (.int .i32 16) w := fun _ => by kernel_rfl
  go_enter Tryz.func47, Tryz.ntmps47
  go_wp2_with fail
  refine (letters_any _).mono ?_
  rintro e w1 ⟨rfl, hb1⟩
  unfold bitsV
  go_wp2
  have hb2 : Below w.heap.size w (w1.alloc (.cells #[.int .i32 4, .int .i32 8, .int .i32 1, .int .i32 2, .int .i32 16] 127)) := hb1.alloc hb1.size _
  have hW : (w1.alloc (.cells #[.int .i32 4, .int .i32 8, .int .i32 1, .int .i32 2, .int .i32 16] 127)).heap[w1.heap.size]? = some (.cells #[.int .i32 4, .int .i32 8, .int .i32 1, .int .i32 2, .int .i32 16] 127 (0, 0)) := (MapKept.heap_alloc _ _).1
  generalize w1.alloc (.cells #[.int .i32 4, .int .i32 8, .int .i32 1, .int .i32 2, .int .i32 16] 127) = W at *
  have hbl : w1.heap.size < W.heap.size := (Array.getElem?_eq_some_iff.1 hW).1
  have HW := Lib.hid hW; have HB2 := Lib.hid hb2
  clear hW hb1
  go_loopw [4, 18] (TxRel W) (fun _ i _ => 2 - (intOf i).toNat)
  case atStart => exact ⟨0, rfl, by omega, ⟨by simp, .inl ⟨rfl, rfl⟩⟩, Below.refl _ _⟩
  case round =>
    obtain ⟨k, rfl, hk, hown, hbw⟩ := hrel
    have HB := Lib.hid hbw; have HO := Lib.hid hown
    have hb3 : Below w.heap.size w wr := HB2.out.trans (hbw.mono HB2.out.size)
    have hB : ∀ i, wr.cell? ⟨w1.heap.size, i, none⟩ = W.cell? ⟨w1.heap.size, i, none⟩ := fun i => hbw.cell (p := ⟨w1.heap.size, i, none⟩) hbl
    have d0 : wr.cell? ⟨w1.heap.size, 0, none⟩ = some (.int .i32 4) := by rw [hB, Lib.cell_of_heap HW.out]; rfl
    have d1 : wr.cell? ⟨w1.heap.size, 1, none⟩ = some (.int .i32 8) := by rw [hB, Lib.cell_of_heap HW.out]; rfl
    have d2 : wr.cell? ⟨w1.heap.size, 2, none⟩ = some (.int .i32 1) := by rw [hB, Lib.cell_of_heap HW.out]; rfl
    have d3 : wr.cell? ⟨w1.heap.size, 3, none⟩ = some (.int .i32 2) := by rw [hB, Lib.cell_of_heap HW.out]; rfl
    have d4 : wr.cell? ⟨w1.heap.size, 4, none⟩ = some (.int .i32 16) := by rw [hB, Lib.cell_of_heap HW.out]; rfl
    have hlw : w1.heap.size < wr.heap.size := Nat.lt_of_lt_of_le hbl hbw.size
    clear hB
    by_cases hlt : k < 2
    · obtain ⟨b, off, rfl, hbl2, x0, x1, x2⟩ := SlAcl.at_ (hl.below hb3) hlt
      have HB3 := Lib.hid hb3
      clear hb3 hbw
      have hk2 : k = 0 ∨ k = 1 := by omega
      rcases hk2 with rfl | rfl
      · have cR := fun (W2 : World) (hW2 : Env W2) => right_any 31 sWorld sAnyone (by decide) (by decide) W2 hW2
        rw [show rightP (31, sWorld, sAnyone) = true from right0] at cR
        rw [show ([ex0, ex1] : List AclV)[0]! = ex0 from rfl] at x0 x1 x2
        unfold ex0 at x0 x1 x2
        simp only [Nat.zero_mul, Nat.add_zero] at x0 x1 x2
        unfold sWorld sAnyone at *
        go_wp2_with fail
        refine (cR _ (hE.later (HB3.out.alloc HB3.out.size _))).mono ?_
        rintro e w2 ⟨rfl, hb4⟩
        obtain ⟨hc4, hf4⟩ := bcell hb4
        have hz4 : wr.heap.size < w2.heap.size := by have := hb4.size; simp at this; omega
        go_wp2
        refine wp_loop_rounds 6 ?_
        rw [rounds_succ]
        go_wp2
        rw [rounds_succ]
        go_wp2
        rw [rounds_succ]
        go_wp2
        rw [rounds_succ]
        go_wp2
        rw [rounds_succ]
        go_wp2
        rw [rounds_succ]
        have hown2 := own_below (own_below HO.out (show Below wr.heap.size wr _ from (Below.refl _ wr).alloc (Nat.le_refl _) _)) hb4
        have hbs : W.heap.size ≤ w2.heap.size := by have := HB.out.size; omega
        go_wp2_with (at_builtin; refine wpList_append_lies _ rfl _ _ _ rfl W.heap.size 9 j0 _ 1 16 Tryz.underlying126 hi0 hz0 hz1 hz2 rfl (by omega) u4 0 [] rfl (hown2.alloc _) ⟨w2.heap.size, 0, none⟩ 1 1 [.string _] rfl rfl (World.news_of_block (cs := #[.string _]) (t := 9) (fr := (0, 0)) (heap_alloc_new w2 _)) (by simp [Value.oneCell']) (by omega) (by decide) (by decide) (by simp; omega) (w2.heap.size + 1) (by simp) ?_; intro gg cap w3 hown3 hgrow hat hlt3)
        rw [tx0_eq] at hown3
        have hb5 : Below W.heap.size W w2 := (HB.out.alloc HB.out.size _).trans (hb4.mono (by have := HB.out.size; simp; omega))
        exact ⟨⟨1, rfl, by omega, hown3, (hb5.alloc hb5.size _).grown hgrow (by simp; omega) (fun k hk => by
          rcases HO.out.2 with ⟨e, _⟩ | ⟨g', cap', cur, e, hge, _⟩
          · rw [e] at hk; cases hk
          · rw [e] at hk
            have : g' = k := by simpa [Value.ownBlock] using hk
            omega)⟩, by decide⟩
      · have cR := fun (W2 : World) (hW2 : Env W2) => right_any 1 sDigest ⟨#[117, 58, 112]⟩ (by decide) (by decide) W2 hW2
        rw [show rightP (1, sDigest, ⟨#[117, 58, 112]⟩) = true from right1] at cR
        rw [show ([ex0, ex1] : List AclV)[1]! = ex1 from rfl] at x0 x1 x2
        unfold ex1 at x0 x1 x2
        simp only [Nat.one_mul] at x0 x1 x2
        unfold sDigest at *
        go_wp2_with fail
        refine (cR _ (hE.later (HB3.out.alloc HB3.out.size _))).mono ?_
        rintro e w2 ⟨rfl, hb4⟩
        obtain ⟨hc4, hf4⟩ := bcell hb4
        have hz4 : wr.heap.size < w2.heap.size := by have := hb4.size; simp at this; omega
        go_wp2
        refine wp_loop_rounds 6 ?_
        rw [rounds_succ]
        go_wp2
        rw [rounds_succ]
        go_wp2
        rw [rounds_succ]
        go_wp2
        rw [rounds_succ]
        go_wp2
        rw [rounds_succ]
        go_wp2
        rw [rounds_succ]
        have hown2 := own_below (own_below HO.out (show Below wr.heap.size wr _ from (Below.refl _ wr).alloc (Nat.le_refl _) _)) hb4
        have hbs : W.heap.size ≤ w2.heap.size := by have := HB.out.size; omega
        go_wp2_with (at_builtin; refine wpList_append_lies _ rfl _ _ _ rfl W.heap.size 9 j0 _ 1 16 Tryz.underlying126 hi0 hz0 hz1 hz2 rfl (by omega) u4 1 _ rfl (hown2.alloc _) ⟨w2.heap.size, 0, none⟩ 1 1 [.string _] rfl rfl (World.news_of_block (cs := #[.string _]) (t := 9) (fr := (0, 0)) (heap_alloc_new w2 _)) (by simp [Value.oneCell']) (by omega) (by decide) (by decide) (by simp; omega) (w2.heap.size + 1) (by simp) ?_; intro gg cap w3 hown3 hgrow hat hlt3)
        rw [tx1_eq] at hown3
        have hb5 : Below W.heap.size W w2 := (HB.out.alloc HB.out.size _).trans (hb4.mono (by have := HB.out.size; simp; omega))
        exact ⟨⟨2, rfl, by omega, hown3, (hb5.alloc hb5.size _).grown hgrow (by simp; omega) (fun k hk => by
          rcases HO.out.2 with ⟨e, _⟩ | ⟨g', cap', cur, e, hge, _⟩
          · rw [e] at hk; cases hk
          · rw [e] at hk
            have : g' = k := by simpa [Value.ownBlock] using hk
            omega)⟩, by decide⟩
    · obtain rfl : k = 2 := by omega
      clear hbw
      obtain ⟨g, cap, hv, _, hlt⟩ := HO.out.form (by omega)
      subst hv
      have hcp : 2 ≤ cap := by
        rcases HO.out.2 with ⟨e, _⟩ | ⟨g', cap', cur, e, _, _, hle, _⟩
        · cases e
        · injection e with _ _ e; omega
      have cJ : Calls Tryz.prog 75 #[.slice (some ⟨g, 0, none⟩) 2 cap, .string ⟨#[44]⟩] wr _ := Tryz.strings_Join g 0 cap [tx0, tx1] ⟨#[44]⟩ wr (fun j x hx => by
        have := HO.out.cells (g := g) rfl j (.string x) (by rw [List.take_of_length_le (by simp), List.getElem?_map, hx]; rfl)
        simpa [Addr.add_lit] using this) hlt (by decide) hcp (by decide +kernel)
      rw [show (⟨(Lib.join (([tx0, tx1] : List ByteArray).map (·.data.toList)) (⟨#[44]⟩ : ByteArray).data.toList).toArray⟩ : ByteArray) = exText by decide +kernel] at cJ
      generalize exText = X at *
      go_wp2_with fail
      refine cJ.mono ?_
      rintro e w2 ⟨rfl, hb4⟩
      go_wp2
      go_ret2
      exact ⟨rfl, hb3.trans (hb4.mono hb3.size)⟩
end Go.Proofs.YtibklpbnjpefnaaGreatDoor
