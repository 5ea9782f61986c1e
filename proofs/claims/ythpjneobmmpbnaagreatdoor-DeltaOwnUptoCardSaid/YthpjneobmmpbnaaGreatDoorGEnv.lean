/- What a row's list of package variables gives: the two tables of unicode/utf8 hold what their initialisers lay; they go on holding it in every later world. -/
import Derived.Test.YthpjneobmmpbnaaGreatDoorGShelf
import Derived.Test.YthpjneobmmpbnaaGreatDoorRows
import Derived.Lib.LaidU8
import Derived.WalkKit
import Derived.LaidLaws
namespace Go.Proofs.YthpjneobmmpbnaaGreatDoor
open Go.RowKit

theorem u8Extra : U8Extra Tryz.prog Tryz.lays260_ren := ⟨by kernel_rfl, by kernel_rfl, by kernel_rfl, by kernel_rfl, by kernel_rfl, by kernel_rfl, by kernel_rfl⟩
theorem firstSame : Rows.laid_unicode_utf8_first = Lib.firstData := by kernel_rfl
theorem acceptSame : (Rows.laid_unicode_utf8_acceptRanges : DataW Unit) = Lib.acceptData := by kernel_rfl
theorem tabs_lt {W : World} (h : Lib.Utf8Tabs 1 2 W) : 1 < W.heap.size ∧ 2 < W.heap.size :=
  ⟨World.block_lt_of_cell? W _ (h.1 0 (by decide)), World.block_lt_of_cell? W _ (h.2 0 (by decide)).1⟩
theorem tabs_below {W W' : World} {B : Nat} (h : Lib.Utf8Tabs 1 2 W) (hB : W.heap.size ≤ B) (hb : Below B W W') : Lib.Utf8Tabs 1 2 W' := by
  obtain ⟨l1, l2⟩ := tabs_lt h
  refine ⟨fun c hc => ?_, fun i hi => ?_⟩
  · rw [hb.cell (p := ⟨1, c, none⟩) (by show 1 < B; omega)]; exact h.1 c hc
  · rw [hb.cell (p := ⟨2, 2 * i, none⟩) (by show 2 < B; omega), hb.cell (p := ⟨2, 2 * i + 1, none⟩) (by show 2 < B; omega)]; exact h.2 i hi
end Go.Proofs.YthpjneobmmpbnaaGreatDoor
namespace Go.Proofs.YthpjneobmmpbnaaGreatDoor
open Go.RowKit Go.Lib

structure Env (w : World) : Prop where
  tabs : Lib.Utf8Tabs 1 2 w
  maxl : ∃ m, w.cell? ⟨0, 0, none⟩ = some (.int .i64 m)
  pow : Lib.TabIs Tryz.prog w "internal/strconv.uint64pow10" .u64 Lib.pow10Tab
  syn : ∃ tp p, w.var? Tryz.prog "strconv.ErrSyntax" = some #[.iface tp p]
  ran : ∃ tp p, w.var? Tryz.prog "strconv.ErrRange" = some #[.iface tp p]

theorem var_below {w w' : World} {B : Nat} {n : String} {cs : Array Value} (h : w.var? Tryz.prog n = some cs) (hB : w.heap.size ≤ B) (hb : Below B w w') : w'.var? Tryz.prog n = some cs := by
  unfold World.var? at h ⊢
  cases hg : Tryz.prog.globalNamed n with
  | none => rw [hg] at h; cases h
  | some g =>
    rw [hg] at h
    simp only [Option.bind_some] at h ⊢
    have hlt : g < w.heap.size := by
      rcases Nat.lt_or_ge g w.heap.size with hlt | hge
      · exact hlt
      · rw [Array.getElem?_eq_none hge] at h; cases h
    rw [hb.block g (by omega)]; exact h
theorem Env.below {w w' : World} {B : Nat} (h : Env w) (hB : w.heap.size ≤ B) (hb : Below B w w') : Env w' := by
  obtain ⟨t, ⟨m, hm⟩, p, ⟨t1, p1, s⟩, ⟨t2, p2, r⟩⟩ := h
  refine ⟨tabs_below t hB hb, ⟨m, ?_⟩, var_below p hB hb, ⟨t1, p1, var_below s hB hb⟩, ⟨t2, p2, var_below r hB hb⟩⟩
  rw [hb.cell (p := ⟨0, 0, none⟩) (Nat.lt_of_lt_of_le (World.block_lt_of_cell? w _ hm) hB)]; exact hm
theorem iface_var {W : World} {n nm : String} {d : DataW Unit} {ti : TypeId} {ms : Array (String × TypeId)} {g : Nat} (hi : Tryz.prog.underlying ti = some (.interface ms)) (hg : Tryz.prog.globalNamed n = some g) (hty : (Tryz.prog.globals[g]?).map (·.type) = some ti)
    (h : VarReads Tryz.prog W n (.iface nm d)) : ∃ tp p, W.var? Tryz.prog n = some #[.iface tp p] := by
  obtain ⟨g', t', cs, fuel, p, hg', ht', hv, hd⟩ := h
  have e1 : some g = some g' := by rw [← hg, ← hg']
  cases e1
  have e2 : some ti = some t' := by rw [← hty, ← ht']
  cases e2
  obtain ⟨_, u, v, hcs, _, _⟩ := iface_of_trod hi hd
  have e3 : cs = #[.iface u v] := Array.toList_inj.1 hcs
  rw [e3] at hv
  exact ⟨u, v, hv⟩
theorem env_of {W : World} {l : List (String × DataW Unit)} (h : laidMet Tryz.prog l W) (hs : W.ShapedOpen Tryz.prog)
    (m1 : ("unicode/utf8.first", (Rows.laid_unicode_utf8_first : DataW Unit)) ∈ l) (m2 : ("unicode/utf8.acceptRanges", (Rows.laid_unicode_utf8_acceptRanges : DataW Unit)) ∈ l)
    (m3 : ("internal/strconv.uint64pow10", (Rows.laid_internal_strconv_uint64pow10 : DataW Unit)) ∈ l) (m4 : ("strconv.ErrSyntax", (Rows.laid_strconv_ErrSyntax : DataW Unit)) ∈ l) (m5 : ("strconv.ErrRange", (Rows.laid_strconv_ErrRange : DataW Unit)) ∈ l) : Env W := by
  refine ⟨?_, ?_, ?_, ?_, ?_⟩
  · rw [firstSame] at m1; rw [acceptSame] at m2
    exact utf8Tabs_of_reads Tryz.lays260 u8Extra (Lib.laidMet.reads h m1) (Lib.laidMet.reads h m2)
  · exact Tryz.laysM143.s1_3 W hs
  · have hr := Lib.laidMet.reads h m3
    obtain ⟨g', t', cs, fuel, p, hg', ht', hv, hd⟩ := hr
    have hd' : DataW.trod (fun _ => ()) Tryz.prog W 0 (fun _ => true) false fuel t' cs.toList = some (tabData .u64 Lib.pow10Tab, p) := hd
    unfold Lib.TabIs
    have hg : Tryz.prog.globalNamed "internal/strconv.uint64pow10" = some 3 := by kernel_rfl
    have := Option.some.inj (hg.symm.trans hg')
    subst this
    have hty : (Tryz.prog.globals[3]?).map (·.type) = some 232 := by kernel_rfl
    have := Option.some.inj (hty.symm.trans ht')
    subst this
    rw [hv, ← cells_of_tab (n := 20) (e := 75) (by kernel_rfl) (by kernel_rfl) (by kernel_rfl) (by kernel_rfl) hd']
  · exact iface_var (g := 6) Tryz.underlying166 (by kernel_rfl) (by kernel_rfl) (Lib.laidMet.reads h m4)
  · exact iface_var (g := 7) Tryz.underlying166 (by kernel_rfl) (by kernel_rfl) (Lib.laidMet.reads h m5)
end Go.Proofs.YthpjneobmmpbnaaGreatDoor
