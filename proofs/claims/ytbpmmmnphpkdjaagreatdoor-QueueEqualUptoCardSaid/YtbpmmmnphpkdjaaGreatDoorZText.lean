/- What a row's list of package variables gives: the two tables of unicode/utf8 hold what their initialisers lay; they go on holding it in every later world. What a row's list of package variables, and a row's first world, give for the library's variables that the code reads; they go on holding it in every later world. No condition. The walk of acl.text: it tells 'textOk'. -/
import Derived.Test.YtbpmmmnphpkdjaaGreatDoorShelf
import Derived.Test.YtbpmmmnphpkdjaaGreatDoorRows
import Derived.Lib.LaidU8
import Derived.WalkKit
import Derived.LaidLaws
import Derived.Test.YtbpmmmnphpkdjaaGreatDoorZAclB
import Derived.LoopTactic
import Derived.BigCall
import Derived.Lib.Hide
import Derived.Lib.TrimU
import Derived.Lib.QuoteLoop
import Derived.Lib.OthersKept
import Derived.Lib.SlicesS
namespace Go.Proofs.YtbpmmmnphpkdjaaGreatDoor
open Go.RowKit

theorem u8Extra : U8Extra Tryz.prog Tryz.lays260_ren := ⟨by kernel_rfl, by kernel_rfl, by kernel_rfl, by kernel_rfl, by kernel_rfl, by kernel_rfl, by kernel_rfl⟩
theorem firstSame : Rows.laid_unicode_utf8_first = Lib.firstData := by kernel_rfl
theorem acceptSame : (Rows.laid_unicode_utf8_acceptRanges : DataW Unit) = Lib.acceptData := by kernel_rfl
theorem tabs_of_laid {W : World} (h : laidMetH Tryz.prog [("unicode/utf8.acceptRanges", Rows.laid_unicode_utf8_acceptRanges), ("unicode/utf8.first", Rows.laid_unicode_utf8_first)] W) : Lib.Utf8Tabs 0 1 W := by
  have h' : laidMet Tryz.prog [("unicode/utf8.acceptRanges", Rows.laid_unicode_utf8_acceptRanges), ("unicode/utf8.first", Rows.laid_unicode_utf8_first)] W := h
  rw [firstSame, acceptSame] at h'
  exact utf8Tabs_of_reads Tryz.lays260 u8Extra (Lib.laidMet.reads h' (by simp)) (Lib.laidMet.reads h' (by simp))
theorem tabs_lt {W : World} (h : Lib.Utf8Tabs 0 1 W) : 0 < W.heap.size ∧ 1 < W.heap.size :=
  ⟨World.block_lt_of_cell? W _ (h.1 0 (by decide)), World.block_lt_of_cell? W _ (h.2 0 (by decide)).1⟩
theorem tabs_below {W W' : World} {B : Nat} (h : Lib.Utf8Tabs 0 1 W) (hB : W.heap.size ≤ B) (hb : Below B W W') : Lib.Utf8Tabs 0 1 W' := by
  obtain ⟨l1, l2⟩ := tabs_lt h
  refine ⟨fun c hc => ?_, fun i hi => ?_⟩
  · rw [hb.cell (p := ⟨0, c, none⟩) (by show 0 < B; omega)]; exact h.1 c hc
  · rw [hb.cell (p := ⟨1, 2 * i, none⟩) (by show 1 < B; omega), hb.cell (p := ⟨1, 2 * i + 1, none⟩) (by show 1 < B; omega)]; exact h.2 i hi
end Go.Proofs.YtbpmmmnphpkdjaaGreatDoor
namespace Go.Proofs.YtbpmmmnphpkdjaaGreatDoor
open Go.RowKit Go.Lib

structure Env (w : World) : Prop where
  tabs : Lib.Utf8Tabs 0 1 w
  maxl : ∃ m, w.cell? ⟨2, 0, none⟩ = some (.int .i64 m)
  pow : Lib.TabIs Tryz.prog w "internal/strconv.uint64pow10" .u64 Lib.pow10Tab
  syn : ∃ tp p, w.var? Tryz.prog "strconv.ErrSyntax" = some #[.iface tp p]
  ran : ∃ tp p, w.var? Tryz.prog "strconv.ErrRange" = some #[.iface tp p]

theorem var_below {w w' : World} {B : Nat} {n : String} {cs : Array Value} (h : w.var? Tryz.prog n = some cs) (hB : w.heap.size ≤ B) (hb : Below B w w') : w'.var? Tryz.prog n = some cs := by
  unfold World.var? at h ⊢
  cases hg : Tryz.prog.globalNamed n with
  | none => rw [hg] at h; cases h
  | some g =>
    rw [hg] at h
    simp only [Option.bind_some] at h ⊢
    have hlt : g < w.heap.size := by
      rcases Nat.lt_or_ge g w.heap.size with hlt | hge
      · exact hlt
      · rw [Array.getElem?_eq_none hge] at h; cases h
    rw [hb.block g (by omega)]; exact h
theorem Env.below {w w' : World} {B : Nat} (h : Env w) (hB : w.heap.size ≤ B) (hb : Below B w w') : Env w' := by
  obtain ⟨t, ⟨m, hm⟩, p, ⟨t1, p1, s⟩, ⟨t2, p2, r⟩⟩ := h
  refine ⟨tabs_below t hB hb, ⟨m, ?_⟩, var_below p hB hb, ⟨t1, p1, var_below s hB hb⟩, ⟨t2, p2, var_below r hB hb⟩⟩
  rw [hb.cell (p := ⟨2, 0, none⟩) (Nat.lt_of_lt_of_le (World.block_lt_of_cell? w _ hm) hB)]; exact hm
theorem iface_var {W : World} {n nm : String} {d : DataW Unit} {ti : TypeId} {ms : Array (String × TypeId)} {g : Nat} (hi : Tryz.prog.underlying ti = some (.interface ms)) (hg : Tryz.prog.globalNamed n = some g) (hty : (Tryz.prog.globals[g]?).map (·.type) = some ti)
    (h : VarReads Tryz.prog W n (.iface nm d)) : ∃ tp p, W.var? Tryz.prog n = some #[.iface tp p] := by
  obtain ⟨g', t', cs, fuel, p, hg', ht', hv, hd⟩ := h
  have e1 : some g = some g' := by rw [← hg, ← hg']
  cases e1
  have e2 : some ti = some t' := by rw [← hty, ← ht']
  cases e2
  obtain ⟨_, u, v, hcs, _, _⟩ := iface_of_trod hi hd
  have e3 : cs = #[.iface u v] := Array.toList_inj.1 hcs
  rw [e3] at hv
  exact ⟨u, v, hv⟩
theorem env_of {W : World} {l : List (String × DataW Unit)} (h : laidMet Tryz.prog l W) (hs : W.ShapedOpen Tryz.prog)
    (m1 : ("unicode/utf8.first", (Rows.laid_unicode_utf8_first : DataW Unit)) ∈ l) (m2 : ("unicode/utf8.acceptRanges", (Rows.laid_unicode_utf8_acceptRanges : DataW Unit)) ∈ l)
    (m3 : ("internal/strconv.uint64pow10", (Rows.laid_internal_strconv_uint64pow10 : DataW Unit)) ∈ l) (m4 : ("strconv.ErrSyntax", (Rows.laid_strconv_ErrSyntax : DataW Unit)) ∈ l) (m5 : ("strconv.ErrRange", (Rows.laid_strconv_ErrRange : DataW Unit)) ∈ l) : Env W := by
  refine ⟨?_, ?_, ?_, ?_, ?_⟩
  · rw [firstSame] at m1; rw [acceptSame] at m2
    exact utf8Tabs_of_reads Tryz.lays260 u8Extra (Lib.laidMet.reads h m1) (Lib.laidMet.reads h m2)
  · exact Tryz.laysM143.s1_3 W hs
  · have hr := Lib.laidMet.reads h m3
    obtain ⟨g', t', cs, fuel, p, hg', ht', hv, hd⟩ := hr
    have hd' : DataW.trod (fun _ => ()) Tryz.prog W 0 (fun _ => true) false fuel t' cs.toList = some (tabData .u64 Lib.pow10Tab, p) := hd
    unfold Lib.TabIs
    have hg : Tryz.prog.globalNamed "internal/strconv.uint64pow10" = some 5 := by kernel_rfl
    have := Option.some.inj (hg.symm.trans hg')
    subst this
    have hty : (Tryz.prog.globals[5]?).map (·.type) = some 339 := by kernel_rfl
    have := Option.some.inj (hty.symm.trans ht')
    subst this
    rw [hv, ← cells_of_tab (n := 20) (e := 175) (by kernel_rfl) (by kernel_rfl) (by kernel_rfl) (by kernel_rfl) hd']
  · exact iface_var (g := 3) Tryz.underlying261 (by kernel_rfl) (by kernel_rfl) (Lib.laidMet.reads h m4)
  · exact iface_var (g := 4) Tryz.underlying261 (by kernel_rfl) (by kernel_rfl) (Lib.laidMet.reads h m5)
end Go.Proofs.YtbpmmmnphpkdjaaGreatDoor
namespace Go.Proofs.YtbpmmmnphpkdjaaGreatDoor
open Go.RowKit

/-- a call that ends in a bool, and leaves all that lay -/
def RetB (w : World) (b : Bool) (e : Ending) (w' : World) : Prop := e = .returned (.bool b) ∧ Below w.heap.size w w'
theorem RetB.mk {w w' : World} {a b : Bool} (h : Below w.heap.size w w') (e : b = a) : RetB w a (.returned (.bool b)) w' := ⟨by rw [e], h⟩
theorem dec_pos (s : ByteArray) (p : Nat) : 1 ≤ (Utf8.decode s p).2 := Lib.width_pos s p

theorem nonempty (s : ByteArray) (h0 : s.size ≠ 0) : s.toList.isEmpty = false := by
  cases hb : s.toList.isEmpty with
  | false => rfl
  | true =>
    exfalso
    have h2 : s.toList = [] := List.isEmpty_iff.1 hb
    rw [ByteArray.toList_eq] at h2
    apply h0
    have h3 : s.data.toList.length = 0 := by rw [h2]; rfl
    simpa using h3

set_option maxHeartbeats 4000000 in
theorem text_any (s : ByteArray) (hs : s.size ≤ 140737488355328) (w : World) (hT : Lib.Utf8Tabs 0 1 w) :
    Calls Tryz.prog 117 #[.string s] w (RetB w (textOk s)) := by
  have cV : Calls Tryz.prog 147 #[.string s] w _ := Tryz.utf8_ValidString s w (by omega) hT
  have hv : Lib.validD s.data.toList = validFrom s 0 := by unfold validFrom; rw [List.drop_zero]
  rw [hv] at cV
  clear hv
  by_cases h0 : s.size = 0
  · have he : s = ByteArray.empty := ByteArray.ext (Array.eq_empty_of_size_eq_zero h0)
    subst he
    clear cV
    go_enter Tryz.func117, Tryz.ntmps117
    go_wp2
    go_ret
    exact RetB.mk (Below.refl _ _) (by simp [textOk])
  have hne : s.toList.isEmpty = false := nonempty s h0
  by_cases h1 : s.size ≤ 256
  · have h1z : ¬ (256 < (s.size : Int)) := by omega
    by_cases hV : validFrom s 0 = true
    · rw [hV] at cV
      have HV := Lib.hid hV; clear hV
      go_enter Tryz.func117, Tryz.ntmps117
      go_wp2_with (go_at_call 147; refine cV.mono ?_; rintro e w1 ⟨rfl, hb1⟩)
      have hdec0 : ∀ p, p < s.size → (Utf8.decode s p).1 ≤ 1114111 := fun p _ => Lib.rune_le s p
      have HB1 := Lib.hid hb1; clear hb1
      go_loopw [] (fun wr => ∃ p : Nat, wr.heap[w1.heap.size]? = some (.stringIter s p) ∧ Below w1.heap.size w1 wr ∧ okFrom s p = okFrom s 0) (fun wr => s.size - wr.iterPos w1.heap.size)
      case atStart => exact ⟨0, World.iter_heap w1 s 0, (Below.refl _ w1).alloc (Nat.le_refl _) _, rfl⟩
      case round =>
        obtain ⟨p, hit, hbw, hF⟩ := hrel
        have HF := Lib.hid hF; clear hF
        by_cases hp : p < s.size
        · have hnx : ∀ ty, (Instr.next (.pointer (some ⟨w1.heap.size, 0, none⟩)) true ty).run Tryz.prog wr = _ := fun ty => Lib.run_next_any_at wr w1.heap.size s p ty hit hp
          have hd1 := Lib.rune_le s p
          have hit2 := Lib.iterAt_heap wr w1.heap.size s p (p + (Utf8.decode s p).2) hit
          have hbw2 := Lib.below_iterAt hbw (k := w1.heap.size) (by omega) s (p + (Utf8.decode s p).2)
          have HIT := Lib.hid hit; have HIT2 := Lib.hid hit2; have HB2 := Lib.hid hbw2
          clear hit hit2 hbw hbw2
          have hw1 := dec_pos s p
          have HR := Lib.hid (okFrom_rune s p hp)
          by_cases c1 : (((Utf8.decode s p).1 : Nat) : Int) < 33
          · have HO : Hid (okB (Utf8.decode s p).1 = false) := Lib.hid (by unfold okB; rw [decide_eq_false (by omega)]; rfl)
            go_wp2
            go_ret
            exact RetB.mk (HB1.out.trans (HB2.out.mono HB1.out.size)) (by unfold textOk; rw [← HF.out, HR.out, HO.out]; simp)
          by_cases c2 : (((Utf8.decode s p).1 : Nat) : Int) = 127
          · have c2b : ((((Utf8.decode s p).1 : Nat) : Int) == 127) = true := by simp [c2]
            have HO : Hid (okB (Utf8.decode s p).1 = false) := Lib.hid (by unfold okB; rw [show (Utf8.decode s p).1 = 127 by omega]; rfl)
            clear c2
            go_wp2
            go_ret
            exact RetB.mk (HB1.out.trans (HB2.out.mono HB1.out.size)) (by unfold textOk; rw [← HF.out, HR.out, HO.out]; simp)
          have c2b : ((((Utf8.decode s p).1 : Nat) : Int) == 127) = false := by simp [c2]
          by_cases c3 : (((Utf8.decode s p).1 : Nat) : Int) = 44
          · have c3b : ((((Utf8.decode s p).1 : Nat) : Int) == 44) = true := by simp [c3]
            have HO : Hid (okB (Utf8.decode s p).1 = false) := Lib.hid (by unfold okB; rw [show (Utf8.decode s p).1 = 44 by omega]; rfl)
            clear c2 c3
            go_wp2
            go_ret
            exact RetB.mk (HB1.out.trans (HB2.out.mono HB1.out.size)) (by unfold textOk; rw [← HF.out, HR.out, HO.out]; simp)
          have c3b : ((((Utf8.decode s p).1 : Nat) : Int) == 44) = false := by simp [c3]
          have HO : Hid (okB (Utf8.decode s p).1 = true) := Lib.hid (by unfold okB; rw [decide_eq_true (by omega), decide_eq_true (by omega), decide_eq_true (by omega)]; rfl)
          clear c2 c3
          go_wp2
          go_roundw
          case rel => exact ⟨p + (Utf8.decode s p).2, HIT2.out, HB2.out, by rw [← HF.out, HR.out, HO.out, Bool.true_and]⟩
          case measure =>
            have e1 := HIT2.out; have e0 := HIT.out
            simp only [World.iterPos, e1, e0]
            omega
        · have hnx : ∀ ty, (Instr.next (.pointer (some ⟨w1.heap.size, 0, none⟩)) true ty).run Tryz.prog wr = _ := fun ty => Lib.run_next_end_at wr w1.heap.size s p ty hit hp
          have HB := Lib.hid hbw; clear hbw
          go_wp2
          go_ret
          exact RetB.mk (HB1.out.trans (HB.out.mono HB1.out.size)) (by unfold textOk; rw [← HF.out, okFrom_end s p hp, HV.out, decide_eq_true (by omega), decide_eq_true h1]; rfl)
    · have hVf : validFrom s 0 = false := by simpa using hV
      rw [hVf] at cV
      clear hV
      have HV := Lib.hid hVf; clear hVf
      go_enter Tryz.func117, Tryz.ntmps117
      go_wp2_with (go_at_call 147; refine cV.mono ?_; rintro e w1 ⟨rfl, hb1⟩)
      go_ret
      exact RetB.mk hb1 (by unfold textOk; rw [HV.out]; simp)
  · have h1z : 256 < (s.size : Int) := by omega
    clear cV
    go_enter Tryz.func117, Tryz.ntmps117
    go_wp2
    go_ret
    exact RetB.mk (Below.refl _ _) (by unfold textOk; rw [decide_eq_false h1]; simp)
end Go.Proofs.YtbpmmmnphpkdjaaGreatDoor
