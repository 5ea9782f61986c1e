/- arborlaw01.RunesCounts holds where the text has fewer than 2^20 bytes (the second form): Kinds tells of each kind how many characters have it, and nothing else. -/
import Derived.Test.YtenhdbjkpopfmaaDoorCards
import Derived.Test.YtenhdbjkpopfmaaDoorTie
import Derived.Test.YtenhdbjkpopfmaaDoorRAlive
import Derived.Test.YtenhdbjkpopfmaaDoorRMapR
import Derived.LaidLaws
import Derived.Test.YtenhdbjkpopfmaaDoorFrame
namespace Go.Proofs.YtenhdbjkpopfmaaDoor.runesCounts
open Go.ChangeShapes Go.WideShapes Go.ChangeAt Go.RowKit
set_option linter.unusedVariables false

def indTo (c : Int → Nat) : Nat → Nat
  | 0 => 0
  | j + 1 => indTo c j + ind (c (j : Int))
theorem indTo_le (c : Int → Nat) : ∀ j, indTo c j ≤ j
  | 0 => Nat.le_refl _
  | j + 1 => by have := indTo_le c j; simp only [indTo, ind]; split <;> omega
open Go.Maps
theorem walk (a0 : ByteArray) (sz0 : a0.size ≤ 1048575) (w : World) (hL : laidMetH Tryd.prog [("unicode/utf8.acceptRanges", Rows.laid_unicode_utf8_acceptRanges), ("unicode/utf8.first", Rows.laid_unicode_utf8_first)] w) :
    Calls Tryd.prog 3 #[.string a0] w fun e w' => e = .returned (.bool true) ∧ Below w.heap.size w w' := by
  have hT := tabs_of_laid hL
  clear hL
  go_enter Tryd.func3, Tryd.ntmps3
  go_wp2_with fail
  refine (kinds_any (H := Unit) a0 (by omega) _).mono ?_
  rintro e w1 ⟨D, rfl, ho, hc, hb1⟩
  have HB1 := Lib.hid hb1; clear hb1
  go_wp2_with fail
  refine (refKinds_any a0 (by omega) _).mono ?_
  rintro e w2 ⟨rfl, hb2⟩
  have ho2 := ho.kept (grown_of_below hb2) (by simp)
  have HB2 : Hid (Below w.heap.size w w2) := Lib.hid (HB1.out.trans (hb2.mono HB1.out.size))
  have HO2 := Lib.hid ho2; have HCN := Lib.hid hc
  clear ho hc hb2 ho2
  generalize cntI a0 = c at *
  unfold cells9
  go_wp2
  obtain ⟨W, hW⟩ : ∃ W, W = w2.alloc (.cells #[.int .i64 (c 0), .int .i64 (c 1), .int .i64 (c 2), .int .i64 (c 3), .int .i64 (c 4), .int .i64 (c 5), .int .i64 (c 6), .int .i64 (c 7), .int .i64 (c 8)] 24) := ⟨_, rfl⟩
  rw [← hW]
  have hE : W.heap[w2.heap.size]? = some (.cells #[.int .i64 (c 0), .int .i64 (c 1), .int .i64 (c 2), .int .i64 (c 3), .int .i64 (c 4), .int .i64 (c 5), .int .i64 (c 6), .int .i64 (c 7), .int .i64 (c 8)] 24 (0, 0)) := by rw [hW]; exact (MapKept.heap_alloc w2 _).1
  have HOW : Hid (W.ownsMap Tryd.prog 3 (plainElem Tryd.prog 3) w.heap.size a0.size D) := Lib.hid (by rw [hW]; exact HO2.out.alloc _)
  have HBW : Hid (Below w.heap.size w W) := Lib.hid (by rw [hW]; exact HB2.out.alloc (by have := HB2.out.size; omega) _)
  have HE := Lib.hid hE
  generalize w2.heap.size = q at *
  have HWW := Lib.hid hW
  clear hW hE HWW HO2 HB2 HB1
  go_loop [5, 6] (fun n i => ∃ j : Nat, j ≤ 9 ∧ i = .int .i64 ↑j ∧ n = .int .i64 ↑(indTo c j)) (fun _ i => 10 - (intOf i).toNat)
  case atStart => exact ⟨0, by omega, rfl, rfl⟩
  case round =>
    obtain ⟨j, hj, rfl, rfl⟩ := hrel
    have hi9 := indTo_le c j
    by_cases hlt : j < 9
    · have hcell : W.cell? ⟨q, j, none⟩ = some (.int .i64 (c (j : Int))) := by
        rw [Lib.cell_of_heap HE.out]
        match j, hlt with
        | 0, _ => rfl
        | 1, _ => rfl
        | 2, _ => rfl
        | 3, _ => rfl
        | 4, _ => rfl
        | 5, _ => rfl
        | 6, _ => rfl
        | 7, _ => rfl
        | 8, _ => rfl
      have hkey : keyOf Tryd.prog 3 (.int .i64 (j : Int)) = some (.int .i64 (j : Int)) := keyOf_int_mk Tryd.underlying3 (wf_small _ (by omega) (by omega))
      have HKEY := Lib.hid hkey; clear hkey
      have hh := (HCN.out.2.1 (j : Int)).1
      by_cases hpos : 0 < c (j : Int)
      · have hhas : Maps.has D (.int .i64 (j : Int)) = true := by rw [hh]; simpa using hpos
        have HI : Hid (indTo c (j + 1) = indTo c j + 1) := Lib.hid (by simp [indTo, ind, hpos])
        clear hh
        go_wp2_with (at_lookup; refine wpList_lookup_own_ok_int _ rfl _ _ 22 rfl 3 3 .i64 keyInt Tryd.underlying22 Tryd.underlying3 (zeroInt _) w.heap.size a0.size _ rfl HOW.out _ _ rfl HKEY.out ?_; intro x hat hwx; have hxx := cnt_val HCN.out hat; subst hxx; rw [hhas]; clear hat hwx)
        go_round
        case rel => exact ⟨j + 1, by omega, by go_num, by rw [HI.out]; go_num⟩
        case measure => simp [intOf]; omega
      · have hhas : Maps.has D (.int .i64 (j : Int)) = false := by rw [hh]; simpa using hpos
        have HI : Hid (indTo c (j + 1) = indTo c j) := Lib.hid (by simp [indTo, ind, hpos])
        clear hh
        go_wp2_with (at_lookup; refine wpList_lookup_own_ok_int _ rfl _ _ 22 rfl 3 3 .i64 keyInt Tryd.underlying22 Tryd.underlying3 (zeroInt _) w.heap.size a0.size _ rfl HOW.out _ _ rfl HKEY.out ?_; intro x hat hwx; have hxx := cnt_val HCN.out hat; subst hxx; rw [hhas]; clear hat hwx)
        go_round
        case rel => exact ⟨j + 1, by omega, by go_num, by rw [HI.out]⟩
        case measure => simp [intOf]; omega
    · obtain rfl : j = 9 := by omega
      have hlen := fun ty => HOW.out.len Tryd.underlying22 ty
      have e9 : kindsOf c = indTo c 9 := by simp [kindsOf, indTo]
      rw [HCN.out.2.2, e9] at hlen
      generalize indTo c 9 = z at *
      clear e9
      go_wp2_with fail
      refine (alive_any _ (tabs_below hT (Nat.le_refl _) HBW.out)).mono ?_
      rintro e w3 ⟨rfl, hb3⟩
      have HB3 : Hid (Below w.heap.size w w3) := Lib.hid (HBW.out.trans (hb3.mono HBW.out.size)); clear hb3
      go_wp2_with fail
      go_ret
      exact ⟨by first | rfl | simp, HB3.out⟩

/-- What the walk gives, for every argument. -/
theorem contract (H : Type) (enc : TypeId × Value → H) (W : World) (base : Nat) (args : Array Value) (ds gs : List (DataW H)) (before : List MemPlace)
    (hval : ∀ (j : Nat) t v, Tryd.f3.params[j]? = some t → args[j]? = some v → Value.okWide Tryd.prog W .any base t v)
    (hW : DataW.Whole enc Tryd.prog Tryd.f3.params.toList Rows.runesCountsSpec.vars false W args.toList ds gs before) (hk : Rows.uptoSmall H (ds ++ gs) = true) (hsz : (DataW.weightsEach Tryd.prog (Tryd.f3.params.toList ++ (Rows.OpenSpec.upto Rows.runesCountsSpec).bare.plain.varTypes Tryd.prog) (ds ++ gs)).all (· ≤ reachBytes) = true) (hL : laidMetH Tryd.prog Rows.runesCountsUptoRow.laid W) :
    Calls Tryd.prog 3 args W fun e W' => ∃ v, e = .returned v ∧ Rows.runesCountsSpec.post enc Tryd.prog Tryd.f3 false true false false W args v W' := by
  have hW' := hW
  have hlt : ∀ p ∈ before, p.block < W.heap.size := fun p hp => hW.lt p hp
  obtain ⟨p, q, hA0, hV, rfl, hfz, hnd⟩ := hW
  have hA : DataW.TrodAll enc Tryd.prog W 0 (fun _ => true) true Tryd.f3.params.toList args.toList ds p := hA0
  rw [Tryd.params3] at hA hval
  obtain ⟨v0, vs0, d0, ds0, p0, q0, hargs, rfl, rfl, h0, r0⟩ := trodAll_cons hA
  obtain ⟨rfl, rfl, rfl⟩ := trodAll_nil r0
  obtain rfl : args = #[v0] := by cases args; simp_all
  obtain ⟨rfl, rfl⟩ := trodVars_none hV
  have k0 := h0
  obtain ⟨a0, rfl, rfl, rfl, w0⟩ := Go.ChangeMaps.open_string Tryd.underlying9 (hval 0 9 v0 rfl rfl) h0
  have sz0 : a0.size ≤ 1048575 := bulk_string hk (by simp)
  clear hA0
  refine (walk a0 sz0 W hL).mono fun e W' ⟨he, hb⟩ => ?_
  subst he
  exact ⟨_, rfl, post_of_below (pa := [] ++ []) (pv := []) hW' (fun _ _ _ => (trodAll_cons_mk (shut_bool Tryd.underlying4 _) trodAll_mk0)) (fun sp hsp => (trodAll_cons_mk (trod_kept laidOut (by kernel_rfl) (of_decide_eq_true (by kernel_rfl)) k0 hb (fun x hx => hlt x (by simp [hx])) (fun x hx => hsp x (by simp [hx]))) trodAll_mk0)) (fun _ _ => rfl) rfl
    hb (ok_one (by kernel_rfl) rfl (okWide_bool_mk Tryd.underlying4 _))⟩


/-- the cells of a plain datum -/
def cellsD : Nat → DataW Unit → List Value
  | _, .lit (.int k n) => [.int k n]
  | _, .lit (.bool b) => [.bool b]
  | _, .lit (.string l) => [.string ⟨l.toArray⟩]
  | f + 1, .agg l => l.flatMap (cellsD f)
  | _, _ => []
/-- A world for the witness: the settled one, the listed variables holding what their initialisers lay. -/
noncomputable def laidWorld (os : Os) : World :=
  let w := World.holding Tryd.prog os ⟨#[], #[], []⟩
  { w with heap := ((w.heap.modify 1 (fun | .cells _ t z => .cells (cellsD 4 Rows.laid_unicode_utf8_acceptRanges).toArray t z | o => o)).modify 0 (fun | .cells _ t z => .cells (cellsD 4 Rows.laid_unicode_utf8_first).toArray t z | o => o)) }
theorem laid_met (os : Os) : laidMet Tryd.prog Rows.runesCountsUptoRow.laid (((laidWorld os)).forCall (fun _ _ => 0) ⟨#[], #[.string ByteArray.empty], []⟩).memory :=
  laidMet_of_run' 8 (by kernel_rfl) (by kernel_rfl)
theorem reads (os : Os) {H : Type} (enc : TypeId × Value → H) : ∃ places, DataW.whole enc Tryd.prog (((laidWorld os)).forCall (fun _ _ => 0) ⟨#[], #[.string ByteArray.empty], []⟩).memory Tryd.f3.params.toList Rows.runesCountsSpec.vars false (#[.string ByteArray.empty] : Array Value).toList 8 = some ([.lit (.string [])], [], places) :=
  ⟨[], by kernel_rfl⟩

set_option maxRecDepth 100000 in
theorem lifted (os : Os) (started : os.Started) (H : Type) (enc : TypeId × Value → H) (F : Stop.Interp) :
    ReturnsInHanded {} Tryd.checked os 3 .any ((Rows.OpenSpec.upto Rows.runesCountsSpec).preRow enc Tryd.prog Tryd.f3 Rows.runesCountsUptoRow.domain false Rows.runesCountsUptoRow.laid) (((Rows.OpenSpec.upto Rows.runesCountsSpec).at F).post enc Tryd.prog Tryd.f3 false true false false) := by
  obtain ⟨places, hx⟩ := reads os enc
  refine returnsInHanded_of_row (C := Tryd.checked) (s := Rows.OpenSpec.upto Rows.runesCountsSpec) ownNone started (by kernel_rfl) Tryd.func3
    (witness_row_at (enc := enc) (C := Tryd.checked) false (laidWorld os) #[.string ByteArray.empty] rfl (by kernel_rfl) (by kernel_rfl) (by kernel_rfl)
      (OpenSpec.preRow_of_cond 8 hx (by kernel_rfl) (fun k hk => by cases hk; kernel_rfl) (by kernel_rfl) (laid_met os))) ?_
  intro W base args ds gs before hval hW _ hcond hsz hL _ _
  exact contract H enc W base args ds gs before hval hW (hcond _ rfl) hsz hL

theorem over : Rows.RunesCountsUptoSaid :=
  OpenClaim.holds_of_cond 3 Tryd.f3 rfl rfl rfl rfl rfl rfl rfl ⟨rfl, rfl, rfl, rfl, rfl⟩ rfl rfl rfl rfl rfl (by kernel_rfl) Tryd.func3 (by kernel_rfl)
    (of_decide_eq_true (by kernel_rfl)) (by unfold Func.isWrapper; first | (rw [if_pos (by decide +kernel)]; kernel_rfl) | (rw [if_neg (by decide +kernel)]; exact ⟨rfl, rfl⟩))
    (fun os started H enc _ F => by rw [OpenClaim.pre_eq_preRow]; exact lifted os started H enc F)

theorem plain (f : FuncId) (fn : Func) (hf : Tryd.pinned.checked.prog.funcNamed "arbor/arborlaw01.RunesCounts" = some f) (hfn : Tryd.pinned.checked.prog.funcs[f]? = some fn) :
    false = Tryd.pinned.checked.prog.looks [] ∧ ∀ (j : Nat) t, fn.params[j]? = some t → Tryd.pinned.checked.prog.wantsStandIn t = false := by
  obtain rfl : f = 3 := Option.some.inj ((show Tryd.prog.funcNamed "arbor/arborlaw01.RunesCounts" = some 3 by kernel_rfl).symm.trans hf) |>.symm
  obtain rfl : fn = Tryd.f3 := (Option.some.inj (Tryd.func3.symm.trans hfn)).symm
  refine ⟨by kernel_rfl, fun j t ht => ?_⟩
  rw [Tryd.params3] at ht
  have hm := Array.mem_of_getElem? ht
  have hor : t = 9 := by simpa using hm
  subst hor
  exact (show Tryd.prog.wantsStandIn 9 = false by kernel_rfl)

/-- the card -/
theorem proved : Rows.RunesCountsUptoCardSaid :=
  Claim7.holds_tied_plain_at .later [] _ _ _ _ over (fun _ h => by cases h) (by kernel_rfl) (fun _ h => by cases h) runesCountsUpto_row_tie rfl ⟨rfl, rfl⟩ (by kernel_rfl) rfl plain (by kernel_rfl)

end Go.Proofs.YtenhdbjkpopfmaaDoor.runesCounts
