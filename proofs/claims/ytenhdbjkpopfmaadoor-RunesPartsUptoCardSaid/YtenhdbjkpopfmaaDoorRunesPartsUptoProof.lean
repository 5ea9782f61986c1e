/- arborlaw01.RunesParts holds where the two texts have fewer than 2^20 bytes (the second form): texts one behind the other, cut where the first one ends in a slash: what is counted is counted together; the first that is not Plain is the first one's, or the second one's. -/
import Derived.Test.YtenhdbjkpopfmaaDoorCards
import Derived.Test.YtenhdbjkpopfmaaDoorTie
import Derived.Test.YtenhdbjkpopfmaaDoorRAlive
import Derived.Test.YtenhdbjkpopfmaaDoorRPartsP
import Derived.LaidLaws
import Derived.Test.YtenhdbjkpopfmaaDoorFrame
namespace Go.Proofs.YtenhdbjkpopfmaaDoor.runesParts
open Go.ChangeShapes Go.WideShapes Go.ChangeAt Go.RowKit
set_option linter.unusedVariables false

open Go.Maps
theorem looks {w : World} {b n : Nat} {D : DataW Unit} {c : Int → Nat} (h : w.ownsMap Tryd.prog 3 (plainElem Tryd.prog 3) b n D) (hc : Counts D c) (j : Nat) (hj : j ≤ 9) :
    (Instr.lookup 22 (.map (some b)) (.int .i64 (j : Int)) false).run Tryd.prog w = .ok (.int .i64 (c (j : Int))) w := by
  obtain ⟨x, hlook, hat, _⟩ := h.lookup_int keyInt Tryd.underlying22 Tryd.underlying3 (zeroInt _) (keyOf_int_mk Tryd.underlying3 (wf_small (j : Int) (by omega) (by omega)))
  have hx := cnt_val hc hat
  subst hx
  exact hlook
set_option maxRecDepth 100000 in
set_option maxHeartbeats 1000000 in
theorem walk (a0 : ByteArray) (sz0 : a0.size ≤ 1048575) (a1 : ByteArray) (sz1 : a1.size ≤ 1048575) (w : World) (hL : laidMetH Tryd.prog [("unicode/utf8.acceptRanges", Rows.laid_unicode_utf8_acceptRanges), ("unicode/utf8.first", Rows.laid_unicode_utf8_first)] w) :
    Calls Tryd.prog 6 #[.string a0, .string a1] w fun e w' => e = .returned (.bool true) ∧ Below w.heap.size w w' := by
  have hT := tabs_of_laid hL
  clear hL
  have hE := ends_slash a0
  have hsz : (a0 ++ (⟨#[47]⟩ : ByteArray)).size = a0.size + 1 := by rw [ByteArray.size_append]; rfl
  have hsz2 : (a0 ++ (⟨#[47]⟩ : ByteArray) ++ a1).size = a0.size + 1 + a1.size := by rw [ByteArray.size_append, hsz]
  have HU := Lib.hid (units_app _ a1 hE)
  have HC := Lib.hid (cnt_app _ a1 hE)
  have HF := Lib.hid (first_app _ a1 hE)
  have HE := Lib.hid hE
  have hS : (a0 ++ (⟨#[47]⟩ : ByteArray)).size ≤ 1048576 := by omega
  have hS2 : (a0 ++ (⟨#[47]⟩ : ByteArray) ++ a1).size ≤ 2097151 := by omega
  have HSZ := Lib.hid hsz; have HSZ2 := Lib.hid hsz2
  clear hE hsz hsz2
  have hu1 := unitsI_le (a0 ++ (⟨#[47]⟩ : ByteArray))
  have hu2 := unitsI_le a1
  have hc1 := fun k => cntI_le (a0 ++ (⟨#[47]⟩ : ByteArray)) k
  have hc2 := fun k => cntI_le a1 k
  have HC1 := Lib.hid hc1; have HC2 := Lib.hid hc2; clear hc1 hc2
  go_enter Tryd.func6, Tryd.ntmps6
  go_wp2_with fail
  refine (alive_any _ hT).mono ?_
  rintro e w1 ⟨rfl, hb1⟩
  have HB1 := Lib.hid hb1; clear hb1
  go_wp2_with fail
  generalize (a0 ++ (⟨#[47]⟩ : ByteArray)) = s at *
  refine (units_any (s ++ a1) (by omega) _).mono ?_
  rintro e w2 ⟨rfl, hb2⟩
  have HB2 : Hid (Below w.heap.size w w2) := Lib.hid (HB1.out.trans (hb2.mono HB1.out.size)); clear hb2
  rw [HU.out]
  go_wp2_with fail
  refine (units_any s (by omega) _).mono ?_
  rintro e w3 ⟨rfl, hb3⟩
  have HB3 : Hid (Below w.heap.size w w3) := Lib.hid (HB2.out.trans (hb3.mono HB2.out.size)); clear hb3
  go_wp2_with fail
  refine (units_any a1 (by omega) _).mono ?_
  rintro e w4 ⟨rfl, hb4⟩
  have HB4 : Hid (Below w.heap.size w w4) := Lib.hid (HB3.out.trans (hb4.mono HB3.out.size)); clear hb4
  have hub : ((((unitsI s + unitsI a1 : Nat) : Int)) != (unitsI s : Int) + (unitsI a1 : Int)) = false := by simp
  have hub2 : (((unitsI s : Int) + (unitsI a1 : Int)) != (unitsI s : Int) + (unitsI a1 : Int)) = false := by simp
  go_wp2_with fail
  refine (kinds_any (H := Unit) s (by omega) _).mono ?_
  rintro e w5 ⟨DA, rfl, hoA, hcA, hb5⟩
  have HB5 : Hid (Below w.heap.size w w5) := Lib.hid (HB4.out.trans (hb5.mono HB4.out.size))
  have hltA := hoA.lt
  clear hb5
  generalize w4.heap.size = mA at *
  go_wp2_with fail
  refine (kinds_any (H := Unit) a1 (by omega) _).mono ?_
  rintro e w6 ⟨DB, rfl, hoB, hcB, hb6⟩
  have hoA2 := hoA.kept (grown_of_below hb6) (by simp)
  have HB6 : Hid (Below w.heap.size w w6) := Lib.hid (HB5.out.trans (hb6.mono HB5.out.size))
  clear hb6 hoA hltA
  generalize w5.heap.size = mB at *
  go_wp2_with fail
  refine (kinds_any (H := Unit) (s ++ a1) (by omega) _).mono ?_
  rintro e w7 ⟨DC, rfl, hoC, hcC, hb7⟩
  have hoA3 := hoA2.kept (grown_of_below hb7) (by simp)
  have hoB3 := hoB.kept (grown_of_below hb7) (by simp)
  have HB7 : Hid (Below w.heap.size w w7) := Lib.hid (HB6.out.trans (hb7.mono HB6.out.size))
  have LA := Lib.hid (looks hoA3 hcA)
  have LB := Lib.hid (looks hoB3 hcB)
  have LC := Lib.hid (looks hoC hcC)
  clear hb7 hoA2 hoB hoA3 hoB3 hoC hcA hcB hcC
  generalize w6.heap.size = mC at *
  go_wp2
  go_loop [8] (fun i => ∃ j : Nat, j ≤ 9 ∧ i = .int .i64 ↑j) (fun i => 10 - (intOf i).toNat)
  case atStart => exact ⟨0, by omega, rfl⟩
  case round =>
    obtain ⟨j, hj, rfl⟩ := hrel
    by_cases hlt : j ≤ 8
    · have lA := LA.out j hj
      have lB := LB.out j hj
      have lC := LC.out j hj
      rw [HC.out] at lC
      have b1 := HC1.out (j : Int)
      have b2 := HC2.out (j : Int)
      generalize cntI s (j : Int) = x at *
      generalize cntI a1 (j : Int) = y at *
      have hxy : (((x : Int) + (y : Int)) != ((x + y : Nat) : Int)) = false := by simp
      have hxy2 : (((x : Int) + (y : Int)) != ((x : Int) + (y : Int))) = false := by simp
      go_wp2
      go_round
      case rel => exact ⟨j + 1, by omega, by go_num⟩
      case measure => simp [intOf]; omega
    · go_wp2_with fail
      refine (first_any s (by omega) _).mono ?_
      rintro e w8 ⟨rfl, hb8⟩
      have HB8 : Hid (Below w.heap.size w w8) := Lib.hid (HB7.out.trans (hb8.mono HB7.out.size)); clear hb8
      go_wp2_with fail
      refine (first_any a1 (by omega) _).mono ?_
      rintro e w9 ⟨rfl, hb9⟩
      have HB9 : Hid (Below w.heap.size w w9) := Lib.hid (HB8.out.trans (hb9.mono HB8.out.size)); clear hb9
      go_wp2_with fail
      refine (first_any (s ++ a1) (by omega) _).mono ?_
      rintro e w10 ⟨rfl, hb10⟩
      have HB10 : Hid (Below w.heap.size w w10) := Lib.hid (HB9.out.trans (hb10.mono HB9.out.size)); clear hb10
      rw [HF.out]
      have hrs : firstI s = (-1, 1) ∨ (0 ≤ (firstI s).1 ∧ (firstI s).1 < s.size) := firstI_range s s.size 0
      have hra : firstI a1 = (-1, 1) ∨ (0 ≤ (firstI a1).1 ∧ (firstI a1).1 < a1.size) := firstI_range a1 a1.size 0
      generalize firstI s = x at *
      generalize firstI a1 = y at *
      obtain ⟨x1, x2⟩ := x
      obtain ⟨y1, y2⟩ := y
      simp only [Prod.mk.injEq] at hrs hra
      by_cases hx : 0 ≤ x1
      · have ht : thenI s.size (x1, x2) (y1, y2) = (x1, x2) := by unfold thenI; rw [if_pos hx]
        rw [ht]
        clear hra
        go_wp2
        go_ret
        exact ⟨by simp, HB10.out⟩
      · obtain ⟨rfl, rfl⟩ : x1 = -1 ∧ x2 = 1 := by omega
        by_cases hy : 0 ≤ y1
        · have hy9 : y1 < a1.size := by omega
          have ht : thenI s.size (-1, 1) (y1, y2) = ((s.size : Int) + y1, y2) := by unfold thenI; rw [if_neg (by omega), if_pos hy]
          rw [ht]
          clear hra hrs hx ht
          go_wp2
          go_ret
          exact ⟨by simp, HB10.out⟩
        · obtain ⟨rfl, rfl⟩ : y1 = -1 ∧ y2 = 1 := by omega
          have ht : thenI s.size (-1, 1) (-1, 1) = (-1, 1) := by unfold thenI; rw [if_neg (by omega), if_neg (by omega)]
          rw [ht]
          clear hra hrs hx ht hy
          go_wp2
          go_ret
          exact ⟨by simp, HB10.out⟩

/-- What the walk gives, for every argument. -/
theorem contract (H : Type) (enc : TypeId × Value → H) (W : World) (base : Nat) (args : Array Value) (ds gs : List (DataW H)) (before : List MemPlace)
    (hval : ∀ (j : Nat) t v, Tryd.f6.params[j]? = some t → args[j]? = some v → Value.okWide Tryd.prog W .any base t v)
    (hW : DataW.Whole enc Tryd.prog Tryd.f6.params.toList Rows.runesPartsSpec.vars false W args.toList ds gs before) (hk : Rows.uptoSmall H (ds ++ gs) = true) (hsz : (DataW.weightsEach Tryd.prog (Tryd.f6.params.toList ++ (Rows.OpenSpec.upto Rows.runesPartsSpec).bare.plain.varTypes Tryd.prog) (ds ++ gs)).all (· ≤ reachBytes) = true) (hL : laidMetH Tryd.prog Rows.runesPartsUptoRow.laid W) :
    Calls Tryd.prog 6 args W fun e W' => ∃ v, e = .returned v ∧ Rows.runesPartsSpec.post enc Tryd.prog Tryd.f6 false true false false W args v W' := by
  have hW' := hW
  have hlt : ∀ p ∈ before, p.block < W.heap.size := fun p hp => hW.lt p hp
  obtain ⟨p, q, hA0, hV, rfl, hfz, hnd⟩ := hW
  have hA : DataW.TrodAll enc Tryd.prog W 0 (fun _ => true) true Tryd.f6.params.toList args.toList ds p := hA0
  rw [Tryd.params6] at hA hval
  obtain ⟨v0, vs0, d0, ds0, p0, q0, hargs, rfl, rfl, h0, r0⟩ := trodAll_cons hA
  obtain ⟨v1, vs1, d1, ds1, p1, q1, rfl, rfl, rfl, h1, r1⟩ := trodAll_cons r0
  obtain ⟨rfl, rfl, rfl⟩ := trodAll_nil r1
  obtain rfl : args = #[v0, v1] := by cases args; simp_all
  obtain ⟨rfl, rfl⟩ := trodVars_none hV
  have k0 := h0
  have k1 := h1
  obtain ⟨a0, rfl, rfl, rfl, w0⟩ := Go.ChangeMaps.open_string Tryd.underlying9 (hval 0 9 v0 rfl rfl) h0
  obtain ⟨a1, rfl, rfl, rfl, w1⟩ := Go.ChangeMaps.open_string Tryd.underlying9 (hval 1 9 v1 rfl rfl) h1
  have sz0 : a0.size ≤ 1048575 := bulk_string hk (by simp)
  have sz1 : a1.size ≤ 1048575 := bulk_string hk (by simp)
  clear hA0
  refine (walk a0 sz0 a1 sz1 W hL).mono fun e W' ⟨he, hb⟩ => ?_
  subst he
  exact ⟨_, rfl, post_of_below (pa := [] ++ ([] ++ [])) (pv := []) hW' (fun _ _ _ => (trodAll_cons_mk (shut_bool Tryd.underlying4 _) trodAll_mk0)) (fun sp hsp => (trodAll_cons_mk (trod_kept laidOut (by kernel_rfl) (of_decide_eq_true (by kernel_rfl)) k0 hb (fun x hx => hlt x (by simp [hx])) (fun x hx => hsp x (by simp [hx]))) (trodAll_cons_mk (trod_kept laidOut (by kernel_rfl) (of_decide_eq_true (by kernel_rfl)) k1 hb (fun x hx => hlt x (by simp [hx])) (fun x hx => hsp x (by simp [hx]))) trodAll_mk0))) (fun _ _ => rfl) rfl
    hb (ok_one (by kernel_rfl) rfl (okWide_bool_mk Tryd.underlying4 _))⟩


/-- the cells of a plain datum -/
def cellsD : Nat → DataW Unit → List Value
  | _, .lit (.int k n) => [.int k n]
  | _, .lit (.bool b) => [.bool b]
  | _, .lit (.string l) => [.string ⟨l.toArray⟩]
  | f + 1, .agg l => l.flatMap (cellsD f)
  | _, _ => []
/-- A world for the witness: the settled one, the listed variables holding what their initialisers lay. -/
noncomputable def laidWorld (os : Os) : World :=
  let w := World.holding Tryd.prog os ⟨#[], #[], []⟩
  { w with heap := ((w.heap.modify 1 (fun | .cells _ t z => .cells (cellsD 4 Rows.laid_unicode_utf8_acceptRanges).toArray t z | o => o)).modify 0 (fun | .cells _ t z => .cells (cellsD 4 Rows.laid_unicode_utf8_first).toArray t z | o => o)) }
theorem laid_met (os : Os) : laidMet Tryd.prog Rows.runesPartsUptoRow.laid (((laidWorld os)).forCall (fun _ _ => 0) ⟨#[], #[.string ByteArray.empty, .string ByteArray.empty], []⟩).memory :=
  laidMet_of_run' 8 (by kernel_rfl) (by kernel_rfl)
theorem reads (os : Os) {H : Type} (enc : TypeId × Value → H) : ∃ places, DataW.whole enc Tryd.prog (((laidWorld os)).forCall (fun _ _ => 0) ⟨#[], #[.string ByteArray.empty, .string ByteArray.empty], []⟩).memory Tryd.f6.params.toList Rows.runesPartsSpec.vars false (#[.string ByteArray.empty, .string ByteArray.empty] : Array Value).toList 8 = some ([.lit (.string []), .lit (.string [])], [], places) :=
  ⟨[], by kernel_rfl⟩

set_option maxRecDepth 100000 in
theorem lifted (os : Os) (started : os.Started) (H : Type) (enc : TypeId × Value → H) (F : Stop.Interp) :
    ReturnsInHanded {} Tryd.checked os 6 .any ((Rows.OpenSpec.upto Rows.runesPartsSpec).preRow enc Tryd.prog Tryd.f6 Rows.runesPartsUptoRow.domain false Rows.runesPartsUptoRow.laid) (((Rows.OpenSpec.upto Rows.runesPartsSpec).at F).post enc Tryd.prog Tryd.f6 false true false false) := by
  obtain ⟨places, hx⟩ := reads os enc
  refine returnsInHanded_of_row (C := Tryd.checked) (s := Rows.OpenSpec.upto Rows.runesPartsSpec) ownNone started (by kernel_rfl) Tryd.func6
    (witness_row_at (enc := enc) (C := Tryd.checked) false (laidWorld os) #[.string ByteArray.empty, .string ByteArray.empty] rfl (by kernel_rfl) (by kernel_rfl) (by kernel_rfl)
      (OpenSpec.preRow_of_cond 8 hx (by kernel_rfl) (fun k hk => by cases hk; kernel_rfl) (by kernel_rfl) (laid_met os))) ?_
  intro W base args ds gs before hval hW _ hcond hsz hL _ _
  exact contract H enc W base args ds gs before hval hW (hcond _ rfl) hsz hL

theorem over : Rows.RunesPartsUptoSaid :=
  OpenClaim.holds_of_cond 6 Tryd.f6 rfl rfl rfl rfl rfl rfl rfl ⟨rfl, rfl, rfl, rfl, rfl⟩ rfl rfl rfl rfl rfl (by kernel_rfl) Tryd.func6 (by kernel_rfl)
    (of_decide_eq_true (by kernel_rfl)) (by unfold Func.isWrapper; first | (rw [if_pos (by decide +kernel)]; kernel_rfl) | (rw [if_neg (by decide +kernel)]; exact ⟨rfl, rfl⟩))
    (fun os started H enc _ F => by rw [OpenClaim.pre_eq_preRow]; exact lifted os started H enc F)

theorem plain (f : FuncId) (fn : Func) (hf : Tryd.pinned.checked.prog.funcNamed "arbor/arborlaw01.RunesParts" = some f) (hfn : Tryd.pinned.checked.prog.funcs[f]? = some fn) :
    false = Tryd.pinned.checked.prog.looks [] ∧ ∀ (j : Nat) t, fn.params[j]? = some t → Tryd.pinned.checked.prog.wantsStandIn t = false := by
  obtain rfl : f = 6 := Option.some.inj ((show Tryd.prog.funcNamed "arbor/arborlaw01.RunesParts" = some 6 by kernel_rfl).symm.trans hf) |>.symm
  obtain rfl : fn = Tryd.f6 := (Option.some.inj (Tryd.func6.symm.trans hfn)).symm
  refine ⟨by kernel_rfl, fun j t ht => ?_⟩
  rw [Tryd.params6] at ht
  have hm := Array.mem_of_getElem? ht
  have hor : t = 9 ∨ t = 9 := by simpa using hm
  rcases hor with rfl | rfl
  · exact (show Tryd.prog.wantsStandIn 9 = false by kernel_rfl)
  · exact (show Tryd.prog.wantsStandIn 9 = false by kernel_rfl)

/-- the card -/
theorem proved : Rows.RunesPartsUptoCardSaid :=
  Claim7.holds_tied_plain_at .later [] _ _ _ _ over (fun _ h => by cases h) (by kernel_rfl) (fun _ h => by cases h) runesPartsUpto_row_tie rfl ⟨rfl, rfl⟩ (by kernel_rfl) rfl plain (by kernel_rfl)

end Go.Proofs.YtenhdbjkpopfmaaDoor.runesParts
