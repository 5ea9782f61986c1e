/- arbor/arborlaw13.DeltaOwn holds where what it reads is of bulk at most 1048576. -/
import Derived.Test.YthpjneobmmpbnaaGreatDoorCards
import Derived.Test.YthpjneobmmpbnaaGreatDoorTie
import Derived.Test.YthpjneobmmpbnaaGreatDoorGLwN
import Derived.Test.YthpjneobmmpbnaaGreatDoorGRf3
import Derived.Test.YthpjneobmmpbnaaGreatDoorGFrame
import Derived.Test.YthpjneobmmpbnaaGreatDoorGDeltaOwnUptoFacts
import Derived.MakeChecks
import Derived.LaidLaws
namespace Go.Proofs.YthpjneobmmpbnaaGreatDoor.deltaOwn
open Go.ChangeShapes Go.WideShapes Go.ChangeAt Go.RowKit
set_option linter.unusedVariables false

theorem walk (h : DlH) (d : DlT) (w : World) (hE : Env w) (q : DlAt w (· < w.heap.size) h d) (s : DlSm 1048576 d) :
    Calls Tryz.prog 9 #[dlV h] w fun e w' => e = .returned (.bool true) ∧ Below w.heap.size w w' :=
  deltaOwn_any h d w _ q hE s

set_option maxRecDepth 100000 in
/-- What the walk gives, for every argument. -/
theorem contract (H : Type) (enc : TypeId × Value → H) (W : World) (base : Nat) (args : Array Value) (ds gs : List (DataW H)) (before : List MemPlace)
    (hval : ∀ (j : Nat) t v, Tryz.f9.params[j]? = some t → args[j]? = some v → Value.okWide Tryz.prog W .any base t v)
    (hW : DataW.Whole enc Tryz.prog Tryz.f9.params.toList Rows.deltaOwnSpec.vars false W args.toList ds gs before) (hk : Rows.uptoSmall H (ds ++ gs) = true) (hsz : (DataW.weightsEach Tryz.prog (Tryz.f9.params.toList ++ (Rows.OpenSpec.upto Rows.deltaOwnSpec).bare.plain.varTypes Tryz.prog) (ds ++ gs)).all (· ≤ reachBytes) = true) (hL : laidMetH Tryz.prog Rows.deltaOwnUptoRow.laid W) (hsh : W.ShapedOpen Tryz.prog) :
    Calls Tryz.prog 9 args W fun e W' => ∃ v, e = .returned v ∧ Rows.deltaOwnSpec.post enc Tryz.prog Tryz.f9 false true false false W args v W' := by
  have hW' := hW
  have hlt : ∀ p ∈ before, p.block < W.heap.size := fun p hp => hW.lt p hp
  obtain ⟨p, q, hA0, hV, rfl, hfz, hnd⟩ := hW
  have hA : DataW.TrodAll enc Tryz.prog W 0 (fun _ => true) true Tryz.f9.params.toList args.toList ds p := hA0
  rw [Tryz.params9] at hA hval
  obtain ⟨v0, vs0, d0, ds0, p0, q0, hargs, rfl, rfl, h0, r0⟩ := trodAll_cons hA
  obtain ⟨rfl, rfl, rfl⟩ := trodAll_nil r0
  obtain rfl : args = #[v0] := by cases args; simp_all
  obtain ⟨rfl, rfl⟩ := trodVars_none hV
  have k0 := h0
  obtain ⟨⟨hd0, dd0⟩, rfl, qd0, sd0⟩ := open_dl (hval 0 35 v0 rfl rfl) h0 (Nat.le_trans (bulk_part (by simp)) (bulk_bound hk))
  clear hA0
  have hL2 : laidMet Tryz.prog Rows.deltaOwnUptoRow.laid W := by rw [Go.MakeChecks.laidMetH_plain _ _ _ (by kernel_rfl)] at hL; exact hL
  have hE : Env W := env_of hL2 hsh (by simp [Rows.deltaOwnUptoRow]) (by simp [Rows.deltaOwnUptoRow]) (by simp [Rows.deltaOwnUptoRow]) (by simp [Rows.deltaOwnUptoRow]) (by simp [Rows.deltaOwnUptoRow])
  refine (walk hd0 dd0 W hE qd0 sd0).mono fun e W' ⟨he, hb⟩ => ?_
  subst he
  exact ⟨_, rfl, post_of_below (pa := p0 ++ []) (pv := []) hW' (fun _ _ _ => (trodAll_cons_mk (shut_bool Tryz.underlying4 _) trodAll_mk0)) (fun sp hsp => (trodAll_cons_mk (trod_kept laidOut (by kernel_rfl) (of_decide_eq_true (by kernel_rfl)) k0 hb (fun x hx => hlt x (by simp [hx])) (fun x hx => hsp x (by simp [hx]))) trodAll_mk0)) (fun _ _ => rfl) rfl
    hb (ok_one (by kernel_rfl) rfl (okWide_bool_mk Tryz.underlying4 _))⟩


/-- the cells of a plain datum -/
def cellsD : Nat → DataW Unit → List Value
  | _, .lit (.int k n) => [.int k n]
  | _, .lit (.bool b) => [.bool b]
  | _, .lit (.string l) => [.string ⟨l.toArray⟩]
  | f + 1, .agg l => l.flatMap (cellsD f)
  | _, _ => []
noncomputable def low : Nat := (World.holding Tryz.prog default ⟨#[], #[], []⟩).heap.size
/-- A world for the witness: the settled one, the listed variables holding what their initialisers lay. -/
noncomputable def laidWorld (os : Os) : World :=
  let w := World.holding Tryz.prog os ⟨#[.cells #[.string ⟨#[118, 97, 108, 117, 101, 32, 111, 117, 116, 32, 111, 102, 32, 114, 97, 110, 103, 101]⟩] 274, .cells #[.string ⟨#[105, 110, 118, 97, 108, 105, 100, 32, 115, 121, 110, 116, 97, 120]⟩] 274], #[], []⟩
  { w with heap := (((((((w.heap.modify 4 (fun | .cells _ t z => .cells (cellsD 4 Rows.laid_math_bits_deBruijn32tab).toArray t z | o => o)).modify 5 (fun | .cells _ t z => .cells (cellsD 4 Rows.laid_math_bits_deBruijn64tab).toArray t z | o => o)).modify 3 (fun | .cells _ t z => .cells (cellsD 4 Rows.laid_internal_strconv_uint64pow10).toArray t z | o => o)).modify 2 (fun | .cells _ t z => .cells (cellsD 4 Rows.laid_unicode_utf8_acceptRanges).toArray t z | o => o)).modify 7 (fun | .cells _ t z => .cells #[.iface 272 (.pointer (some ⟨low + 0, 0, none⟩))] t z | o => o)).modify 6 (fun | .cells _ t z => .cells #[.iface 272 (.pointer (some ⟨low + 1, 0, none⟩))] t z | o => o)).modify 1 (fun | .cells _ t z => .cells (cellsD 4 Rows.laid_unicode_utf8_first).toArray t z | o => o)) }
theorem laid_met (os : Os) : laidMet Tryz.prog Rows.deltaOwnUptoRow.laid (((laidWorld os)).forCall (fun _ _ => 0) ⟨#[], #[.agg #[.int .i64 0, .int .i32 0, .int .i64 0, .int .i64 0, .int .i32 0, .string ByteArray.empty, .slice none 0 0, .slice none 0 0, .int .i64 0, .int .i32 0, .int .i32 0, .bool false, .int .i64 0, .int .i64 0, .int .i64 0, .int .i32 0, .slice none 0 0, .slice none 0 0, .int .i32 0, .slice none 0 0]], []⟩).memory :=
  laidMet_of_run' 8 (by kernel_rfl) (by kernel_rfl)
theorem reads (os : Os) {H : Type} (enc : TypeId × Value → H) : ∃ places, DataW.whole enc Tryz.prog (((laidWorld os)).forCall (fun _ _ => 0) ⟨#[], #[.agg #[.int .i64 0, .int .i32 0, .int .i64 0, .int .i64 0, .int .i32 0, .string ByteArray.empty, .slice none 0 0, .slice none 0 0, .int .i64 0, .int .i32 0, .int .i32 0, .bool false, .int .i64 0, .int .i64 0, .int .i64 0, .int .i32 0, .slice none 0 0, .slice none 0 0, .int .i32 0, .slice none 0 0]], []⟩).memory Tryz.f9.params.toList Rows.deltaOwnSpec.vars false (#[.agg #[.int .i64 0, .int .i32 0, .int .i64 0, .int .i64 0, .int .i32 0, .string ByteArray.empty, .slice none 0 0, .slice none 0 0, .int .i64 0, .int .i32 0, .int .i32 0, .bool false, .int .i64 0, .int .i64 0, .int .i64 0, .int .i32 0, .slice none 0 0, .slice none 0 0, .int .i32 0, .slice none 0 0]] : Array Value).toList 8 = some ([.agg [.lit (.int .i64 0), .lit (.int .i32 0), .lit (.int .i64 0), .lit (.int .i64 0), .agg [.lit (.int .i32 0), .lit (.string []), .nil, .nil, .lit (.int .i64 0), .lit (.int .i32 0), .lit (.int .i32 0), .agg [.lit (.bool false), .lit (.int .i64 0), .lit (.int .i64 0)], .agg [.lit (.int .i64 0), .lit (.int .i32 0), .nil], .nil, .lit (.int .i32 0), .nil]]], [], places) :=
  ⟨[], by kernel_rfl⟩

set_option maxRecDepth 100000 in
theorem lifted (os : Os) (started : os.Started) (H : Type) (enc : TypeId × Value → H) (F : Stop.Interp) :
    ReturnsInHanded {} Tryz.checked os 9 .any ((Rows.OpenSpec.upto Rows.deltaOwnSpec).preRow enc Tryz.prog Tryz.f9 Rows.deltaOwnUptoRow.domain false Rows.deltaOwnUptoRow.laid) (((Rows.OpenSpec.upto Rows.deltaOwnSpec).at F).post enc Tryz.prog Tryz.f9 false true false false) := by
  obtain ⟨places, hx⟩ := reads os enc
  refine returnsInHanded_of_row (C := Tryz.checked) (s := Rows.OpenSpec.upto Rows.deltaOwnSpec) ownNone started (by kernel_rfl) Tryz.func9
    (witness_row_at (enc := enc) (C := Tryz.checked) false (laidWorld os) #[.agg #[.int .i64 0, .int .i32 0, .int .i64 0, .int .i64 0, .int .i32 0, .string ByteArray.empty, .slice none 0 0, .slice none 0 0, .int .i64 0, .int .i32 0, .int .i32 0, .bool false, .int .i64 0, .int .i64 0, .int .i64 0, .int .i32 0, .slice none 0 0, .slice none 0 0, .int .i32 0, .slice none 0 0]] rfl (by kernel_rfl) (by kernel_rfl) (by kernel_rfl)
      (OpenSpec.preRow_of_cond 8 hx (by kernel_rfl) (fun k hk => by cases hk; kernel_rfl) (by kernel_rfl) (laid_met os))) ?_
  intro W base args ds gs before hval hW _ hcond hsz hL hsh _
  exact contract H enc W base args ds gs before hval hW (hcond _ rfl) hsz hL hsh

theorem over : Rows.DeltaOwnUptoSaid :=
  OpenClaim.holds_of_cond 9 Tryz.f9 rfl rfl rfl rfl rfl rfl rfl ⟨rfl, rfl, rfl, rfl, rfl⟩ rfl rfl rfl rfl rfl (by kernel_rfl) Tryz.func9 facts
    (of_decide_eq_true (by kernel_rfl)) (by unfold Func.isWrapper; first | (rw [if_pos (by decide +kernel)]; kernel_rfl) | (rw [if_neg (by decide +kernel)]; exact ⟨rfl, rfl⟩))
    (fun os started H enc _ F => by rw [OpenClaim.pre_eq_preRow]; exact lifted os started H enc F)

theorem plain (f : FuncId) (fn : Func) (hf : Tryz.pinned.checked.prog.funcNamed "arbor/arborlaw13.DeltaOwn" = some f) (hfn : Tryz.pinned.checked.prog.funcs[f]? = some fn) :
    true = Tryz.pinned.checked.prog.looks [] ∧ ∀ (j : Nat) t, fn.params[j]? = some t → Tryz.pinned.checked.prog.wantsStandIn t = false := by
  obtain rfl : f = 9 := Option.some.inj ((show Tryz.prog.funcNamed "arbor/arborlaw13.DeltaOwn" = some 9 by kernel_rfl).symm.trans hf) |>.symm
  obtain rfl : fn = Tryz.f9 := (Option.some.inj (Tryz.func9.symm.trans hfn)).symm
  refine ⟨by kernel_rfl, fun j t ht => ?_⟩
  rw [Tryz.params9] at ht
  have hm := Array.mem_of_getElem? ht
  have hor : t = 35 := by simpa using hm
  subst hor
  exact (show Tryz.prog.wantsStandIn 35 = false by kernel_rfl)

/-- the card -/
theorem proved : Rows.DeltaOwnUptoCardSaid :=
  Claim7.holds_tied_plain_at .later [] _ _ _ _ over (fun _ h => by cases h) (by kernel_rfl) (fun _ h => by cases h) deltaOwnUpto_row_tie rfl ⟨rfl, rfl⟩ (by kernel_rfl) rfl plain (by kernel_rfl)

end Go.Proofs.YthpjneobmmpbnaaGreatDoor.deltaOwn
