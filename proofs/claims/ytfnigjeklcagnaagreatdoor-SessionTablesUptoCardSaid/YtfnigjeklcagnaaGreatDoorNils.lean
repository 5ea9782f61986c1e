/- The walks of the calls on nil tables and clocks. No condition. -/
import Derived.Test.YtfnigjeklcagnaaGreatDoorClk
namespace Go.Proofs.YtfnigjeklcagnaaGreatDoor
open Go.RowKit Go.MapKept Go.Maps
theorem results_cell_tmp {fn : Func} {p q : Tmp} {ty : TypeId} (h : fn.results = #[.cell p ty, .tmp q]) (tmps : Array Value) (P : Program) (w : World) :
    (results fn tmps).run P w = ((asAddr (tmps.getD p undef)).run P w).andThen fun a w₁ => ((loadVar ty a).run P w₁).andThen fun v w₂ => .ok (.tuple #[v, tmps.getD q undef]) w₂ := by
  simp only [results, h]
  simp [Sem.run_bind, Result.andThen]
theorem eqNilT (a : Addr) (w : World) : (binOp .eql 51 (.pointer none) (.pointer (some a))).run Tryz.prog w = .ok (.bool false) w := by
  kernel_rfl
set_option maxRecDepth 100000 in
theorem tOpenNil (i to : Int) (A : Option Addr) (n c : Nat) (w : World) : Calls Tryz.prog 26 #[.pointer none, .agg #[.int .i64 i, .int .i32 to, .slice A n c]] w fun e w' => e = .returned (.int .i64 2) ∧ Below w.heap.size w w' := by
  have HB := Lib.hid (Below.refl w.heap.size w)
  have HB2 := Lib.hid (fun o => (Below.refl w.heap.size w).alloc (Nat.le_refl _) o)
  go_enter Tryz.func26, Tryz.ntmps26
  go_wp2_with fail
  first | go_ret | go_ret2
  all_goals first | exact ⟨rfl, HB.out⟩ | exact ⟨rfl, HB2.out _⟩
set_option maxRecDepth 100000 in
theorem tCloseNil (i : Int) (w : World) : Calls Tryz.prog 32 #[.pointer none, .int .i64 i] w fun e w' => e = .returned (.int .i64 2) ∧ Below w.heap.size w w' := by
  have HB := Lib.hid (Below.refl w.heap.size w)
  have HB2 := Lib.hid (fun o => (Below.refl w.heap.size w).alloc (Nat.le_refl _) o)
  go_enter Tryz.func32, Tryz.ntmps32
  go_wp2_with fail
  first | go_ret | go_ret2
  all_goals first | exact ⟨rfl, HB.out⟩ | exact ⟨rfl, HB2.out _⟩
set_option maxRecDepth 100000 in
theorem tGetNil (i : Int) (w : World) : Calls Tryz.prog 33 #[.pointer none, .int .i64 i] w fun e w' => e = .returned (.tuple #[.agg #[.int .i64 0, .int .i32 0, .slice none 0 0], .bool false]) ∧ Below w.heap.size w w' := by
  have HB := Lib.hid (Below.refl w.heap.size w)
  have HB2 := Lib.hid (fun o => (Below.refl w.heap.size w).alloc (Nat.le_refl _) o)
  go_enter Tryz.func33, Tryz.ntmps33
  go_wp2_with fail
  (try simp only [Exit.inBlock, Exit.then])
  refine bodyPost_ret ((results_cell_tmp rfl _ _ _).trans ?_) rfl ⟨rfl, HB2.out _⟩
  go_simp
set_option maxRecDepth 100000 in
theorem tListNil  (w : World) : Calls Tryz.prog 30 #[.pointer none] w fun e w' => e = .returned (.slice none 0 0) ∧ Below w.heap.size w w' := by
  have HB := Lib.hid (Below.refl w.heap.size w)
  have HB2 := Lib.hid (fun o => (Below.refl w.heap.size w).alloc (Nat.le_refl _) o)
  go_enter Tryz.func30, Tryz.ntmps30
  go_wp2_with fail
  first | go_ret | go_ret2
  all_goals first | exact ⟨rfl, HB.out⟩ | exact ⟨rfl, HB2.out _⟩
set_option maxRecDepth 100000 in
theorem tLenNil  (w : World) : Calls Tryz.prog 31 #[.pointer none] w fun e w' => e = .returned (.int .i64 0) ∧ Below w.heap.size w w' := by
  have HB := Lib.hid (Below.refl w.heap.size w)
  have HB2 := Lib.hid (fun o => (Below.refl w.heap.size w).alloc (Nat.le_refl _) o)
  go_enter Tryz.func31, Tryz.ntmps31
  go_wp2_with fail
  first | go_ret | go_ret2
  all_goals first | exact ⟨rfl, HB.out⟩ | exact ⟨rfl, HB2.out _⟩
set_option maxRecDepth 100000 in
theorem tCloneNil  (w : World) : Calls Tryz.prog 38 #[.pointer none] w fun e w' => e = .returned (.pointer none) ∧ Below w.heap.size w w' := by
  have HB := Lib.hid (Below.refl w.heap.size w)
  have HB2 := Lib.hid (fun o => (Below.refl w.heap.size w).alloc (Nat.le_refl _) o)
  go_enter Tryz.func38, Tryz.ntmps38
  go_wp2_with fail
  first | go_ret | go_ret2
  all_goals first | exact ⟨rfl, HB.out⟩ | exact ⟨rfl, HB2.out _⟩
set_option maxRecDepth 100000 in
theorem tEqNilNil  (w : World) : Calls Tryz.prog 28 #[.pointer none, .pointer none] w fun e w' => e = .returned (.bool true) ∧ Below w.heap.size w w' := by
  have HB := Lib.hid (Below.refl w.heap.size w)
  have HB2 := Lib.hid (fun o => (Below.refl w.heap.size w).alloc (Nat.le_refl _) o)
  go_enter Tryz.func28, Tryz.ntmps28
  go_wp2_with fail
  first | go_ret | go_ret2
  all_goals first | exact ⟨rfl, HB.out⟩ | exact ⟨rfl, HB2.out _⟩
set_option maxRecDepth 100000 in
theorem tEqNil (a : Addr) (w : World) : Calls Tryz.prog 28 #[.pointer none, .pointer (some a)] w fun e w' => e = .returned (.bool false) ∧ Below w.heap.size w w' := by
  have HB := Lib.hid (Below.refl w.heap.size w)
  have HB2 := Lib.hid (fun o => (Below.refl w.heap.size w).alloc (Nat.le_refl _) o)
  have he := eqNilT a
  go_enter Tryz.func28, Tryz.ntmps28
  go_wp2_with fail
  first | go_ret | go_ret2
  all_goals first | exact ⟨rfl, HB.out⟩ | exact ⟨rfl, HB2.out _⟩
set_option maxRecDepth 100000 in
theorem cTouchNil (i to now : Int) (w : World) : Calls Tryz.prog 10 #[.pointer none, .int .i64 i, .int .i32 to, .int .i64 now] w fun e w' => e = .returned (.int .i64 2) ∧ Below w.heap.size w w' := by
  have HB := Lib.hid (Below.refl w.heap.size w)
  have HB2 := Lib.hid (fun o => (Below.refl w.heap.size w).alloc (Nat.le_refl _) o)
  go_enter Tryz.func10, Tryz.ntmps10
  go_wp2_with fail
  first | go_ret | go_ret2
  all_goals first | exact ⟨rfl, HB.out⟩ | exact ⟨rfl, HB2.out _⟩
set_option maxRecDepth 100000 in
theorem cDropNil (i : Int) (w : World) : Calls Tryz.prog 11 #[.pointer none, .int .i64 i] w fun e w' => e = .returned (.bool false) ∧ Below w.heap.size w w' := by
  have HB := Lib.hid (Below.refl w.heap.size w)
  have HB2 := Lib.hid (fun o => (Below.refl w.heap.size w).alloc (Nat.le_refl _) o)
  go_enter Tryz.func11, Tryz.ntmps11
  go_wp2_with fail
  first | go_ret | go_ret2
  all_goals first | exact ⟨rfl, HB.out⟩ | exact ⟨rfl, HB2.out _⟩
set_option maxRecDepth 100000 in
theorem cDeadNil (i : Int) (w : World) : Calls Tryz.prog 14 #[.pointer none, .int .i64 i] w fun e w' => e = .returned (.tuple #[.int .i64 0, .bool false]) ∧ Below w.heap.size w w' := by
  have HB := Lib.hid (Below.refl w.heap.size w)
  have HB2 := Lib.hid (fun o => (Below.refl w.heap.size w).alloc (Nat.le_refl _) o)
  go_enter Tryz.func14, Tryz.ntmps14
  go_wp2_with fail
  first | go_ret | go_ret2
  all_goals first | exact ⟨rfl, HB.out⟩ | exact ⟨rfl, HB2.out _⟩
set_option maxRecDepth 100000 in
theorem cExpNil (now : Int) (w : World) : Calls Tryz.prog 13 #[.pointer none, .int .i64 now] w fun e w' => e = .returned (.slice none 0 0) ∧ Below w.heap.size w w' := by
  have HB := Lib.hid (Below.refl w.heap.size w)
  have HB2 := Lib.hid (fun o => (Below.refl w.heap.size w).alloc (Nat.le_refl _) o)
  go_enter Tryz.func13, Tryz.ntmps13
  go_wp2_with fail
  first | go_ret | go_ret2
  all_goals first | exact ⟨rfl, HB.out⟩ | exact ⟨rfl, HB2.out _⟩
set_option maxRecDepth 100000 in
theorem cNextNil  (w : World) : Calls Tryz.prog 22 #[.pointer none] w fun e w' => e = .returned (.tuple #[.int .i64 0, .bool false]) ∧ Below w.heap.size w w' := by
  have HB := Lib.hid (Below.refl w.heap.size w)
  have HB2 := Lib.hid (fun o => (Below.refl w.heap.size w).alloc (Nat.le_refl _) o)
  go_enter Tryz.func22, Tryz.ntmps22
  go_wp2_with fail
  first | go_ret | go_ret2
  all_goals first | exact ⟨rfl, HB.out⟩ | exact ⟨rfl, HB2.out _⟩
set_option maxRecDepth 100000 in
theorem cLenNil  (w : World) : Calls Tryz.prog 24 #[.pointer none] w fun e w' => e = .returned (.int .i64 0) ∧ Below w.heap.size w w' := by
  have HB := Lib.hid (Below.refl w.heap.size w)
  have HB2 := Lib.hid (fun o => (Below.refl w.heap.size w).alloc (Nat.le_refl _) o)
  go_enter Tryz.func24, Tryz.ntmps24
  go_wp2_with fail
  first | go_ret | go_ret2
  all_goals first | exact ⟨rfl, HB.out⟩ | exact ⟨rfl, HB2.out _⟩
end Go.Proofs.YtfnigjeklcagnaaGreatDoor
