/- The walk of (*Clock).Touch. Condition: ids, steps are int64. -/
import Derived.Test.YtfnigjeklcagnaaGreatDoorClkT
namespace Go.Proofs.YtfnigjeklcagnaaGreatDoor
open Go.RowKit Go.MapKept Go.Maps
theorem ClockIs.of_heap {w w' : World} {tick : Int} {K : List KV} {bc bw bs : Nat} {lw : List KV} {ls : List (Int × Nat)} {own : List Nat} (h : ClockIs w tick K bc bw bs lw ls own) (hh : ∀ g ∈ own, w'.heap[g]? = w.heap[g]?) : ClockIs w' tick K bc bw bs lw ls own := by
  have ho := h.own_
  refine ⟨(hh bc (by rw [ho]; simp)).trans h.cells, h.mw.of_heap (hh bw (by rw [ho]; simp)), h.perm, h.ms.of_heap (hh bs (by rw [ho]; simp)), fun x hx => ?_, h.all, ho, h.nod, h.wf⟩
  obtain ⟨ids, i1, i2, i3⟩ := h.inner x hx
  exact ⟨ids, i1, i2.of_heap (hh x.2 (by rw [ho]; simp; exact .inr (.inr (.inr ⟨x.1, hx⟩)))), i3⟩
theorem Fr.drewN (own : List Nat) (w : World) (q : Nat) : Fr own w (w.drewN q) := ⟨rfl, rfl, rfl, Nat.le_refl _, fun _ _ _ => rfl⟩
theorem eqMapSome (b : Nat) (w : World) : (binOp .eql 84 (.map (some b)) (.map none)).run Tryz.prog w = .ok (.bool false) w := by kernel_rfl
theorem eqMapNone (w : World) : (binOp .eql 84 (.map none) (.map none)).run Tryz.prog w = .ok (.bool true) w := by kernel_rfl
def touchOk (id timeout now : Int) : Prop := 1 ≤ id ∧ 1 ≤ timeout ∧ 0 ≤ now ∧ now ≤ 1152921504606846976
theorem step_wf {tick timeout now : Int} (h1 : 1 ≤ tick) (h2 : tick ≤ 1099511627776) (ht : 1 ≤ timeout) (ht2 : timeout ≤ 2147483647) (hn : 0 ≤ now) (hn2 : now ≤ 1152921504606846976) :
    0 ≤ (now + timeout) / tick ∧ (now + timeout) / tick ≤ 1152921506754330623 ∧ wfI (stepK tick timeout now) ∧ 0 ≤ stepK tick timeout now ∧ stepK tick timeout now ≤ 1153922604606846976 := by
  have a := Int.ediv_nonneg (show 0 ≤ now + timeout by omega) (show 0 ≤ tick by omega)
  have b := Int.ediv_le_self tick (show 0 ≤ now + timeout by omega)
  have c := stepK_le (tick := tick) (timeout := timeout) (now := now) h1
  have d := stepK_gt (tick := tick) (timeout := timeout) (now := now) h1
  refine ⟨a, by omega, ⟨by omega, by omega⟩, by omega, by omega⟩
set_option maxRecDepth 100000 in
set_option maxHeartbeats 1000000 in
theorem touch_bad (bc : Nat) (id timeout now : Int) (w : World) (hb : ¬ touchOk id timeout now) :
    Calls Tryz.prog 10 #[.pointer (some ⟨bc, 0, none⟩), .int .i64 id, .int .i32 timeout, .int .i64 now] w fun e w' => e = .returned (.int .i64 1) ∧ w = w' := by
  have hc : id < 1 ∨ (¬ id < 1 ∧ timeout < 1) ∨ (¬ id < 1 ∧ ¬ timeout < 1 ∧ now < 0) ∨ (¬ id < 1 ∧ ¬ timeout < 1 ∧ ¬ now < 0 ∧ 1152921504606846976 < now) := by
    unfold touchOk at hb
    by_cases h1 : id < 1
    · exact .inl h1
    by_cases h2 : timeout < 1
    · exact .inr (.inl ⟨h1, h2⟩)
    by_cases h3 : now < 0
    · exact .inr (.inr (.inl ⟨h1, h2, h3⟩))
    by_cases h4 : 1152921504606846976 < now
    · exact .inr (.inr (.inr ⟨h1, h2, h3, h4⟩))
    · exact absurd ⟨by omega, by omega, by omega, by omega⟩ hb
  clear hb
  rcases hc with h1 | ⟨h1, h2⟩ | ⟨h1, h2, h3⟩ | ⟨h1, h2, h3, h4⟩
  all_goals (
    go_enter Tryz.func10, Tryz.ntmps10
    go_wp2_with fail
    go_ret
    exact ⟨rfl, rfl⟩)
set_option maxRecDepth 100000 in
set_option maxHeartbeats 4000000 in
theorem touch_any (tick : Int) (K : List KV) (bc : Nat) (own : List Nat) (id timeout now : Int) (w : World) (h : Clk w tick K bc own) (hok : touchOk id timeout now) (hid : id ≤ 9223372036854775807) (hto : timeout ≤ 2147483647) (ht1 : 1 ≤ tick) (ht2 : tick ≤ 1099511627776) :
    Calls Tryz.prog 10 #[.pointer (some ⟨bc, 0, none⟩), .int .i64 id, .int .i32 timeout, .int .i64 now] w (ClkPost (.int .i64 0) tick (putK K id (stepK tick timeout now)) bc own w) := by
  obtain ⟨bw, bs, lw, ls, h⟩ := h
  obtain ⟨o1, o2, o3, o4⟩ := hok
  obtain ⟨b1, b2, hsw, b4, b5⟩ := step_wf ht1 ht2 o2 hto o3 o4
  have hiw : wfI id := ⟨by omega, hid⟩
  have hst : stepK tick timeout now = ((now + timeout) / tick + 1) * tick := rfl
  have f2 : (now + timeout).tdiv tick = (now + timeout) / tick := Int.tdiv_eq_ediv_of_nonneg (by omega)
  generalize stepK tick timeout now = st at *
  generalize (now + timeout) / tick = q at *
  have k0 : w.cell? ⟨bc, 0, none⟩ = some (.int .i64 tick) := by rw [cellH h.cells]; rfl
  have k1 : w.cell? ⟨bc, 1, none⟩ = some (.map (some bw)) := by rw [cellH h.cells]; rfl
  have k2 : w.cell? ⟨bc, 2, none⟩ = some (.map (some bs)) := by rw [cellH h.cells]; rfl
  have H := Lib.hid h
  have HW := Lib.hid (And.intro hiw hsw)
  have HR := Lib.hid (fun n => h.look hiw (w.drewN n) rfl)
  have HOK := Lib.hid (And.intro ht1 ht2)
  have f5 : (q + 1) * tick = st := hst.symm
  have hti : (tick == 0) = false := by simp; omega
  have f1 : IntKind.i64.wrap (now + timeout) = now + timeout := IntWalk.i64_in _ (by omega)
  have f3 : IntKind.i64.wrap q = q := IntWalk.i64_in _ (by omega)
  have f4 : IntKind.i64.wrap (q + 1) = q + 1 := IntWalk.i64_in _ (by omega)
  have f6 : IntKind.i64.wrap st = st := IntWalk.i64_in _ (by omega)
  clear h hst hsw hiw
  cases hg : getK K id with
  | none =>
    have HG := Lib.hid hg
    rw [hg] at HR
    have HP := Lib.hid (show putK K id st = K ++ [(id, st)] by unfold putK; rw [hg])
    have HI := Lib.hid (fun n => (H.out.of_heap (w' := w.drewN n) (fun _ _ => rfl)).ins HW.out.1 HW.out.2 ((getK_none K id).1 hg))
    clear hg
    · go_enter Tryz.func10, Tryz.ntmps10
      go_wp2_with fail
      go_quiet (fail)
      have r := HR.out nq
      simp only [Option.getD_none, Option.isSome_none] at r
      obtain ⟨w1, r1, k3, hor⟩ := HI.out nq
      have hq1 := eqMapSome
      have hq2 := eqMapNone
      rcases hor with ⟨b, w2, r2, r3, hC, hF⟩ | ⟨w2, w3, r2, r3, k4, r4, r5, ⟨own2, hC, hs2⟩, hF⟩
      · unfold unitV at r3
        have HC := Lib.hid hC; have HF := Lib.hid hF
        clear hC hF
        go_wp2_with fail
        go_ret
        exact ⟨rfl, ⟨own, by rw [HP.out]; exact HC.out, fun g hg => .inl hg⟩, (Fr.drewN own w nq).trans HF.out (fun g hg => .inl hg)⟩
      · unfold unitV at r5
        have hmm := @run_makeMap Tryz.prog
        have HC := Lib.hid hC; have HF := Lib.hid hF; have HS := Lib.hid hs2
        clear hC hF hs2
        go_wp2_with fail
        go_ret
        exact ⟨rfl, ⟨own2, by rw [HP.out]; exact HC.out, HS.out⟩, (Fr.drewN own w nq).trans HF.out (fun g hg => .inl hg)⟩
  | some old =>
    have HG := Lib.hid hg
    rw [hg] at HR
    clear hg
    by_cases hso : st ≤ old
    · have HP := Lib.hid (show putK K id st = K by unfold putK; rw [HG.out]; simp only; rw [if_pos hso])
      go_enter Tryz.func10, Tryz.ntmps10
      go_wp2_with fail
      go_quiet (fail)
      have r := HR.out nq
      simp only [Option.getD_some, Option.isSome_some] at r
      go_wp2_with fail
      go_ret
      exact ⟨rfl, ⟨own, ⟨_, _, _, _, by rw [HP.out]; exact H.out.of_heap fun _ _ => rfl⟩, fun g hg => .inl hg⟩, Fr.drewN _ _ _⟩
    · have HP := Lib.hid (show putK K id st = dropK K id ++ [(id, st)] by unfold putK; rw [HG.out]; simp only; rw [if_neg hso])
      have hso2 : old < st := by omega
      have HC0 := Lib.hid (fun n => (⟨bw, bs, lw, ls, H.out.of_heap fun _ _ => rfl⟩ : Clk (w.drewN n) tick K bc own))
      go_enter Tryz.func10, Tryz.ntmps10
      go_wp2_with fail
      go_quiet (fail)
      have r := HR.out nq
      simp only [Option.getD_some, Option.isSome_some] at r
      go_wp2_with fail
      go_at_call 40
      refine (leave_any tick K bc own id old _ (HC0.out nq) (getK_mem K id old HG.out)).mono ?_
      rintro e wl ⟨rfl, ⟨own1, ⟨bw1, bs1, lw1, ls1, hC1⟩, hs1⟩, hF1⟩
      have k1 : wl.cell? ⟨bc, 1, none⟩ = some (.map (some bw1)) := by rw [cellH hC1.cells]; rfl
      have k2 : wl.cell? ⟨bc, 2, none⟩ = some (.map (some bs1)) := by rw [cellH hC1.cells]; rfl
      obtain ⟨w1, r1, k3, hor⟩ := hC1.ins HW.out.1 HW.out.2 drop_ne
      have HS1 := Lib.hid hs1; have HF1 := Lib.hid hF1
      clear hC1 hs1 hF1
      have hq1 := eqMapSome
      have hq2 := eqMapNone
      rcases hor with ⟨b, w2, r2, r3, hC, hF⟩ | ⟨w2, w3, r2, r3, k4, r4, r5, ⟨own2, hC, hs2⟩, hF⟩
      · unfold unitV at r3
        have HC := Lib.hid hC; have HF := Lib.hid hF
        clear hC hF
        go_wp2_with fail
        go_ret
        exact ⟨rfl, ⟨own1, by rw [HP.out]; exact HC.out, fun g hg => .inl (HS1.out g hg)⟩, ((Fr.drewN own w nq).trans HF1.out (fun g hg => .inl hg)).trans HF.out (fun g hg => .inl (HS1.out g hg))⟩
      · unfold unitV at r5
        have hmm := @run_makeMap Tryz.prog
        have HC := Lib.hid hC; have HF := Lib.hid hF; have HS := Lib.hid hs2
        clear hC hF hs2
        go_wp2_with fail
        go_ret
        exact ⟨rfl, ⟨own2, by rw [HP.out]; exact HC.out, fun g hg => (HS.out g hg).elim (fun h1 => .inl (HS1.out g h1)) (fun h2 => .inr (Nat.le_trans HF1.out.size h2))⟩, ((Fr.drewN own w nq).trans HF1.out (fun g hg => .inl hg)).trans HF.out (fun g hg => .inl (HS1.out g hg))⟩
end Go.Proofs.YtfnigjeklcagnaaGreatDoor
