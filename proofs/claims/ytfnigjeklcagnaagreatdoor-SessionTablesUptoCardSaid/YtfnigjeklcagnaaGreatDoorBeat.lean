/- Beats that came in; the walks of Drop, Touch (at any input), among. Conditions: int64, int32. -/
import Derived.Test.YtfnigjeklcagnaaGreatDoorLive9
import Derived.Test.YtfnigjeklcagnaaGreatDoorOpenL
import Derived.Test.YtfnigjeklcagnaaGreatDoorOrdK
namespace Go.Proofs.YtfnigjeklcagnaaGreatDoor
open Go.RowKit Go.MapKept Go.Maps Go.WideShapes
abbrev BeatV := Int × Int × Int × Int
def encB (z : BeatV) : List Value := [.int .i64 z.1, .int .i64 z.2.1, .int .i32 z.2.2.1, .int .i64 z.2.2.2]
def wfB (z : BeatV) : Prop := wfI z.1 ∧ wfI z.2.1 ∧ (-2147483648 ≤ z.2.2.1 ∧ z.2.2.1 ≤ 2147483647) ∧ wfI z.2.2.2
def SlB (w : World) (A : Option Addr) (n : Nat) (l : List BeatV) : Prop := l.length = n ∧ ∀ j, j < n → ∃ b off, A = some ⟨b, off, none⟩ ∧ w.cell? ⟨b, off + j * 4, none⟩ = some (.int .i64 l[j]!.1) ∧ w.cell? ⟨b, off + j * 4 + 1, none⟩ = some (.int .i64 l[j]!.2.1) ∧ w.cell? ⟨b, off + j * 4 + 2, none⟩ = some (.int .i32 l[j]!.2.2.1) ∧ w.cell? ⟨b, off + j * 4 + 3, none⟩ = some (.int .i64 l[j]!.2.2.2)
theorem SlB.below {w w' : World} {A : Option Addr} {n : Nat} {l : List BeatV} (h : SlB w A n l) (hb : Below w.heap.size w w') : SlB w' A n l :=
  ⟨h.1, fun j hj => by
    obtain ⟨b, off, e, z0, z1, z2, z3⟩ := h.2 j hj
    exact ⟨b, off, e, keep1 z0 hb, keep1 z1 hb, keep1 z2 hb, keep1 z3 hb⟩⟩
section
variable {H : Type} {enc : TypeId × Value → H} {w : World} {base : Nat} {spare : Nat → Bool} {held : Bool}
theorem wf_i64 {n : Int} (h : (Lit.int .i64 n).wf = true) : wfI n := by simp [Lit.wf] at h; exact h
theorem wf_i32 {n : Int} (h : (Lit.int .i32 n).wf = true) : -2147483648 ≤ n ∧ n ≤ 2147483647 := by simp [Lit.wf] at h; exact h
set_option maxRecDepth 100000 in
theorem trod_beat {fuel : Nat} {cs : List Value} {x : DataW H × List MemPlace} (h : DataW.trod enc Tryz.prog w base spare held fuel 29 cs = some x) :
    ∃ z : BeatV, cs = encB z ∧ wfB z := by
  obtain ⟨ys, n, _, rfl, hlen, hyl, hf⟩ := DataW.trod_struct Tryz.underlying29 h
  have hc : Tryz.prog.cellsOf 29 = 4 := by kernel_rfl
  have h1 : Tryz.prog.cellsOf 3 = 1 := by kernel_rfl
  have h2 : Tryz.prog.cellsOf 2 = 1 := by kernel_rfl
  have h3 : Tryz.prog.cellsOf 21 = 1 := by kernel_rfl
  rw [hc] at hlen
  match cs, hlen with
  | [a, b, c, d], _ =>
    match ys, hyl with
    | [y0, y1, y2, y3], _ =>
      have g0 : DataW.trod enc Tryz.prog w base spare held n 3 (List.take (Tryz.prog.cellsOf 3) [a, b, c, d]) = some y0 := hf 0 _ rfl
      have g1 : DataW.trod enc Tryz.prog w base spare held n 2 (List.take (Tryz.prog.cellsOf 2) [b, c, d]) = some y1 := hf 1 _ rfl
      have g2 : DataW.trod enc Tryz.prog w base spare held n 21 (List.take (Tryz.prog.cellsOf 21) [c, d]) = some y2 := hf 2 _ rfl
      have g3 : DataW.trod enc Tryz.prog w base spare held n 2 (List.take (Tryz.prog.cellsOf 2) [d]) = some y3 := hf 3 _ rfl
      rw [h1] at g0
      rw [h2] at g1 g3
      rw [h3] at g2
      simp only [List.take_succ_cons, List.take_zero] at g0 g1 g2 g3
      obtain ⟨p0, e0, _, w0⟩ := DataW.trod_int Tryz.underlying3 g0
      obtain ⟨p1, e1, _, w1⟩ := DataW.trod_int Tryz.underlying2 g1
      obtain ⟨p2, e2, _, w2⟩ := DataW.trod_int Tryz.underlying21 g2
      obtain ⟨p3, e3, _, w3⟩ := DataW.trod_int Tryz.underlying2 g3
      injection e0 with e0; injection e1 with e1; injection e2 with e2; injection e3 with e3
      subst e0 e1 e2 e3
      exact ⟨(p0, p1, p2, p3), rfl, wf_i64 w0, wf_i64 w1, wf_i32 w2, wf_i64 w3⟩
set_option maxRecDepth 100000 in
theorem open_beats {v : Value} {d : DataW H} {ps : List MemPlace} {b0 : Nat} (hval : Value.okWide Tryz.prog w .any b0 22 v) (h : DataW.Trod enc Tryz.prog w base spare held 22 v d ps) (hb : Rows.uptoBulk d ≤ 1048576) :
    ∃ A n c l, v = .slice A n c ∧ SlB w A n l ∧ n ≤ 1048576 ∧ (∀ j, j < n → wfB l[j]!) ∧ (A = none → n = 0 ∧ c = 0) := by
  obtain ⟨A, n, c, l, e, h1, h2, h3, h4⟩ := open_rows (enc0 := encB) (k := 4) Tryz.underlying22 (by kernel_rfl) (by decide) (fun (z : BeatV) _ => wfB z) (fun _ _ x hx => trod_beat hx) (fun _ _ _ _ hz => hz) hval h
  refine ⟨A, n, c, l, e, ⟨h1.1, fun j hj => ?_⟩, Nat.le_trans h3 hb, h4, h2⟩
  obtain ⟨b, off, e2, _, hc⟩ := h1.cells hj
  exact ⟨b, off, e2, hc 0 _ rfl, hc 1 _ rfl, hc 2 _ rfl, hc 3 _ rfl⟩
end
open Classical in
noncomputable def touchK (K : List KV) (tick id to now : Int) : List KV := if touchOk id to now then putK K id (stepK tick to now) else K
open Classical in
noncomputable def touchE (id to now : Int) : Int := if touchOk id to now then 0 else 1
theorem Clk.wf {w : World} {tick : Int} {K : List KV} {bc : Nat} {own : List Nat} (h : Clk w tick K bc own) : ∀ y ∈ K, wfI y.1 ∧ wfI y.2 := by
  obtain ⟨_, _, _, _, h⟩ := h; exact h.wf
theorem touch_all (tick : Int) (K : List KV) (bc : Nat) (own : List Nat) (id timeout now : Int) (w : World) (h : Clk w tick K bc own) (hid : wfI id) (hto : timeout ≤ 2147483647) (ht1 : 1 ≤ tick) (ht2 : tick ≤ 1099511627776) :
    Calls Tryz.prog 10 #[.pointer (some ⟨bc, 0, none⟩), .int .i64 id, .int .i32 timeout, .int .i64 now] w (ClkPost (.int .i64 (touchE id timeout now)) tick (touchK K tick id timeout now) bc own w) := by
  by_cases hok : touchOk id timeout now
  · unfold touchE touchK
    rw [if_pos hok, if_pos hok]
    exact touch_any tick K bc own id timeout now w h hok hid.2 hto ht1 ht2
  · unfold touchE touchK
    rw [if_neg hok, if_neg hok]
    refine (touch_bad bc id timeout now w hok).mono ?_
    rintro e w' ⟨rfl, rfl⟩
    exact ⟨rfl, ⟨own, h, fun g hg => .inl hg⟩, Fr.refl _ _⟩
set_option maxRecDepth 100000 in
set_option maxHeartbeats 1000000 in
theorem drop_any (tick : Int) (K : List KV) (bc : Nat) (own : List Nat) (i : Int) (hi : wfI i) (w : World) (h : Clk w tick K bc own) :
    Calls Tryz.prog 11 #[.pointer (some ⟨bc, 0, none⟩), .int .i64 i] w (ClkPost (.bool (getK K i).isSome) tick (dropK K i) bc own w) := by
  have HC := Lib.hid h
  obtain ⟨bw, bs, lw, ls, h⟩ := h
  have k1 : w.cell? ⟨bc, 1, none⟩ = some (.map (some bw)) := by rw [cellH h.cells]; rfl
  have r := h.look hi w rfl
  clear h
  cases hg : getK K i with
  | none =>
    rw [hg] at r
    simp only [Option.getD_none, Option.isSome_none] at r ⊢
    have HD := Lib.hid (drop_none hg)
    clear hg
    go_enter Tryz.func11, Tryz.ntmps11
    go_wp2_with fail
    go_ret
    exact ⟨rfl, ⟨own, by rw [HD.out]; exact HC.out, fun g hg => .inl hg⟩, Fr.refl _ _⟩
  | some s =>
    rw [hg] at r
    simp only [Option.getD_some, Option.isSome_some] at r ⊢
    have HM := Lib.hid (getK_mem K i s hg)
    clear hg
    go_enter Tryz.func11, Tryz.ntmps11
    go_wp2_with fail
    go_at_call 40
    refine (leave_any tick K bc own i s _ HC.out HM.out).mono ?_
    rintro e w' ⟨rfl, ⟨own', hC, hs⟩, hF⟩
    have HX := Lib.hid (And.intro hC (And.intro hs hF))
    clear hC hs hF
    go_wp2_with fail
    go_ret
    exact ⟨rfl, ⟨own', HX.out.1, fun g hg => .inl (HX.out.2.1 g hg)⟩, HX.out.2.2⟩
set_option maxHeartbeats 1000000 in
theorem among_any (A : Option Addr) (n c : Nat) (l : List Int) (i : Int) (w : World) (h : SlI w A n l) (hn : n ≤ 281474976710656) :
    Calls Tryz.prog 12 #[.slice A n c, .int .i64 i] w fun e w' => e = .returned (.bool (decide (i ∈ l))) ∧ ∃ q, w' = w.drewN q := by
  have HL := Lib.hid h.1
  go_enter Tryz.func12, Tryz.ntmps12
  go_wp2_with fail
  go_loopw [5] (fun j wr => ∃ (k q : Nat), j = .int .i64 ↑k ∧ k ≤ n ∧ (∀ j, j < k → l[j]! ≠ i) ∧ wr = w.drewN q) (fun j _ => n - (intOf j).toNat)
  case atStart => exact ⟨0, 0, rfl, by omega, fun j hj => absurd hj (by omega), rfl⟩
  case round =>
    obtain ⟨k, q, rfl, hk, hall, rfl⟩ := hrel
    have HA := Lib.hid hall; clear hall
    by_cases hlt : k < n
    · obtain ⟨b, off, hA, x0⟩ := h.2 k hlt
      have HX := Lib.hid h
      clear h
      subst hA
      have hk2 : ((k : Nat) : Int) < (n : Int) := by omega
      by_cases he : l[k]! = i
      · have HE := Lib.hid (show decide (i ∈ l) = true from decide_eq_true (by rw [← he, getElem!_pos l k (by rw [HL.out]; exact hlt)]; exact List.getElem_mem _))
        rw [he] at x0
        clear he
        go_wp2_with fail
        go_ret
        exact ⟨by rw [HE.out]; rfl, _, by first | rfl | exact World.drewN_drewN ..⟩
      · have HA1 := Lib.hid (show ∀ j, j < k + 1 → l[j]! ≠ i from fun j hj => by rcases Nat.lt_succ_iff_lt_or_eq.1 hj with h | rfl; exact HA.out j h; exact he)
        have hne : (l[k]! == i) = false := beq_eq_false_iff_ne.2 he
        clear he
        generalize l[k]! = x at *
        go_wp2_with fail
        go_roundw
        case rel => exact ⟨k + 1, q, by go_num, by omega, HA1.out, by first | rfl | trivial⟩
        case measure => simp [intOf]; omega
    · have HE := Lib.hid (show decide (i ∈ l) = false from decide_eq_false fun hm => by
        obtain ⟨j, hj, e⟩ := List.mem_iff_getElem.1 hm
        refine HA.out j (by have := HL.out; omega) ?_
        rw [getElem!_pos l j hj]; exact e)
      have hk2 : ¬ ((k : Nat) : Int) < (n : Int) := by omega
      go_wp2_with fail
      go_ret
      exact ⟨by rw [HE.out]; rfl, _, rfl⟩
end Go.Proofs.YtfnigjeklcagnaaGreatDoor
