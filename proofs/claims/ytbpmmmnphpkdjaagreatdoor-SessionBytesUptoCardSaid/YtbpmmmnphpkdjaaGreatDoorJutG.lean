/- The walks of jute.Read and what it defers. Condition: at most 2^20 bytes. -/
import Derived.Test.YtbpmmmnphpkdjaaGreatDoorJutT
import Derived.Defers
import Derived.Recover
import Derived.Lib.Builder
namespace Go.Proofs.YtbpmmmnphpkdjaaGreatDoor
open Go.RowKit Go.MapKept Go.Maps
/-- the cells of a call of Read: the place, the error, the Reader, the variable that points to it -/
structure RdC (w : World) (a1 a2 rb pr : Nat) (A : Option Addr) (n c : Nat) (p : Nat) : Prop where
  h1 : ∃ v, w.heap[a1]? = some (.cells #[.int .i64 v] 3 (0, 0))
  h2 : ∃ v, w.heap[a2]? = some (.cells #[.int .i64 v] 38 (0, 0))
  rc : w.heap[rb]? = some (.cells #[.slice A n c, .int .i64 (p : Int), .bool false] 180 (0, 0))
  hp : w.heap[pr]? = some (.cells #[.pointer (some ⟨rb, 0, none⟩)] 178 (0, 0))
  n1 : a1 ≠ a2 ∧ a1 ≠ rb ∧ a1 ≠ pr ∧ a2 ≠ rb ∧ a2 ≠ pr ∧ rb ≠ pr
theorem wpS_seqR {P : Program} {Q : Exit → Act → List Frame → World → Prop} {a : Act} {cs : List Frame} {w : World} {id : Nat} {ops : Array Oper} {y : Code}
    (h : ∀ K : Act → List Frame → World → Prop, (∀ a' cs' w', y.wpS P Q a' cs' w' → K a' cs' w') → wpOpsS P ops (Exit.thenS K Q) (List.range ops.size) a cs w) : (Code.seq (.region id ops false) y).wpS P Q a cs w :=
  wpS_seq (wpS_region (h _ (fun _ _ _ h => h)))
set_option maxRecDepth 100000 in
set_option maxHeartbeats 400000 in
theorem read1_ok {w : World} {a1 a2 rb pr n c p : Nat} {A : Option Addr} (h : RdC w a1 a2 rb pr A n c p) :
    CallsD Tryz.prog 100 #[.pointer (some ⟨pr, 0, none⟩), .pointer (some ⟨a1, 0, none⟩), .pointer (some ⟨a2, 0, none⟩)] .returning w fun e u' w' => e = .returned (.tuple #[]) ∧ u' = .returning ∧ Fr [rb] w w' := by
  have kp : w.cell? ⟨pr, 0, none⟩ = some (.pointer (some ⟨rb, 0, none⟩)) := by rw [cellH h.hp]; rfl
  have z0 : w.frozen? ⟨rb, 0, none⟩ = false := by simp [World.frozen?, h.rc]
  have z2 : w.frozen? ⟨rb, 2, none⟩ = false := by simp [World.frozen?, h.rc]
  have hnp := h.n1.2.2.2.2.2
  have k2 : w.cell? ⟨rb, 2, none⟩ = some (.bool false) := by rw [cellH h.rc]; rfl
  have k0 : w.cell? ⟨rb, 0, none⟩ = some (.slice A n c) := by rw [cellH h.rc]; rfl
  have hfr : Fr [rb] w ((w.setCell ⟨rb, 2, none⟩ (.bool true)).setCell ⟨rb, 0, none⟩ (.slice none 0 0)) := (fr_setJ w rb 2 _).setJ (by simp) 0 _
  have HFR := Lib.hid hfr
  have H := Lib.hid h
  clear h hfr
  refine callsD_of_wpS Tryz.func100 rfl fun c₀ cs hu => ?_
  simp only [Tryz.ntmps100, List.size_toArray, List.length_cons, List.length_nil, Nat.reduceAdd, Nat.reduceSub, Array.replicate_succ, Array.replicate_zero, List.push_toArray, List.append_toArray, List.nil_append, List.cons_append]
  obtain ⟨Q, hQ⟩ : ∃ Q, Q = bodyPostS Tryz.prog Tryz.f100 c₀ cs (fun e u' w' => e = .returned (.tuple #[]) ∧ u' = .returning ∧ Fr [rb] w w') := ⟨_, rfl⟩
  rw [← hQ]
  have HQ := Lib.hid hQ
  clear hQ
  refine wpS_seqR fun K hK => ?_
  simp [wpOpsS, go_sem, kp, z2, k2, Exit.thenS]
  apply hK
  clear hK
  refine wpS_seqR fun K hK => ?_
  simp [wpOpsS, go_sem, kp, z0, k0, Exit.thenS]
  apply hK
  clear hK
  refine wpS_seqR fun K hK => ?_
  simp [wpOpsS, go_sem, recoverD, hu, Exit.thenS]
  apply hK
  clear hK
  refine wpS_of_wp ?_
  obtain ⟨QQ, hQQ⟩ : ∃ QQ : Exit → Act → World → Prop, QQ = fun e a' w' => Q e a' (c₀ :: cs) w' := ⟨_, rfl⟩
  rw [← hQQ]
  have HQQ := Lib.hid hQQ
  clear hQQ
  have hn : ∀ w : World, (binOp .neq 20 .nilIface .nilIface).run Tryz.prog w = .ok (.bool false) w := fun w => by kernel_rfl
  go_wp2_with fail
  rw [HQQ.out, HQ.out]
  exact ⟨rfl, .returning, by rw [← hu], .tuple #[], by simp [results, Tryz.results100, go_sem], rfl, rfl, HFR.out⟩
set_option maxRecDepth 100000 in
set_option maxHeartbeats 400000 in
theorem read1_fail {w : World} {a1 a2 rb pr n c p : Nat} {A : Option Addr} (k : Int) (h : RdC w a1 a2 rb pr A n c p) :
    CallsD Tryz.prog 100 #[.pointer (some ⟨pr, 0, none⟩), .pointer (some ⟨a1, 0, none⟩), .pointer (some ⟨a2, 0, none⟩)] (.panicking [failV rb k]) w fun e u' w' => e = .returned (.tuple #[]) ∧ u' = .panicking [{ v := .iface 182 (.agg #[.pointer (some ⟨rb, 0, none⟩), .int .i64 k]), recovered := true }] ∧ Fr [rb, a1, a2] w w' ∧ w'.heap[a1]? = some (.cells #[.int .i64 (p : Int)] 3 (0, 0)) ∧ w'.heap[a2]? = some (.cells #[.int .i64 k] 38 (0, 0)) := by
  have kp : w.cell? ⟨pr, 0, none⟩ = some (.pointer (some ⟨rb, 0, none⟩)) := by rw [cellH h.hp]; rfl
  have z0 : w.frozen? ⟨rb, 0, none⟩ = false := by simp [World.frozen?, h.rc]
  have z2 : w.frozen? ⟨rb, 2, none⟩ = false := by simp [World.frozen?, h.rc]
  have hnp := h.n1.2.2.2.2.2
  have k2 : w.cell? ⟨rb, 2, none⟩ = some (.bool false) := by rw [cellH h.rc]; rfl
  have k0 : w.cell? ⟨rb, 0, none⟩ = some (.slice A n c) := by rw [cellH h.rc]; rfl
  have hfr : Fr [rb] w ((w.setCell ⟨rb, 2, none⟩ (.bool true)).setCell ⟨rb, 0, none⟩ (.slice none 0 0)) := (fr_setJ w rb 2 _).setJ (by simp) 0 _
  have HFR := Lib.hid hfr
  have H := Lib.hid h
  clear h hfr
  refine callsD_of_wpS Tryz.func100 rfl fun c₀ cs hu => ?_
  simp only [Tryz.ntmps100, List.size_toArray, List.length_cons, List.length_nil, Nat.reduceAdd, Nat.reduceSub, Array.replicate_succ, Array.replicate_zero, List.push_toArray, List.append_toArray, List.nil_append, List.cons_append]
  obtain ⟨Q, hQ⟩ : ∃ Q, Q = bodyPostS Tryz.prog Tryz.f100 c₀ cs (fun e u' w' => e = .returned (.tuple #[]) ∧ u' = .panicking [{ v := .iface 182 (.agg #[.pointer (some ⟨rb, 0, none⟩), .int .i64 k]), recovered := true }] ∧ Fr [rb, a1, a2] w w' ∧ w'.heap[a1]? = some (.cells #[.int .i64 (p : Int)] 3 (0, 0)) ∧ w'.heap[a2]? = some (.cells #[.int .i64 k] 38 (0, 0))) := ⟨_, rfl⟩
  rw [← hQ]
  have HQ := Lib.hid hQ
  clear hQ
  refine wpS_seqR fun K hK => ?_
  simp [wpOpsS, go_sem, kp, z2, k2, Exit.thenS]
  apply hK
  clear hK
  refine wpS_seqR fun K hK => ?_
  simp [wpOpsS, go_sem, kp, z0, k0, Exit.thenS]
  apply hK
  clear hK
  refine wpS_seqR fun K hK => ?_
  simp [wpOpsS, go_sem, recoverD, hu, failV, Exit.thenS]
  apply hK
  clear hK
  refine wpS_of_wp ?_
  generalize hc1 : { c₀ with mode := _ } = c₁
  have HC1 := Lib.hid hc1
  clear hc1
  obtain ⟨QQ, hQQ⟩ : ∃ QQ : Exit → Act → World → Prop, QQ = fun e a' w' => Q e a' (c₁ :: cs) w' := ⟨_, rfl⟩
  rw [← hQQ]
  have HQQ := Lib.hid hQQ
  clear hQQ
  have hcell := heap_setJ (o := 0) (heap_setJ (o := 2) H.out.rc (.bool true)) (.slice none 0 0)
  have HCell := Lib.hid hcell
  have h1 := H.out.h1
  have h2 := H.out.h2
  obtain ⟨v1, h1⟩ := h1
  obtain ⟨v2, h2⟩ := h2
  have hb1 : Fr [rb] w _ := HFR.out
  obtain ⟨n1, n2, n3, n4, n5, n6⟩ := H.out.n1
  have g1 := (HFR.out.block a1 (Array.getElem?_eq_some_iff.1 h1).1 (by simpa using n2)).trans h1
  have g2 := (HFR.out.block a2 (Array.getElem?_eq_some_iff.1 h2).1 (by simpa using n4)).trans h2
  have gp := (HFR.out.block pr (Array.getElem?_eq_some_iff.1 H.out.hp).1 (by simpa using Ne.symm n6)).trans H.out.hp
  have l1 := (Array.getElem?_eq_some_iff.1 g1).1
  have l2 := (Array.getElem?_eq_some_iff.1 g2).1
  have lr := (Array.getElem?_eq_some_iff.1 HCell.out).1
  have lp := (Array.getElem?_eq_some_iff.1 gp).1
  have HG1 := Lib.hid g1; have HG2 := Lib.hid g2; have HGp := Lib.hid gp
  clear hcell hb1 g1 g2 gp h1 h2 kp z0 z2 k2 k0
  generalize (w.setCell ⟨rb, 2, none⟩ (.bool true)).setCell ⟨rb, 0, none⟩ (.slice none 0 0) = W2 at *
  have hal : Below W2.heap.size W2 (W2.alloc (.cells #[.pointer (some ⟨rb, 0, none⟩), .int .i64 k] 182)) := (Below.refl _ _).alloc (Nat.le_refl _) _
  have HAL := Lib.hid hal
  have hg9 := heap_alloc_new W2 (.cells #[.pointer (some ⟨rb, 0, none⟩), .int .i64 k] 182)
  have HG9 := Lib.hid hg9
  clear hal hg9
  have kp : W2.cell? ⟨pr, 0, none⟩ = some (.pointer (some ⟨rb, 0, none⟩)) := by rw [cellH HGp.out]; rfl
  have hlp : pr ≠ W2.heap.size := by omega
  have hl1 : a1 ≠ W2.heap.size := by omega
  have hl2 : a2 ≠ W2.heap.size := by omega
  have hlr : rb ≠ W2.heap.size := by omega
  have hta : ∀ (v : Value) (w : World), (Instr.typeAssert (.iface 182 v) 20 182 true).run Tryz.prog w = .ok (.tuple #[v, .bool true]) w := fun v w => by kernel_rfl
  have hne : ∀ (w : World), (binOp .neq 178 (.pointer (some ⟨rb, 0, none⟩)) (.pointer (some ⟨rb, 0, none⟩))).run Tryz.prog w = .ok (.bool false) w := fun w => by
    obtain ⟨j, hj⟩ : ∃ j, Tryz.prog.info? 180 = some j := Option.isSome_iff_exists.1 (by kernel_rfl)
    exact Lib.run_neq_ptr_same w ⟨rb, 0, none⟩ Tryz.underlying178 hj
  go_upto_region 5 with fail
  generalize hfb : W2.heap.size = fb at *
  have HFB := Lib.hid hfb
  clear hfb
  have HA := Lib.hid (show Fr [rb] W2 (W2.alloc (.cells #[.pointer (some ⟨rb, 0, none⟩), .int .i64 k] 182)) from Fr.of_below (by rw [HFB.out]; exact HAL.out))
  have j1 := (HA.out.block a1 (by rw [HFB.out]; exact l1) (by simpa using n2)).trans HG1.out
  have j2 := (HA.out.block a2 (by rw [HFB.out]; exact l2) (by simpa using n4)).trans HG2.out
  have jp := (HA.out.block pr (by rw [HFB.out]; exact lp) (by simpa using Ne.symm n6)).trans HGp.out
  have jr := (HAL.out.block rb lr).trans HCell.out
  have J1 := Lib.hid j1; have J2 := Lib.hid j2
  generalize W2.alloc (.cells #[.pointer (some ⟨rb, 0, none⟩), .int .i64 k] 182) = W3 at *
  have kp3 : W3.cell? ⟨pr, 0, none⟩ = some (.pointer (some ⟨rb, 0, none⟩)) := by rw [cellH jp]; rfl
  have kf0 : W3.cell? ⟨fb, 0, none⟩ = some (.pointer (some ⟨rb, 0, none⟩)) := by rw [cellH HG9.out]; rfl
  have kf1 : W3.cell? ⟨fb, 1, none⟩ = some (.int .i64 k) := by rw [cellH HG9.out]; rfl
  have k1 : W3.cell? ⟨rb, 1, none⟩ = some (.int .i64 (p : Int)) := by rw [cellH jr]; rfl
  have e1 : W3.cell? ⟨a1, 0, none⟩ = some (.int .i64 v1) := by rw [cellH j1]; rfl
  have e2 : W3.cell? ⟨a2, 0, none⟩ = some (.int .i64 v2) := by rw [cellH j2]; rfl
  have z1 : W3.frozen? ⟨a1, 0, none⟩ = false := by simp [World.frozen?, j1]
  have z2 : W3.frozen? ⟨a2, 0, none⟩ = false := by simp [World.frozen?, j2]
  clear kp jp jr j1 j2
  go_wp2_with fail
  go_region
  go_wp2_with fail
  rw [HQQ.out, HQ.out]
  have hm1 := heap_setJ (o := 0) J1.out (.int .i64 (p : Int))
  have hm1' := (heap_otherJ (W3.setCell ⟨a1, 0, none⟩ (.int .i64 (p : Int))) a2 0 (.int .i64 k) n1).trans hm1
  have hm2 := heap_setJ (o := 0) ((heap_otherJ W3 a1 0 (.int .i64 (p : Int)) (Ne.symm n1)).trans J2.out) (.int .i64 k)
  have hf3 : Fr [rb, a1, a2] w W3 := by
    have := HFR.out.trans HA.out (fun g hg => .inl hg)
    exact ⟨this.os, this.tape, this.output, this.size, fun g hg hn => this.block g hg (by simp at hn ⊢; exact hn.1)⟩
  have hf4 := (hf3.setJ (b := a1) (by simp) 0 (.int .i64 (p : Int))).setJ (b := a2) (by simp) 0 (.int .i64 k)
  exact ⟨rfl, _, by rw [← HC1.out], .tuple #[], by simp [results, Tryz.results100, go_sem], rfl, rfl, ⟨hf4.os, hf4.tape, hf4.output, hf4.size, hf4.block⟩, hm1', hm2⟩
/-- how a call of Read ends -/
def ReadOut {α : Type} (x : PR α) (P : World → α → World → Prop) (R : World → World → Prop) (xb : List Nat) (w : World) (e : Ending) (w' : World) : Prop :=
  Fr xb w w' ∧ ∃ W, Below w.heap.size w W ∧ match x with
  | .ok (v, q) => e = .returned (.tuple #[.int .i64 (q : Int), .int .i64 0]) ∧ P W v w'
  | .error (q, k) => e = .returned (.tuple #[.int .i64 (q : Int), .int .i64 k]) ∧ R W w'
theorem rdc_new {w : World} {n c : Nat} {A : Option Addr} {l : Bs} (hs : Sl w w.heap.size enc8 1 A n l) (hn : n ≤ 1048576) (hc : n ≤ c) (hA : A = none → n = 0 ∧ c = 0) :
    ∃ W, W = ((((w.alloc (.cells #[.int .i64 0] 3)).alloc (.cells #[.int .i64 0] 38)).alloc (.cells #[.slice A n c, .int .i64 0, .bool false] 180)).alloc (.cells #[.pointer (some ⟨w.heap.size + 1 + 1, 0, none⟩)] 178)) ∧
      RdC W w.heap.size (w.heap.size + 1) (w.heap.size + 1 + 1) (w.heap.size + 1 + 1 + 1) A n c 0 ∧ Below w.heap.size w W ∧ W.heap.size = w.heap.size + 4 ∧ Rd W (w.heap.size + 1 + 1) A n c l 0 := by
  refine ⟨_, rfl, ?_⟩
  have g1 := heap_alloc_new w (.cells #[.int .i64 0] 3)
  have b1 : Below w.heap.size w _ := (Below.refl _ w).alloc (Nat.le_refl _) (.cells #[.int .i64 0] 3)
  have s1 : (w.alloc (.cells #[.int .i64 0] 3)).heap.size = w.heap.size + 1 := by simp
  generalize w.alloc (.cells #[.int .i64 0] 3) = w1 at *
  have g2 := heap_alloc_new w1 (.cells #[.int .i64 0] 38)
  have b2 : Below w1.heap.size w1 _ := (Below.refl _ w1).alloc (Nat.le_refl _) (.cells #[.int .i64 0] 38)
  have s2 : (w1.alloc (.cells #[.int .i64 0] 38)).heap.size = w1.heap.size + 1 := by simp
  generalize w1.alloc (.cells #[.int .i64 0] 38) = w2 at *
  have g3 := heap_alloc_new w2 (.cells #[.slice A n c, .int .i64 0, .bool false] 180)
  have b3 : Below w2.heap.size w2 _ := (Below.refl _ w2).alloc (Nat.le_refl _) (.cells #[.slice A n c, .int .i64 0, .bool false] 180)
  have s3 : (w2.alloc (.cells #[.slice A n c, .int .i64 0, .bool false] 180)).heap.size = w2.heap.size + 1 := by simp
  generalize w2.alloc (.cells #[.slice A n c, .int .i64 0, .bool false] 180) = w3 at *
  have g4 := heap_alloc_new w3 (.cells #[.pointer (some ⟨w.heap.size + 1 + 1, 0, none⟩)] 178)
  have b4 : Below w3.heap.size w3 _ := (Below.refl _ w3).alloc (Nat.le_refl _) (.cells #[.pointer (some ⟨w.heap.size + 1 + 1, 0, none⟩)] 178)
  have s4 : (w3.alloc (.cells #[.pointer (some ⟨w.heap.size + 1 + 1, 0, none⟩)] 178)).heap.size = w3.heap.size + 1 := by simp
  generalize w3.alloc (.cells #[.pointer (some ⟨w.heap.size + 1 + 1, 0, none⟩)] 178) = w4 at *
  have e1 := (b4.block _ (by omega)).trans ((b3.block _ (by omega)).trans ((b2.block w.heap.size (by omega)).trans g1))
  have e2 := (b4.block _ (by omega)).trans ((b3.block w1.heap.size (by omega)).trans g2)
  have e3 := (b4.block w2.heap.size (by omega)).trans g3
  rw [s2, s1] at e3
  rw [s1] at e2
  rw [s3, s2, s1] at g4
  have hb : Below w.heap.size w w4 := ((b1.trans (b2.mono (by omega))).trans (b3.mono (by omega))).trans (b4.mono (by omega))
  exact ⟨⟨⟨0, e1⟩, ⟨0, e2⟩, e3, g4, by omega⟩, hb, by omega, ⟨e3, hs.belowMore hb (by omega), Nat.zero_le _, hn, hc, hA⟩⟩
theorem RdC.fr {w w1 W : World} {n c q : Nat} {A : Option Addr} {xb : List Nat} (h : RdC W w.heap.size (w.heap.size + 1) (w.heap.size + 1 + 1) (w.heap.size + 1 + 1 + 1) A n c 0) (_hx : ∀ g ∈ xb, g < w.heap.size) (hf : Fr ((w.heap.size + 1 + 1) :: xb) W w1) (hr : w1.heap[w.heap.size + 1 + 1]? = some (.cells #[.slice A n c, .int .i64 (q : Int), .bool false] 180 (0, 0))) : RdC w1 w.heap.size (w.heap.size + 1) (w.heap.size + 1 + 1) (w.heap.size + 1 + 1 + 1) A n c q := by
  have hk : ∀ g, w.heap.size ≤ g → g ≠ w.heap.size + 1 + 1 → g ∉ ((w.heap.size + 1 + 1) :: xb) := fun g h1 h2 hm => by
    rcases List.mem_cons.1 hm with e | e
    · exact h2 e
    · have := _hx g e; omega
  obtain ⟨⟨v1, h1⟩, ⟨v2, h2⟩, _, hp, n1⟩ := h
  exact ⟨⟨v1, (hf.block _ (Array.getElem?_eq_some_iff.1 h1).1 (hk _ (by omega) (by omega))).trans h1⟩, ⟨v2, (hf.block _ (Array.getElem?_eq_some_iff.1 h2).1 (hk _ (by omega) (by omega))).trans h2⟩, hr, (hf.block _ (Array.getElem?_eq_some_iff.1 hp).1 (hk _ (by omega) (by omega))).trans hp, n1⟩
theorem rdc_set {w1 : World} {a1 a2 rb pr n c p : Nat} {A : Option Addr} {q : Int} (h : RdC w1 a1 a2 rb pr A n c p) : RdC ((w1.setCell ⟨a1, 0, none⟩ (.int .i64 q)).setCell ⟨a2, 0, none⟩ (.int .i64 0)) a1 a2 rb pr A n c p ∧ Fr [a1, a2] w1 ((w1.setCell ⟨a1, 0, none⟩ (.int .i64 q)).setCell ⟨a2, 0, none⟩ (.int .i64 0)) ∧
    ((w1.setCell ⟨a1, 0, none⟩ (.int .i64 q)).setCell ⟨a2, 0, none⟩ (.int .i64 0)).heap[a1]? = some (.cells #[.int .i64 q] 3 (0, 0)) ∧ ((w1.setCell ⟨a1, 0, none⟩ (.int .i64 q)).setCell ⟨a2, 0, none⟩ (.int .i64 0)).heap[a2]? = some (.cells #[.int .i64 0] 38 (0, 0)) := by
  obtain ⟨⟨v1, h1⟩, ⟨v2, h2⟩, hr, hp, n1, n2, n3, n4, n5, n6⟩ := h
  have g1 := heap_setJ (o := 0) h1 (.int .i64 q)
  have g1' := (heap_otherJ (w1.setCell ⟨a1, 0, none⟩ (.int .i64 q)) a2 0 (.int .i64 0) n1).trans g1
  have g2 := heap_setJ (o := 0) ((heap_otherJ w1 a1 0 (.int .i64 q) (Ne.symm n1)).trans h2) (.int .i64 0)
  have hf : Fr [a1, a2] w1 ((w1.setCell ⟨a1, 0, none⟩ (.int .i64 q)).setCell ⟨a2, 0, none⟩ (.int .i64 0)) := by
    have h0 : Fr [a1, a2] w1 (w1.setCell ⟨a1, 0, none⟩ (.int .i64 q)) := (Fr.refl [a1, a2] w1).setJ (by simp) 0 _
    exact h0.setJ (by simp) 0 _
  have hp' := (hf.block pr (Array.getElem?_eq_some_iff.1 hp).1 (by simp; omega)).trans hp
  have hr' := (hf.block rb (Array.getElem?_eq_some_iff.1 hr).1 (by simp; omega)).trans hr
  exact ⟨⟨⟨_, g1'⟩, ⟨_, g2⟩, hr', hp', n1, n2, n3, n4, n5, n6⟩, hf, g1', g2⟩
theorem read_fr {w w1 w2 W : World} {xb own : List Nat} {rb : Nat} (hB : Below w.heap.size w W) (hf : Fr (rb :: xb) W w1) (hf2 : Fr own w1 w2) (ho : ∀ g ∈ rb :: own, w.heap.size ≤ g) : Fr xb w w2 := by
  have h1 : Fr xb w w1 := ⟨hf.os.trans hB.os, hf.tape.trans hB.tape, hf.output.trans hB.output, Nat.le_trans hB.size hf.size, fun g hg hn => (hf.block g (Nat.lt_of_lt_of_le hg hB.size) (by
    intro hm
    rcases List.mem_cons.1 hm with e | e
    · have := ho rb (by simp); omega
    · exact hn e)).trans (hB.block g hg)⟩
  exact h1.trans hf2 fun g hg => .inr (ho g (by simp [hg]))
set_option maxRecDepth 100000 in
set_option maxHeartbeats 400000 in
theorem read_any {α : Type} {w : World} {n c : Nat} {A : Option Addr} {l : Bs} (x : PR α) (P : World → α → World → Prop) (R : World → World → Prop) (xb : List Nat) (F : Nat) (first cap : Array Value)
    (hs : Sl w w.heap.size enc8 1 A n l) (hn : n ≤ 1048576) (hc : n ≤ c) (hA : A = none → n = 0 ∧ c = 0) (hE : ∀ (args : Array Value) (w : World), (callFunc F args).run Tryz.prog w = .ok (.enter F args) w) (hxb : ∀ g ∈ xb, g < w.heap.size)
    (hP : ∀ W v w1 w2 own, P W v w1 → Fr own w1 w2 → (∀ g ∈ own, w.heap.size ≤ g ∧ g < W.heap.size) → P W v w2) (hR : ∀ W w1 w2 own, R W w1 → Fr own w1 w2 → (∀ g ∈ own, w.heap.size ≤ g ∧ g < W.heap.size) → R W w2)
    (hdo : ∀ W rb, Below w.heap.size w W → w.heap.size ≤ rb → Rd W rb A n c l 0 → Calls Tryz.prog F (first.push (.pointer (some ⟨rb, 0, none⟩)) ++ cap) W fun e w' => Fr (rb :: xb) W w' ∧ match x with
      | .ok (v, q) => e = .returned (.tuple #[]) ∧ P W v w' ∧ w'.heap[rb]? = some (.cells #[.slice A n c, .int .i64 (q : Int), .bool false] 180 (0, 0))
      | .error (q, k) => e = .panicked [failV rb k] ∧ R W w' ∧ w'.heap[rb]? = some (.cells #[.slice A n c, .int .i64 (q : Int), .bool false] 180 (0, 0))) :
    Calls Tryz.prog 51 #[.slice A n c, .func (.func F) first cap] w (ReadOut x P R xb w) := by
  have hq : ∀ w : World, (binOp .eql 118 (.func (.func F) first cap) .nilFunc).run Tryz.prog w = .ok (.bool false) w := fun w => by kernel_rfl
  have hmf : ∀ (fn : Fn) (first cap : Array Value) (w : World), (Instr.makeFunc fn first cap).run Tryz.prog w = .ok (.func fn first cap) w := fun _ _ _ _ => rfl
  obtain ⟨W, hW, hC, hB, hZ, hRd⟩ := rdc_new hs hn hc hA
  have HW := Lib.hid hW; have HC := Lib.hid hC; have HB := Lib.hid hB; have HZ := Lib.hid hZ; have HXB := Lib.hid hxb
  have HD := Lib.hid (hdo W (w.heap.size + 1 + 1) hB (by omega) hRd)
  have HP := Lib.hid hP; have HR := Lib.hid hR
  clear hW hC hB hZ hRd hxb hdo hP hR hs hA
  go_enter_defers Tryz.func51, Tryz.ntmps51
  go_wp2_with fail
  rw [← HW.out]
  rcases x with ⟨q, k⟩ | ⟨v, q⟩
  · refine HD.out.mono ?_
    rintro e w1 ⟨hf, rfl, hR1, hrd⟩
    have hC1 := HC.out.fr HXB.out hf hrd
    refine leaves_cons (f := 100) (args := #[.pointer (some ⟨w.heap.size + 1 + 1 + 1, 0, none⟩), .pointer (some ⟨w.heap.size, 0, none⟩), .pointer (some ⟨w.heap.size + 1, 0, none⟩)]) (by simp) (by simp [go_sem]) ?_
    refine (read1_fail k hC1).mono ?_
    rintro e u' w2 ⟨rfl, rfl, hf2, g1, g2⟩
    have y1 : w2.cell? ⟨w.heap.size, 0, none⟩ = some (.int .i64 (q : Int)) := by rw [cellH g1]; rfl
    have y2 : w2.cell? ⟨w.heap.size + 1, 0, none⟩ = some (.int .i64 k) := by rw [cellH g2]; rfl
    have HF := Lib.hid (show ReadOut (Except.error (q, k)) P R xb w (.returned (.tuple #[.int .i64 (q : Int), .int .i64 k])) w2 from
      ⟨read_fr HB.out hf hf2 (fun g hg => by simp at hg; omega), W, HB.out, rfl, HR.out _ _ _ _ hR1 hf2 (fun g hg => by rw [HZ.out]; simp at hg; omega)⟩)
    clear hR1 hrd hC1 hf hf2 g1 g2
    simp [Leaves, settle, results, Tryz.results51, go_sem, y1, y2]
    exact HF.out
  · refine HD.out.mono ?_
    rintro e w1 ⟨hf, rfl, hP1, hrd⟩
    have hC1 := HC.out.fr HXB.out hf hrd
    obtain ⟨v1, h1⟩ := hC1.h1
    obtain ⟨v2, h2⟩ := hC1.h2
    have e1 : w1.cell? ⟨w.heap.size, 0, none⟩ = some (.int .i64 v1) := by rw [cellH h1]; rfl
    have e2 : w1.cell? ⟨w.heap.size + 1, 0, none⟩ = some (.int .i64 v2) := by rw [cellH h2]; rfl
    have z1 : w1.frozen? ⟨w.heap.size, 0, none⟩ = false := by simp [World.frozen?, h1]
    have z2 : w1.frozen? ⟨w.heap.size + 1, 0, none⟩ = false := by simp [World.frozen?, h2]
    have kp : w1.cell? ⟨w.heap.size + 1 + 1 + 1, 0, none⟩ = some (.pointer (some ⟨w.heap.size + 1 + 1, 0, none⟩)) := by rw [cellH hC1.hp]; rfl
    have kq : w1.cell? ⟨w.heap.size + 1 + 1, 1, none⟩ = some (.int .i64 (q : Int)) := by rw [cellH hrd]; rfl
    have hr2 := rdc_set hC1 (q := (q : Int))
    have HR2 := Lib.hid hr2
    have HF1 := Lib.hid hf; have HP1 := Lib.hid hP1
    clear hf hP1 hrd hC1 h1 h2 hr2
    dsimp only
    go_wp2_with fail
    generalize (w1.setCell ⟨w.heap.size, 0, none⟩ (.int .i64 (q : Int))).setCell ⟨w.heap.size + 1, 0, none⟩ (.int .i64 0) = w3 at *
    obtain ⟨hC3, hf3, i1, i2⟩ := HR2.out
    refine leaves_cons (f := 100) (args := #[.pointer (some ⟨w.heap.size + 1 + 1 + 1, 0, none⟩), .pointer (some ⟨w.heap.size, 0, none⟩), .pointer (some ⟨w.heap.size + 1, 0, none⟩)]) (by simp) (by simp [go_sem]) ?_
    refine (read1_ok hC3).mono ?_
    rintro e u' w4 ⟨rfl, rfl, hf4⟩
    have i1' := (hf4.block _ (Array.getElem?_eq_some_iff.1 i1).1 (by simp; omega)).trans i1
    have i2' := (hf4.block _ (Array.getElem?_eq_some_iff.1 i2).1 (by simp)).trans i2
    have y1 : w4.cell? ⟨w.heap.size, 0, none⟩ = some (.int .i64 (q : Int)) := by rw [cellH i1']; rfl
    have y2 : w4.cell? ⟨w.heap.size + 1, 0, none⟩ = some (.int .i64 0) := by rw [cellH i2']; rfl
    have hf5 : Fr [w.heap.size, w.heap.size + 1, w.heap.size + 1 + 1] w1 w4 := by
      have a1 : Fr [w.heap.size, w.heap.size + 1, w.heap.size + 1 + 1] w1 w3 := ⟨hf3.os, hf3.tape, hf3.output, hf3.size, fun g hg hn => hf3.block g hg (fun hm => hn (by simp at hm ⊢; omega))⟩
      exact a1.trans hf4 (fun g hg => .inl (by simp at hg ⊢; omega))
    have HF := Lib.hid (show ReadOut (Except.ok (v, q)) P R xb w (.returned (.tuple #[.int .i64 (q : Int), .int .i64 0])) w4 from
      ⟨read_fr HB.out HF1.out hf5 (fun g hg => by simp at hg; omega), W, HB.out, rfl, HP.out _ _ _ _ _ HP1.out hf5 (fun g hg => by rw [HZ.out]; simp at hg; omega)⟩)
    clear hC3 hf3 i1 i2 hf4 i1' i2' hf5 e1 e2 z1 z2 kp kq
    simp [Leaves, settle, results, Tryz.results51, go_sem, y1, y2]
    exact HF.out
end Go.Proofs.YtbpmmmnphpkdjaaGreatDoor
