/- The walks of the document's New and Weighted. Condition: at most 2^20 voters. -/
import Derived.Test.YtbpmmmnphpkdjaaGreatDoorWRqD
import Derived.Test.YtbpmmmnphpkdjaaGreatDoorWWgt
import Derived.Test.YtbpmmmnphpkdjaaGreatDoorWVtq
import Derived.Test.YtbpmmmnphpkdjaaGreatDoorWRfD
import Derived.Test.YtbpmmmnphpkdjaaGreatDoorWRfM
import Derived.Test.YtbpmmmnphpkdjaaGreatDoorWVtr
import Derived.Test.YtbpmmmnphpkdjaaGreatDoorWRfE
namespace Go.Proofs.YtbpmmmnphpkdjaaGreatDoor
set_option linter.unusedSimpArgs false
set_option maxRecDepth 100000
set_option maxHeartbeats 20000000
open Go.RowKit Go.MapKept Go.Maps
/-- a queue of the document's whose parts are laid -/
theorem RqAt.laid {w : World} {lo br gv B E k cv : Nat} {Av : Option Addr} {l : List VtV} {bound : Int} (hl : l.length = k)
  (hbx : w.heap[br]? = some (.cells #[.int .i64 bound, .slice Av k cv, .slice (some ⟨gv, 0, none⟩) k k, .slice none 0 0, .int .i64 0, .int .i64 0] 92 (0, 0)))
  (hvs : SlR w (fun b => B ≤ b ∧ b < E) encVt 2 (Av, k, cv) l) (hga : w.heap[gv]? = some (.cells (madeCells #[.int .i64 0] k) 2 (0, 0))) (h1 : gv < B ∨ E ≤ gv) (h2 : E ≤ br) (h3 : gv ≠ br) (hB : lo ≤ B) (hg : lo ≤ gv) (hb : lo ≤ br) (hE : E ≤ w.heap.size) :
  RqAt w lo br ⟨none, 0, (Av, k, cv), gv, []⟩ (fun b => B ≤ b ∧ b < E) (newW bound l) := by
 have hz : (newW bound l).acked = List.replicate k 0 := by simp [newW, hl]
 refine ⟨?_, hvs, ?_, SlR.nil_, fun j hj => absurd hj (by simp [newW]), ⟨fun e => h3 e.symm, ?_, ?_⟩, ⟨hb, hg, fun b h => Nat.le_trans hB h.1⟩, fun b h => Nat.lt_of_lt_of_le h.2 hE⟩
 ·rw [hbx, hz]; simp [newW, slV]
 ·show w.heap[gv]? = _
  rw [hga, hz]
  have e : madeCells #[.int .i64 0] k = ((List.replicate k (0 : Int)).map (Value.int .i64)).toArray := by
   apply Array.ext (by rw [size_madeCells]; simp)
   intro i h1 h2
   have h3 : i < k := by simpa using h2
   have := qke k i h3
   rw [Nat.mul_one] at this
   have h4 := (Array.getElem?_eq_some_iff.1 this).2
   rw [show (madeCells #[.int .i64 0] k)[i] = Value.int .i64 0 from h4]
   simp
  rw [e]
 ·rintro ⟨_, (h : br < E)⟩; omega
 ·rintro ⟨(_ : B ≤ gv), (_ : gv < E)⟩; omega
/-- what New leaves -/
def qoT (lo : Nat) (st : QuT) (w : World) (e : Ending) (w' : World) : Prop :=
 (∃ br y Q, e = .returned (.tuple #[.pointer (some ⟨br, 0, none⟩), .int .i64 0]) ∧ RqAt w' lo br y Q st ∧ w.heap.size ≤ br ∧ w.heap.size ≤ y.gv ∧ ∀ b, Q b → w.heap.size ≤ b) ∧ Below w.heap.size w w'
theorem qgj (bound : Int) (A : Option Addr) (n c : Nat) (l : List VtV) (w : World) (hz : Sl w w.heap.size encVt 2 A n l) (hn : n ≤ 1048576) (h : fitB l = false ∨ bound < 0 ∨ 4096 < bound) :
  Calls Tryz.prog 40 #[.int .i64 bound, .slice A n c] w (qnd w) := by
 have HF := Lib.hid (qec A n c l w hz hn)
 clear hz
 by_cases h1 : bound < 0
 ·have b1 : decide (bound < 0) = true := decide_eq_true h1
  clear h h1
  go_enter Tryz.func40, Tryz.ntmps40
  go_wp2_with fail
  go_ret2
  exact ⟨rfl, Below.refl _ _⟩
 ·have b1 : decide (bound < 0) = false := decide_eq_false h1
  by_cases h2 : 4096 < bound
  ·have b2 : decide (4096 < bound) = true := decide_eq_true h2
   clear h h1 h2
   go_enter Tryz.func40, Tryz.ntmps40
   go_wp2_with fail
   go_ret2
   exact ⟨rfl, Below.refl _ _⟩
  ·have b2 : decide (4096 < bound) = false := decide_eq_false h2
   have hf : fitB l = false := by rcases h with h | h | h <;> first | exact h | omega
   rw [hf] at HF
   clear h h1 h2
   go_enter Tryz.func40, Tryz.ntmps40
   go_wp2_with fail
   refine HF.out.mono ?_
   rintro e w ⟨rfl, rfl⟩
   go_wp2_with fail
   go_ret2
   exact ⟨rfl, Below.refl _ _⟩
theorem qgh (lo : Nat) (bound : Int) (A : Option Addr) (n c : Nat) (l : List VtV) (w : World) (hlo : lo ≤ w.heap.size) (hz : Sl w w.heap.size encVt 2 A n l) (hA : A = none → n = 0 ∧ c = 0) (hf : fitB l = true) (h1 : 0 ≤ bound) (h2 : bound ≤ 4096) :
  Calls Tryz.prog 40 #[.int .i64 bound, .slice A n c] w (qoT lo (newW bound l) w) := by
 have hn9 : n ≤ 9 := by have := qdP hf; rw [hz.len] at this; exact this
 have HF := Lib.hid (qec A n c l w hz (by omega))
 rw [hf] at HF
 have HLN := Lib.hid hz.len
 have b1 : decide (bound < 0) = false := decide_eq_false (by omega)
 have b2 : decide (4096 < bound) = false := decide_eq_false (by omega)
 obtain ⟨a0, rfl⟩ : ∃ a0, A = some a0 := by
  cases A with
  | some a => exact ⟨a, rfl⟩
  | none =>
   have h0 := (hA rfl).1
   have : l = [] := List.length_eq_zero_iff.1 (by rw [hz.len, h0])
   rw [this] at hf; cases hf
 have HN0 := Lib.hid (show 0 < n from by
  rcases Nat.eq_zero_or_pos n with h0 | h0
  ·have : l = [] := List.length_eq_zero_iff.1 (by rw [hz.len, h0])
   rw [this] at hf; cases hf
  ·exact h0)
 have HZ := Lib.hid hz; have HLO := Lib.hid hlo
 clear h1 h2 hz hA hf hlo
 go_enter Tryz.func40, Tryz.ntmps40
 go_wp2_with fail
 refine HF.out.mono ?_
 rintro e w ⟨rfl, rfl⟩
 have hmk := fun W => qfS Tryz.underlying75 qgr (by decide) n (by omega) W
 rw [Nat.mul_one] at hmk
 go_wp2_with fail
 have hn0 : 0 < n := by have := HN0.out; omega
 have W1 := Lib.hid (show Below w.heap.size w (w.drew.alloc (.cells #[] 130)) from ((Below.refl _ w).drew).alloc (Nat.le_refl _) _)
 have W2 := Lib.hid (show Below w.heap.size w ((w.drew.alloc (.cells #[] 130)).alloc (.cells (madeCells #[.int .i64 0] n) 2)) from (((Below.refl _ w).drew).alloc (Nat.le_refl _) _).alloc (by simp) _)
 have W3 := Lib.hid (show Below w.heap.size w ((w.drew.alloc (.cells (madeCells #[.int .i64 0] n) 2)).alloc (.cells #[] 130)) from (((Below.refl _ w).drew).alloc (Nat.le_refl _) _).alloc (by simp) _)
 have Z1 := Lib.hid (HZ.out.belowMore W1.out W1.out.size)
 have Z2 := Lib.hid (HZ.out.belowMore W2.out W2.out.size)
 have Z3 := Lib.hid (HZ.out.belowMore W3.out W3.out.size)
 go_region_law (first
  | (refine qfi qfG rfl (.tmp 18) (.tmp 19) rfl ⟨w.heap.size, 0, none⟩ (by simp [Act.eval]) a0 n c l (by simp [Act.eval]) Z1.out hn0 (by omega) ?_; intro c8 w8 hv8 hb8)
  | (refine qfi qfG rfl (.tmp 18) (.tmp 19) rfl ⟨w.heap.size, 0, none⟩ (by simp [Act.eval]) a0 n c l (by simp [Act.eval]) Z2.out hn0 (by omega) ?_; intro c8 w8 hv8 hb8)
  | (refine qfi qfG rfl (.tmp 18) (.tmp 19) rfl ⟨w.heap.size + 1, 0, none⟩ (by simp [Act.eval]) a0 n c l (by simp [Act.eval]) Z3.out hn0 (by omega) ?_; intro c8 w8 hv8 hb8))
 ·have hd : (w.alloc (.cells #[] 130)).drew.heap.size = w.heap.size + 1 := sz1 w _
  have hs2 := hb8.size
  rw [hd] at hs2 hv8
  have hlo := HLO.out
  have hvs : SlR w8 (fun b => w.heap.size + 1 ≤ b ∧ b < w8.heap.size) encVt 2 (some ⟨w.heap.size + 1, 0, none⟩, n, c8) l := (qbD hv8 (fun _ => rfl) HLN.out).more (fun b hb h => ⟨h, hb⟩) (fun _ => by simp [encVt])
  have hm : Below w8.heap.size w8 (w8.alloc (.cells (madeCells #[.int .i64 0] n) 2)) := (Below.refl _ w8).alloc (Nat.le_refl _) _
  have hg1 := qab w8 (.cells (madeCells #[.int .i64 0] n) 2)
  have hz1 := sz1 w8 (.cells (madeCells #[.int .i64 0] n) 2)
  have hvs2 := hvs.fr (R' := fun b => w.heap.size + 1 ≤ b ∧ b < w8.heap.size) (Fr.of_below (own := []) hm) (fun b _ h => ⟨by simp, h⟩) (fun _ => by simp [encVt])
  have HBB := Lib.hid (W1.out.trans ((hb8.mono (show w.heap.size ≤ _ by rw [hd]; omega)).trans (hm.mono (by omega))))
  go_wp2_with fail
  go_ret2
  generalize w8.alloc (.cells (madeCells #[.int .i64 0] n) 2) = V at *
  have hm2 : Below V.heap.size V (V.alloc (.cells #[.int .i64 bound, .slice (some ⟨w.heap.size + 1, 0, none⟩) n c8, .slice (some ⟨w8.heap.size, 0, none⟩) n n, .slice none 0 0, .int .i64 0, .int .i64 0] 92)) := (Below.refl _ V).alloc (Nat.le_refl _) _
  have hbx : (V.alloc (.cells #[.int .i64 bound, .slice (some ⟨w.heap.size + 1, 0, none⟩) n c8, .slice (some ⟨w8.heap.size, 0, none⟩) n n, .slice none 0 0, .int .i64 0, .int .i64 0] 92)).heap[w8.heap.size + 1]? = _ := heap_top' hz1
  have hga := (hm2.block w8.heap.size (by omega)).trans hg1
  have hvs3 := hvs2.fr (R' := fun b => w.heap.size + 1 ≤ b ∧ b < w8.heap.size) (Fr.of_below (own := []) hm2) (fun b _ h => ⟨by simp, h⟩) (fun _ => by simp [encVt])
  have hq := RqAt.laid (lo := lo) (bound := bound) HLN.out hbx hvs3 hga (.inr (Nat.le_refl _)) (by omega) (by omega) (by omega) (by omega) (by omega) (by have := hm2.size; omega)
  exact ⟨⟨_, _, _, rfl, hq, by omega, by show _ ≤ w8.heap.size; omega, fun b h => by have := h.1; omega⟩, HBB.out.trans (hm2.mono (by omega))⟩
 ·have hd : ((w.alloc (.cells #[] 130)).alloc (.cells (madeCells #[.int .i64 0] n) 2)).drew.heap.size = w.heap.size + 1 + 1 := sz2 w _ _
  have hs2 := hb8.size
  rw [hd] at hs2 hv8
  have hlo := HLO.out
  have hvs : SlR w8 (fun b => w.heap.size + 1 + 1 ≤ b ∧ b < w8.heap.size) encVt 2 (some ⟨w.heap.size + 1 + 1, 0, none⟩, n, c8) l := (qbD hv8 (fun _ => rfl) HLN.out).more (fun b hb h => ⟨h, hb⟩) (fun _ => by simp [encVt])
  have hg0 : ((w.alloc (.cells #[] 130)).alloc (.cells (madeCells #[.int .i64 0] n) 2)).drew.heap[w.heap.size + 1]? = some (.cells (madeCells #[.int .i64 0] n) 2 (0, 0)) := qae w _ _
  have hg1 := (hb8.block (w.heap.size + 1) (by rw [hd]; omega)).trans hg0
  have HBB := Lib.hid (W2.out.trans (hb8.mono (show w.heap.size ≤ _ by rw [hd]; omega)))
  go_wp2_with fail
  go_ret2
  have hm2 : Below w8.heap.size w8 (w8.alloc (.cells #[.int .i64 bound, .slice (some ⟨w.heap.size + 1 + 1, 0, none⟩) n c8, .slice (some ⟨w.heap.size + 1, 0, none⟩) n n, .slice none 0 0, .int .i64 0, .int .i64 0] 92)) := (Below.refl _ w8).alloc (Nat.le_refl _) _
  have hbx := qab w8 (.cells #[.int .i64 bound, .slice (some ⟨w.heap.size + 1 + 1, 0, none⟩) n c8, .slice (some ⟨w.heap.size + 1, 0, none⟩) n n, .slice none 0 0, .int .i64 0, .int .i64 0] 92)
  have hga := (hm2.block (w.heap.size + 1) (by omega)).trans hg1
  have hvs3 := hvs.fr (R' := fun b => w.heap.size + 1 + 1 ≤ b ∧ b < w8.heap.size) (Fr.of_below (own := []) hm2) (fun b _ h => ⟨by simp, h⟩) (fun _ => by simp [encVt])
  have hq := RqAt.laid (lo := lo) (bound := bound) HLN.out hbx hvs3 hga (.inl (by omega)) (Nat.le_refl _) (by omega) (by omega) (by omega) (by omega) hm2.size
  exact ⟨⟨_, _, _, rfl, hq, by omega, by show _ ≤ w.heap.size + 1; omega, fun b h => by have := h.1; omega⟩, HBB.out.trans (hm2.mono (by omega))⟩
 ·have hd : ((w.alloc (.cells (madeCells #[.int .i64 0] n) 2)).alloc (.cells #[] 130)).drew.heap.size = w.heap.size + 1 + 1 := sz2 w _ _
  have hs2 := hb8.size
  rw [hd] at hs2 hv8
  have hlo := HLO.out
  have hvs : SlR w8 (fun b => w.heap.size + 1 + 1 ≤ b ∧ b < w8.heap.size) encVt 2 (some ⟨w.heap.size + 1 + 1, 0, none⟩, n, c8) l := (qbD hv8 (fun _ => rfl) HLN.out).more (fun b hb h => ⟨h, hb⟩) (fun _ => by simp [encVt])
  have hg0 : ((w.alloc (.cells (madeCells #[.int .i64 0] n) 2)).alloc (.cells #[] 130)).drew.heap[w.heap.size]? = some (.cells (madeCells #[.int .i64 0] n) 2 (0, 0)) := qaa (qab w _)
  have hg1 := (hb8.block (w.heap.size) (by rw [hd]; omega)).trans hg0
  have HBB := Lib.hid (W3.out.trans (hb8.mono (show w.heap.size ≤ _ by rw [hd]; omega)))
  go_wp2_with fail
  go_ret2
  have hm2 : Below w8.heap.size w8 (w8.alloc (.cells #[.int .i64 bound, .slice (some ⟨w.heap.size + 1 + 1, 0, none⟩) n c8, .slice (some ⟨w.heap.size, 0, none⟩) n n, .slice none 0 0, .int .i64 0, .int .i64 0] 92)) := (Below.refl _ w8).alloc (Nat.le_refl _) _
  have hbx := qab w8 (.cells #[.int .i64 bound, .slice (some ⟨w.heap.size + 1 + 1, 0, none⟩) n c8, .slice (some ⟨w.heap.size, 0, none⟩) n n, .slice none 0 0, .int .i64 0, .int .i64 0] 92)
  have hga := (hm2.block (w.heap.size) (by omega)).trans hg1
  have hvs3 := hvs.fr (R' := fun b => w.heap.size + 1 + 1 ≤ b ∧ b < w8.heap.size) (Fr.of_below (own := []) hm2) (fun b _ h => ⟨by simp, h⟩) (fun _ => by simp [encVt])
  have hq := RqAt.laid (lo := lo) (bound := bound) HLN.out hbx hvs3 hga (.inl (by omega)) (Nat.le_refl _) (by omega) (by omega) (by omega) (by omega) hm2.size
  exact ⟨⟨_, _, _, rfl, hq, by omega, by show _ ≤ w.heap.size; omega, fun b h => by have := h.1; omega⟩, HBB.out.trans (hm2.mono (by omega))⟩
open Go.RowKit Go.MapKept Go.Maps
theorem bd94 : Tryz.prog.built 94 [] = some rzPr := by kernel_rfl
theorem qdd {ops : Array Oper} {rest : List Oper} {o : Oper} {a : Act} {w : World} {Q : Exit → Act → World → Prop} (hg : o.guard = none) (ho : o.op = .build 94 #[]) (h : wpList Tryz.prog ops Q rest (a.put o.dst (.agg rzPr)) w) : wpList Tryz.prog ops Q (o :: rest) a w := by
 have e : Tryz.prog.built 94 ((#[] : Array (Nat × Operand)).map fun (i, x) => (i, a.eval x)).toList = some rzPr := by
  simpa using bd94
 refine wpList_build hg 94 #[] ho (by rw [e]; rfl) ?_
 rw [e]
 exact h
theorem qin (A : Option Addr) (n c : Nat) (hk : 0 < n) (w : World) : (Instr.sliceAt 90 (.slice A n c) (some (.int .i64 1)) none none).run Tryz.prog w = .ok (.slice (if c = 1 then A else A.map (·.add 45)) (n - 1) (c - 1)) w := by
 have h0 : (1 : Int) ≤ ↑n := by omega
 go_simp
/-- a row without its first one -/
theorem SlR.tail {α : Type} [Inhabited α] {w : World} {Q : Nat → Prop} {enc : α → List Value} {k b off n c : Nat} {l : List α} (H : SlR w Q enc k (some ⟨b, off, none⟩, n, c) l) (hn : 0 < n) : SlR w Q enc k ((if c = 1 then some ⟨b, off, none⟩ else (some (⟨b, off, none⟩ : Addr)).map (·.add k)), n - 1, c - 1) l.tail := by
 have hl : l.length = n := H.len
 have hnc : n ≤ c := H.hd.2
 refine ⟨by show l.tail.length = n - 1; rw [List.length_tail, hl], ⟨?_, by show n - 1 ≤ c - 1; omega⟩, fun h0 => ?_⟩
 ·show (if c = 1 then _ else _) = none → _
  split
  ·intro h; cases h
  ·intro h; cases h
 ·have h1 : 0 < n - 1 := h0
  obtain ⟨b', off', e, hb, hc⟩ := H.2.2 hn
  injection e with e; injection e with e1 e2; subst e1; subst e2
  refine ⟨b, off + k, ?_, hb, fun i hi a u hu => ?_⟩
  ·show (if c = 1 then _ else _) = _
   rw [if_neg (by omega)]
   show some ((⟨b, off, none⟩ : Addr).add k) = _
   rw [Addr.add_lit]
  ·have hi' : i < n - 1 := hi
   have e1 : l.tail[i]! = l[i + 1]! := by
    rw [getElem!_pos l.tail i (by rw [List.length_tail]; omega), getElem!_pos l (i + 1) (by omega), List.getElem_tail]
   rw [e1] at hu
   have := hc (i + 1) (by show i + 1 < n; omega) a u hu
   rw [show off + k + i * k + a = off + (i + 1) * k + a by rw [Nat.add_mul, Nat.one_mul]; omega]
   exact this
theorem qhG {α : Type} [Inhabited α] (l : List α) (i : Nat) (h : i + 1 < l.length) : l.tail[i]! = l[i + 1]! := by
 rw [getElem!_pos l.tail i (by rw [List.length_tail]; omega), getElem!_pos l (i + 1) h, List.getElem_tail]
section
variable {w w' : World} {lo br : Nat} {y : RqX} {Q : Nat → Prop} {st : QuT}
/-- the first one is gone -/
theorem RqAt.popped (H : RqAt w lo br y Q st) (h0 : 0 < st.L.length) {b off : Nat} (e : y.A = some ⟨b, off, none⟩) : RqAt ((w.setCell ⟨br, 3, none⟩ (.slice (if y.c = 1 then some ⟨b, off, none⟩ else (some (⟨b, off, none⟩ : Addr)).map (·.add 45)) (st.L.length - 1) (y.c - 1))).setCell ⟨br, 5, none⟩ (.int .i64 st.L[0]!.d.zx)) lo br { y with A := (if y.c = 1 then some ⟨b, off, none⟩ else (some (⟨b, off, none⟩ : Addr)).map (·.add 45)), c := y.c - 1, Hs := y.Hs.tail } Q (qcc st) := by
 have hf : Fr [br] w ((w.setCell ⟨br, 3, none⟩ (.slice (if y.c = 1 then some ⟨b, off, none⟩ else (some (⟨b, off, none⟩ : Addr)).map (·.add 45)) (st.L.length - 1) (y.c - 1))).setCell ⟨br, 5, none⟩ (.int .i64 st.L[0]!.d.zx)) := (qaE w br 3 _).trans (qaE _ br 5 _) (by simp)
 have hQ : ∀ b, Q b → b ∉ [br] := fun b hb => by rw [List.mem_singleton]; rintro rfl; exact H.ne.2.1 hb
 have hlt : (qcc st).L.length = st.L.length - 1 := by simp [qcc]
 have hr := H.row
 rw [e] at hr
 refine ⟨(qaZ (qaZ H.box _) _).trans (by rw [show (qcc st).L.length = st.L.length - 1 from hlt]; simp [qcc]), H.who.fr hf (fun b _ hb => ⟨hQ b hb, hb⟩) (fun _ => by simp [encVt]), (hf.block _ H.vl (by rw [List.mem_singleton]; exact fun e => H.ne.1 e.symm)).trans H.vot, ?_, ?_, H.ne, H.ge, fun b hb => Nat.lt_of_lt_of_le (H.lt b hb) hf.size⟩
 ·rw [hlt]
  exact (hr.tail h0).fr hf (fun b _ hb => ⟨hQ b hb, hb⟩) (fun _ => by rw [qbB]; decide)
 ·intro j hj
  rw [hlt] at hj
  have hHl : y.Hs.length = st.L.length := H.row.len
  show PrAt _ _ y.Hs.tail[j]! st.L.tail[j]!
  rw [qhG _ _ (by omega), qhG _ _ (by omega)]
  exact (H.els (j + 1) (by omega)).fr hf (fun b _ hb => ⟨by rw [List.mem_singleton]; have := H.ge.1; omega, hb⟩)
end
/-- what Commit leaves -/
def qfO (lo br : Nat) (y : RqX) (Q : Nat → Prop) (st : QuT) (w : World) (e : Ending) (w' : World) : Prop :=
 (∃ h, e = .returned (.tuple #[prV h, .bool (decide (0 < rdN st))]) ∧ (0 < rdN st → PrAt w' (· < lo) h st.L[0]!) ∧ (¬ 0 < rdN st → h = default)) ∧ RqStep lo br y Q (qbX st) w w'
theorem qhU (w : World) (lo br : Nat) (y : RqX) (Q : Nat → Prop) (st : QuT) (H : RqAt w lo br y Q st) (I : QuInv st) (hv9 : st.vs.length ≤ 1048576) (h0 : ¬ 0 < rdN st) :
  Calls Tryz.prog 76 #[.pointer (some ⟨br, 0, none⟩)] w (qfO lo br y Q st w) := by
 have hb1 : Below w.heap.size w (w.alloc (.cells rzPr 94)) := (Below.refl _ w).alloc (Nat.le_refl _) _
 have HCR := Lib.hid (qcr _ lo br y Q st (H.below hb1) I hv9)
 have HFIN := Lib.hid (fun (W : World) (hW : Below w.heap.size w W) => show qfO lo br y Q st w (.returned (.tuple #[prV default, .bool false])) W from ⟨⟨default, by rw [decide_eq_false h0], fun h => absurd h h0, fun _ => rfl⟩, by rw [show qbX st = st from if_neg h0]; exact RqStep.same H hW⟩)
 rw [show rdN st = 0 by omega] at HCR
 have HG0 := Lib.hid (qab w (.cells rzPr 94)); have HB1 := Lib.hid hb1; have HS0 := Lib.hid (sz1 w (.cells rzPr 94))
 clear H I hv9 hb1 h0
 go_enter Tryz.func76, Tryz.ntmps76
 go_wp2_with fail
 refine HCR.out.mono ?_
 rintro e w3 ⟨rfl, hb3⟩
 have hg3 := (hb3.block w.heap.size (by have := HS0.out; omega)).trans HG0.out
 have HB3 := Lib.hid (HB1.out.trans (hb3.mono HB1.out.size))
 clear hb3
 go_wp2_with (first
  | (refine qdd rfl rfl ?_)
  | (apply qam 94 94; exact rfl; exact rfl; exact rfl; exact rfl; (first | assumption | (refine qaa ?_; assumption) | (exact qab _ _) | (exact qae _ _ _) | (exact qag _ _ _ _) | (exact qas _ _ _ _ _) | (exact qaa (qab _ _)) | (exact qaa (qae _ _ _)) | (exact qaa (qag _ _ _ _)) | (exact qaa (qaa (qab _ _))) | (exact qaa (qaa (qae _ _ _))) | (exact qaa (qaa (qaa (qab _ _))))); exact qcu; exact rfl; (first | exact qbo _ | exact oneZ | simp [Value.oneCell']))
  | fail)
 exact qbu rfl rfl rfl (setRow_heap _ _ _ _ _ _ hg3) qdn rfl qcu rfl (HFIN.out _ (below_setRow HB3.out (Nat.le_refl _) _))
theorem qhn (w : World) (lo br : Nat) (y : RqX) (Q : Nat → Prop) (st : QuT) (H : RqAt w lo br y Q st) (I : QuInv st) (hv9 : st.vs.length ≤ 1048576) (h0 : 0 < rdN st) :
  Calls Tryz.prog 76 #[.pointer (some ⟨br, 0, none⟩)] w (qfO lo br y Q st w) := by
 have hb1 : Below w.heap.size w (w.alloc (.cells rzPr 94)) := (Below.refl _ w).alloc (Nat.le_refl _) _
 have HCR := Lib.hid (qcr _ lo br y Q st (H.below hb1) I hv9)
 have hz : ((rdN st : Int) == 0) = false := beq_eq_false_iff_ne.2 (by omega)
 have hpos := Nat.lt_of_lt_of_le h0 (qdj st)
 have HPOS := Lib.hid hpos
 obtain ⟨b, off, eA, hbQ, -⟩ := H.row.2.2 hpos
 have HH := Lib.hid H
 have HC3 := Lib.hid (show ∀ W : World, Below w.heap.size w W → W.cell? ⟨br, 3, none⟩ = some (.slice (some ⟨b, off, none⟩) st.L.length y.c) from fun W hb => by rw [qaf (HH.out.below hb).box]; show some (Value.slice y.A _ _) = _; rw [show y.A = _ from eA])
 have HRG := Lib.hid (show ∀ W : World, Below w.heap.size w W → W.rangeAt b off (qah y.Hs[0]!) from fun W hb i u hu => by
  obtain ⟨b', off', e', -, hc'⟩ := (HH.out.below hb).row.2.2 hpos
  rw [show (y.A, st.L.length, y.c).1 = y.A from rfl, show y.A = _ from eA] at e'
  injection e' with e'; injection e' with e1 e2; subst e1; subst e2
  have := hc' 0 hpos i u hu
  rwa [Nat.zero_mul, Nat.add_zero] at this)
 have HEL := Lib.hid (H.els 0 hpos)
 have HLB := Lib.hid (show br < w.heap.size ∧ y.gv < w.heap.size ∧ lo ≤ w.heap.size from ⟨H.bl, H.vl, Nat.le_trans H.ge.1 (Nat.le_of_lt H.bl)⟩)
 have HEA := Lib.hid (show y.A = some ⟨b, off, none⟩ from eA)
 have HG0 := Lib.hid (qab w (.cells rzPr 94)); have HB1 := Lib.hid hb1; have HS0 := Lib.hid (sz1 w (.cells rzPr 94))
 have HFIN := Lib.hid (fun (W : World) (h : PrH) (hp : PrAt W (· < lo) h st.L[0]!) (hs : RqStep lo br y Q (qcc st) w W) => show qfO lo br y Q st w (.returned (.tuple #[prV h, .bool true])) W from ⟨⟨h, by rw [decide_eq_true h0], fun _ => hp, fun h => absurd h0 h⟩, by rw [show qbX st = qcc st from if_pos h0]; exact hs⟩)
 have hlen0 : (0 : Int) < (st.L.length : Int) := by omega
 have HZX := Lib.hid (show y.Hs[0]!.d.zx = st.L[0]!.d.zx from HEL.out.1.1.2.2.1.symm)
 have hsl := fun W => qin (some ⟨b, off, none⟩) st.L.length y.c hpos W
 generalize rdN st = r at *
 clear H I hv9 hb1 h0 hpos eA hbQ
 go_enter Tryz.func76, Tryz.ntmps76
 go_wp2_with fail
 refine HCR.out.mono ?_
 rintro e w3 ⟨rfl, hb3⟩
 have HB3 := Lib.hid (HB1.out.trans (hb3.mono HB1.out.size))
 have HG3 := Lib.hid ((hb3.block w.heap.size (by have := HS0.out; omega)).trans HG0.out)
 have HS3 := Lib.hid (show w.heap.size + 1 ≤ w3.heap.size by have := HS0.out; have := hb3.size; omega)
 have c3 := HC3.out w3 HB3.out
 have hrg := HRG.out w3 HB3.out
 clear hb3 HCR
 generalize hh : y.Hs[0]! = h at *
 have HHH := Lib.hid hh; clear hh
 go_upto_region 4 with (first
  | (apply qau 94; exact rfl; exact rfl; exact rfl; assumption; exact qdn; exact rfl; exact qcu)
  | (apply qai 94 94; exact rfl; exact rfl; exact rfl; (first | (with_reducible rfl) | (exact sz1 _ _) | (exact sz2 _ _ _) | (exact sz3 _ _ _ _)); exact rfl; exact qcu; exact rfl; (first | exact qbo _ | exact oneZ | simp [Value.oneCell']))
  | fail)
 change Code.wp _ _ _ _ (w3.alloc (.cells (qah h).toArray 94))
 have hb5 : Below w3.heap.size w3 (w3.alloc (.cells (qah h).toArray 94)) := (Below.refl _ w3).alloc (Nat.le_refl _) _
 have hg5 := qab w3 (.cells (qah h).toArray 94)
 have HBB := Lib.hid (HB3.out.trans (hb5.mono HB3.out.size))
 generalize w3.alloc (.cells (qah h).toArray 94) = W5 at *
 have HQ5 := Lib.hid (HH.out.below HBB.out)
 have d3 : W5.cell? ⟨br, 3, none⟩ = some (.slice (some ⟨b, off, none⟩) st.L.length y.c) := HC3.out _ HBB.out
 have d5 : W5.cell? ⟨br, 5, none⟩ = some (.int .i64 st.committed) := by rw [qaf HQ5.out.box]; rfl
 have f3 : W5.frozen? ⟨br, 3, none⟩ = false := by simp [World.frozen?, HQ5.out.box]
 have f5 : W5.frozen? ⟨br, 5, none⟩ = false := by simp [World.frozen?, HQ5.out.box]
 have cz : W5.cell? ⟨w3.heap.size, 2, none⟩ = some (.int .i64 h.d.zx) := by rw [qaf hg5]; rfl
 have hne4 : w3.heap.size ≠ br := by have := HLB.out; have := HS3.out; omega
 have hnw : w.heap.size ≠ br := by have := HLB.out; omega
 have HG00 := Lib.hid ((hb5.block _ (by have := HS3.out; omega)).trans HG3.out)
 have HG5 := Lib.hid hg5
 have HPQ := Lib.hid (HQ5.out.popped HPOS.out HEA.out)
 have HNE := Lib.hid (And.intro hne4 hnw)
 clear c3 hrg hg5 hb5
 have hPQ := HPQ.out
 rw [← HZX.out] at hPQ
 generalize hAE : (if y.c = 1 then some (⟨b, off, none⟩ : Addr) else (some (⟨b, off, none⟩ : Addr)).map (·.add 45)) = A2 at *
 have HPQ2 := Lib.hid hPQ
 have HG6 := Lib.hid (show ((W5.setCell ⟨br, 3, none⟩ (.slice A2 (st.L.length - 1) (y.c - 1))).setCell ⟨br, 5, none⟩ (.int .i64 h.d.zx)).heap[w3.heap.size]? = some (.cells (qah h).toArray 94 (0, 0)) from (qaK _ br 5 _ hne4).trans ((qaK _ br 3 _ hne4).trans HG5.out))
 have HG7 := Lib.hid (show ((W5.setCell ⟨br, 3, none⟩ (.slice A2 (st.L.length - 1) (y.c - 1))).setCell ⟨br, 5, none⟩ (.int .i64 h.d.zx)).heap[w.heap.size]? = some (.cells rzPr 94 (0, 0)) from (qaK _ br 5 _ hnw).trans ((qaK _ br 3 _ hnw).trans HG00.out))
 have HF6 := Lib.hid (show Fr [br, y.gv] w ((W5.setCell ⟨br, 3, none⟩ (.slice A2 (st.L.length - 1) (y.c - 1))).setCell ⟨br, 5, none⟩ (.int .i64 h.d.zx)) from ((Fr.of_below (own := [br, y.gv]) HBB.out).set (by simp) 3 _).set (by simp) 5 _)
 clear hPQ HPQ hAE
 go_upto_region 6 with fail
 generalize (W5.setCell ⟨br, 3, none⟩ (.slice A2 (st.L.length - 1) (y.c - 1))).setCell ⟨br, 5, none⟩ (.int .i64 h.d.zx) = W6 at *
 have hg6 := HG6.out; have hg7 := HG7.out
 go_wp2_with (first
  | (apply qaw 94 94; exact rfl; exact rfl; exact rfl; (first | assumption | (refine qaa ?_; assumption) | (exact qab _ _) | (exact qae _ _ _) | (exact qag _ _ _ _) | (exact qas _ _ _ _ _) | (exact qaa (qab _ _)) | (exact qaa (qae _ _ _)) | (exact qaa (qag _ _ _ _)) | (exact qaa (qaa (qab _ _))) | (exact qaa (qaa (qae _ _ _))) | (exact qaa (qaa (qaa (qab _ _))))); exact qdn; exact rfl; exact qcu)
  | (apply qam 94 94; exact rfl; exact rfl; exact rfl; exact rfl; (first | assumption | (refine qaa ?_; assumption) | (exact qab _ _) | (exact qae _ _ _) | (exact qag _ _ _ _) | (exact qas _ _ _ _ _) | (exact qaa (qab _ _)) | (exact qaa (qae _ _ _)) | (exact qaa (qag _ _ _ _)) | (exact qaa (qaa (qab _ _))) | (exact qaa (qaa (qae _ _ _))) | (exact qaa (qaa (qaa (qab _ _))))); exact qcu; exact rfl; (first | exact qbo _ | exact oneZ | simp [Value.oneCell']))
  | fail)
 have hF7 := qaS W6 w.heap.size (qah h).toArray
 have hlb := HLB.out
 have hq7 := HPQ2.out.fr hF7 (fun g hg => by
  rw [List.mem_singleton] at hg; subst hg
  exact ⟨by omega, by show w.heap.size ≠ y.gv; omega, fun hb => by have := HH.out.lt _ hb; omega, by omega⟩)
 have hp7 := (HEL.out.fr (R' := (· < lo)) HF6.out (fun b _ hb => ⟨by have := HH.out.ge.1; have := HH.out.ge.2.1; simp; omega, hb⟩)).fr (R' := (· < lo)) hF7 (fun b _ hb => ⟨by simp; omega, hb⟩)
 have hf7 : Fr [br, y.gv] w _ := HF6.out.trans hF7 (fun g hg => .inr (by simp at hg; omega))
 exact qbu rfl rfl rfl (setRow_heap _ _ _ _ _ _ hg7) qdn rfl qcu rfl (HFIN.out _ h hp7 ⟨⟨_, Q, hq7, rfl, fun _ h => .inl h⟩, hf7⟩)
open Go.RowKit Go.MapKept Go.Maps
theorem qdR : ElemL qah 90 94 45 := ⟨Tryz.underlying90, by kernel_rfl, qbB, by decide, fun x u hu => by
 have h := qbo x
 rw [Array.all_eq_true_iff_forall_mem] at h
 exact h u (by simpa using hu)⟩
theorem qcs {α : Type} [Inhabited α] {enc : α → List Value} {ST T : TypeId} {k : Nat} (E : ElemL enc ST T k) {o : Oper} {a : Act} {K : Act → World → Prop} {Q : Exit → Act → World → Prop} {w : World} (s x : Operand)
  (ho : o.op = .call { callee := .builtin .append, args := #[s, x], argTypes := #[ST, ST] }) (base : Nat) (A : Option Addr) (n c : Nat) (l : List α) (hs : a.eval s = .slice A n c)
  (hown : w.ownsRow base T k (.slice A n c) n (l.flatMap enc)) (A' : Option Addr) (m c' : Nat) (l' : List α) (hx : a.eval x = .slice A' m c') (hsl : Sl w w.heap.size enc k A' m l') (hA' : A' = none → m = 0 ∧ c' = 0) (hn : n + m ≤ 1048576) (hbase : base ≤ w.heap.size)
  (h : ∀ A2 c2 w', w'.ownsRow base T k (.slice A2 (n + m) c2) (n + m) ((l ++ l').flatMap enc) → Below base w w' → w.grownBy w' (Value.slice A n c).ownBlock → K (a.put o.dst (.slice A2 (n + m) c2)) w') : Oper.wp Tryz.prog o a w K Q := by
 obtain ⟨i0, z, hi0, hz0, hzc, hz1, hz2⟩ := E.parts
 cases A' with
 | none =>
  obtain ⟨rfl, rfl⟩ := hA' rfl
  have hl0 : l' = [] := List.length_eq_zero_iff.1 hsl.len
  subst hl0
  have hrun := run_append_owned_none (P := Tryz.prog) (w := w) base ST o.type T i0 k E.under hi0 _ n _ hown
  have h2 := h A c w (by rw [List.append_nil]; exact hown) (Below.refl _ _) ⟨rfl, rfl, rfl, Nat.le_refl _, fun _ _ _ => rfl⟩
  unfold Oper.wp
  simp [execOp, ho, resolve, invoke, builtin, hs, hx, hrun, Result.andThen]
  exact h2
 | some a0 =>
  refine wp_append_own w s x _ ho base T i0 _ k i0.bytes E.under hi0 hz0 hz1 rfl hzc E.pos _ n _ hs hown a0 m c' (l'.flatMap enc) hx (by rw [qch E.len, hsl.len]) (Sl.news E.len E.pos hsl) ?_ (by unfold maxLen; omega) ?_ hbase ?_
  ·intro u hu
   obtain ⟨x, _, hx⟩ := List.mem_flatMap.1 hu
   exact E.one x u hx
  ·have := Nat.mul_le_mul hn hz2
   omega
  ·intro v' w' h1 h2 _
   obtain ⟨A2, c2, rfl⟩ := qcC h1
   refine h A2 c2 w' ?_ (qcN hown h2 hbase) h2
   rw [List.flatMap_append]; exact h1
theorem qfs {W : World} {g : Nat} {T : TypeId} {h : PrH} (hg : W.heap[g]? = some (.cells (qah h).toArray T (0, 0))) : Sl W W.heap.size qah 45 (some ⟨g, 0, none⟩) 1 [h] :=
 ⟨rfl, fun _ => ⟨g, 0, rfl, (Array.getElem?_eq_some_iff.1 hg).1, fun i hi a u hu => by
  have hi0 : i = 0 := by omega
  subst hi0
  rw [qaf hg]
  simpa using hu⟩⟩
/-- two may come up -/
theorem qdo {P : Program} {md : Region.Mode} {ops : Array Oper} {Q : Exit → Act → World → Prop} {S : World → Prop} {m i j : Nat} {oi oj : Oper} {f : Nat} {listed : Array Bool} {a : Act} {w : World} (hi : ops[i]? = some oi) (hj : ops[j]? = some oj) (hr : Region.ready md ops listed = [i, j])
  (h1 : ∀ K' : Act → World → Prop, Shut (∀ a w, S w → qbK P md ops Q S m f (listed.setIfInBounds i true) a w → K' a w) → if Region.wanted oi (yielded ops a.tmps) = true then Oper.wp P oi a w K' Q else K' (a.put oi.dst undef) w)
  (h2 : ∀ K' : Act → World → Prop, Shut (∀ a w, S w → qbK P md ops Q S m f (listed.setIfInBounds j true) a w → K' a w) → if Region.wanted oj (yielded ops a.tmps) = true then Oper.wp P oj a w K' Q else K' (a.put oj.dst undef) w) : qbK P md ops Q S m (f + 1) listed a w := by
 refine ⟨fun h0 => absurd (hr ▸ h0) (by simp), fun k hk => ?_⟩
 rw [hr] at hk
 simp only [List.mem_cons, List.not_mem_nil, or_false] at hk
 rcases hk with rfl | rfl
 ·exact wpOp_step hi (fun K' hK => h1 K' (fun a w hS hW => hK a w ⟨fun _ => hS, hW⟩))
 ·exact wpOp_step hj (fun K' hK => h2 K' (fun a w hS hW => hK a w ⟨fun _ => hS, hW⟩))
/-- what Push leaves -/
def RPuW (lo br : Nat) (y : RqX) (Q : Nat → Prop) (st : QuT) (p : PrT) (w : World) (e : Ending) (w' : World) : Prop := e = .returned (.int .i64 (qaL st p)) ∧ RqStep lo br y Q (qbx st p) w w'
section
variable {w w' : World} {lo br : Nat} {y : RqX} {Q : Nat → Prop} {st : QuT} {p : PrT}
theorem qds {x : Int} (H : RqAt w lo br y Q st) (hb : Below w.heap.size w w') (h : qaL st p = x) (h0 : x ≠ 0) : RPuW lo br y Q st p w (.returned (.int .i64 x)) w' :=
 ⟨by rw [h], by rw [show qbx st p = st from if_neg (by rw [h]; exact h0)]; exact RqStep.same H hb⟩
/-- one more: the list lies in a block of its own -/
theorem RqAt.pushed (H : RqAt w lo br y Q st) {A : Option Addr} {c : Nat} {h : PrH} (hw : Below w.heap.size w w') (hr : SlR w' (fun b => w.heap.size ≤ b) qah 45 (A, st.L.length + 1, c) (y.Hs ++ [h])) (hp : PrAt w (· < lo) h p) :
  RqAt ((w'.setCell ⟨br, 3, none⟩ (.slice A (st.L.length + 1) c)).setCell ⟨br, 4, none⟩ (.int .i64 p.d.zx)) lo br { y with A := A, c := c, Hs := y.Hs ++ [h] } (fun b => Q b ∨ (w.heap.size ≤ b ∧ b < w'.heap.size)) { st with L := st.L ++ [p], last := p.d.zx } := by
 have H2 := H.below hw
 have hf : Fr [br] w' ((w'.setCell ⟨br, 3, none⟩ (.slice A (st.L.length + 1) c)).setCell ⟨br, 4, none⟩ (.int .i64 p.d.zx)) := (qaE w' br 3 _).trans (qaE _ br 4 _) (by simp)
 have hQ : ∀ b, Q b → b ∉ [br] := fun b hb => by rw [List.mem_singleton]; rintro rfl; exact H.ne.2.1 hb
 have hlo : lo ≤ w.heap.size := Nat.le_trans H.ge.1 (Nat.le_of_lt H.bl)
 have hHl : y.Hs.length = st.L.length := H.row.len
 refine ⟨(qaZ (qaZ H2.box _) _).trans (by simp), H2.who.fr hf (fun b _ hb => ⟨hQ b hb, .inl hb⟩) (fun _ => by simp [encVt]), (hf.block _ H2.vl (by rw [List.mem_singleton]; exact fun e => H.ne.1 e.symm)).trans H2.vot, ?_, ?_, ⟨H.ne.1, ?_, ?_⟩, ⟨H.ge.1, H.ge.2.1, ?_⟩, ?_⟩
 ·show SlR _ _ qah 45 (A, (st.L ++ [p]).length, c) _
  rw [List.length_append, List.length_singleton]
  exact hr.fr hf (fun b hb h => ⟨by rw [List.mem_singleton]; have := H.bl; omega, .inr ⟨h, hb⟩⟩) (fun _ => by rw [qbB]; decide)
 ·intro j hj
  have hj' : j < st.L.length + 1 := by simpa using hj
  show PrAt _ _ (y.Hs ++ [h])[j]! (st.L ++ [p])[j]!
  have hfr : Fr [br] w _ := (Fr.of_below (own := [br]) hw).trans hf (fun g hg => .inl hg)
  have hk : ∀ {hh : PrH} {pp : PrT}, PrAt w (· < lo) hh pp → PrAt ((w'.setCell ⟨br, 3, none⟩ (.slice A (st.L.length + 1) c)).setCell ⟨br, 4, none⟩ (.int .i64 p.d.zx)) (· < lo) hh pp := fun H9 => H9.fr hfr (fun b _ hb => ⟨by rw [List.mem_singleton]; have := H.ge.1; omega, hb⟩)
  rcases Nat.lt_succ_iff_lt_or_eq.1 hj' with h3 | rfl
  ·rw [getElem!_pos _ j (by simp; omega), getElem!_pos _ j (by simpa using hj), List.getElem_append_left (by omega), List.getElem_append_left h3]
   have := H.els j h3
   rw [getElem!_pos _ j (by omega), getElem!_pos _ j h3] at this
   exact hk this
  ·rw [getElem!_pos _ _ (by simp; omega), getElem!_pos _ _ (by simp), List.getElem_append_right (by omega), List.getElem_append_right (by omega)]
   simp only [hHl, Nat.sub_self, List.getElem_singleton]
   exact hk hp
 ·rintro (h | ⟨h, _⟩)
  ·exact H.ne.2.1 h
  ·have := H.bl; omega
 ·rintro (h | ⟨h, _⟩)
  ·exact H.ne.2.2 h
  ·have := H.vl; have h : w.heap.size ≤ y.gv := h; omega
 ·rintro b (h | ⟨h, _⟩)
  ·exact H.ge.2.2 b h
  ·omega
 ·rintro b (h | ⟨_, h⟩)
  ·have := H.lt b h; have := hw.size; have := hf.size; omega
  ·exact Nat.lt_of_lt_of_le h hf.size
end
theorem qib (w : World) (lo br : Nat) (y : RqX) (Q : Nat → Prop) (st : QuT) (h : PrH) (p : PrT) (H : RqAt w lo br y Q st) (hl4 : st.L.length ≤ 4096) (hp : PrAt w (· < lo) h p) (hsm : PrSm 1048576 p) :
  Calls Tryz.prog 74 #[.pointer (some ⟨br, 0, none⟩), prV h] w (RPuW lo br y Q st p w) := by
 have hltq : br < w.heap.size := H.bl
 have hb1 : Below w.heap.size w (w.alloc (.cells (qah h).toArray 94)) := (Below.refl _ w).alloc (Nat.le_refl _) _
 have hg1 : (w.alloc (.cells (qah h).toArray 94)).heap[w.heap.size]? = some (.cells (qah h).toArray 94 (0, 0)) := qab w _
 have hp1 := hp.fr (R' := (· < lo)) (Fr.of_below (own := []) hb1) (fun b _ hb => ⟨by simp, hb⟩)
 have hrd : (w.alloc (.cells (qah h).toArray 94)).rangeAt w.heap.size 0 (qaU h.d) := qal (pre := []) (mid := qaU h.d) (post := qaX h.r) hg1 (by simp [qah]) rfl
 have HCR := Lib.hid (qhV h.d p.d _ _ hp1.1 hsm.1)
 have HS1 := Lib.hid (sz1 w (.cells (qah h).toArray 94))
 have HQ := Lib.hid H; have HG1 := Lib.hid hg1; have HB1 := Lib.hid hb1; have HLQ := Lib.hid hltq
 have HPE := Lib.hid hp
 obtain ⟨⟨e0, e1, e2, e3⟩, -⟩ := hp.1
 obtain ⟨⟨e4, e5, e6⟩, -⟩ := hp.2
 clear H hp hb1 hg1 hp1 hsm hltq e0 e3 e6
 go_enter Tryz.func74, Tryz.ntmps74
 go_wp2_with (first
  | (apply qau 54; exact rfl; exact rfl; exact rfl; assumption; exact qcn; exact rfl; exact qbC)
  | fail)
 refine HCR.out.mono ?_
 rintro e w2 ⟨rfl, hb2⟩
 generalize w.alloc (.cells (qah h).toArray 94) = W1 at *
 have HB2 := Lib.hid (HB1.out.trans (hb2.mono HB1.out.size))
 have HG2 := Lib.hid ((hb2.block w.heap.size (by have := HS1.out; omega)).trans HG1.out)
 have HQ2 := Lib.hid (HQ.out.below HB2.out)
 have HS2 := Lib.hid (show w.heap.size + 1 ≤ w2.heap.size by have := HS1.out; have := hb2.size; omega)
 clear hrd HCR HS1 HG1 HB1 hb2
 have hc1 : w2.cell? ⟨w.heap.size, 1, none⟩ = some (.int .i32 p.d.xi) := by rw [qaf HG2.out, e1]; rfl
 have hc2 : w2.cell? ⟨w.heap.size, 2, none⟩ = some (.int .i64 p.d.zx) := by rw [qaf HG2.out, e2]; rfl
 have hc20 : w2.cell? ⟨w.heap.size, 20, none⟩ = some (.int .i32 p.r.xi) := by rw [qaf HG2.out, e4]; rfl
 have hc21 : w2.cell? ⟨w.heap.size, 21, none⟩ = some (.int .i64 p.r.zx) := by rw [qaf HG2.out, e5]; rfl
 have hl0 : w2.cell? ⟨br, 0, none⟩ = some (.int .i64 st.bound) := by rw [qaf HQ2.out.box]; rfl
 have hl3 : w2.cell? ⟨br, 3, none⟩ = some (.slice y.A st.L.length y.c) := by rw [qaf HQ2.out.box]; rfl
 have hl4' : w2.cell? ⟨br, 4, none⟩ = some (.int .i64 st.last) := by rw [qaf HQ2.out.box]; rfl
 have HE2 := Lib.hid e2
 clear e1 e2 e4 e5
 have HPU := Lib.hid (show qaL st p = _ from rfl)
 unfold qaL at HPU
 generalize hEr : qaQ p.d = er at *
 by_cases hr : er = 0
 ·subst hr
  have HER := Lib.hid hEr; clear hEr
  have hn0 : ((0 : Int) != 0) = false := rfl
  by_cases hx : p.r.xi = p.d.xi
  ·have bx : (p.r.xi != p.d.xi) = false := by simp [hx]
   have HX := Lib.hid hx; clear hx
   by_cases hz : p.r.zx = p.d.zx
   ·have bz : (p.r.zx != p.d.zx) = false := by simp [hz]
    have HZ := Lib.hid hz; clear hz
    have HXZ := Lib.hid (show ¬ (p.r.xi ≠ p.d.xi ∨ p.r.zx ≠ p.d.zx) by rw [HX.out, HZ.out]; simp)
    have HP3 := Lib.hid (show qaL st p = if p.d.zx ≤ st.last then 150 else if st.bound ≤ st.L.length then 3 else 0 from by
     unfold qaL; rw [if_neg (by rw [HER.out]; simp), if_neg HXZ.out])
    clear HPU
    by_cases hla : p.d.zx ≤ st.last
    ·have bl : decide (p.d.zx ≤ st.last) = true := decide_eq_true hla
     have HN := Lib.hid (show qaL st p = 150 by rw [HP3.out, if_pos hla])
     clear hla
     go_wp2_with fail
     go_quiet (fail)
     go_wp2_with fail
     go_ret
     exact qds HQ.out (qac HB2.out _) HN.out (by decide)
    ·have bl : decide (p.d.zx ≤ st.last) = false := decide_eq_false hla
     have HP4 := Lib.hid (show qaL st p = if st.bound ≤ st.L.length then 3 else 0 by rw [HP3.out, if_neg hla])
     clear hla
     by_cases hfu : st.bound ≤ st.L.length
     ·have HN := Lib.hid (show qaL st p = 3 by rw [HP4.out, if_pos hfu])
      have bf : decide (st.bound ≤ (st.L.length : Int)) = true := decide_eq_true hfu
      clear hfu
      go_wp2_with fail
      go_quiet (fail)
      go_wp2_with fail
      go_quiet (fail)
      go_wp2_with fail
      go_ret
      exact qds HQ.out (by first | exact qac HB2.out _ | (simp only [World.drewN_drewN]; exact qac HB2.out _) | exact qac (qac HB2.out _) _) HN.out (by decide)
     ·have HN := Lib.hid (show qaL st p = 0 by rw [HP4.out, if_neg hfu])
      have bf : decide (st.bound ≤ (st.L.length : Int)) = false := decide_eq_false hfu
      clear hfu
      go_wp2_with fail
      go_quiet (fail)
      rename Nat => q1
      go_wp2_with fail
      go_quiet (fail)
      rename Nat => q2
      go_upto_region 10 with fail
      have HB3 := Lib.hid (qac (qac HB2.out q1) q2)
      have HG3 := Lib.hid (show ((w2.drewN q1).drewN q2).heap[w.heap.size]? = some (.cells (qah h).toArray 94 (0, 0)) from HG2.out)
      have m3 : ((w2.drewN q1).drewN q2).cell? ⟨br, 3, none⟩ = some (.slice y.A st.L.length y.c) := hl3
      have HS3 := Lib.hid (show w.heap.size + 1 ≤ ((w2.drewN q1).drewN q2).heap.size from HS2.out)
      clear hc1 hc2 hc20 hc21 hl0 hl3 hl4' HG2 HQ2 HS2 HB2 bx bz bl bf HX HZ HXZ HP3 HP4 hn0
      generalize (w2.drewN q1).drewN q2 = V at *
      have HQV := Lib.hid (HQ.out.below HB3.out)
      have HRG := Lib.hid (fun (W : World) (hW : Below V.heap.size V W) => (qal (pre := []) (mid := qah h) (post := []) ((hW.block _ (by have := HS3.out; omega)).trans HG3.out) (by simp) rfl : W.rangeAt w.heap.size 0 (qah h)))
      have hl4n := hl4
      have HSL := Lib.hid (fun (W : World) (hW : Below V.heap.size V W) => show Sl W W.heap.size qah 45 y.A st.L.length y.Hs from ((HQV.out.below hW).row.more (fun b hb _ => hb) (fun _ => by rw [qbB]; decide)).sl (fun _ => by rw [qbB]; decide))
      have HA0 := Lib.hid (show y.A = none → st.L.length = 0 ∧ y.c = 0 from HQ.out.row.hd.1)
      have HSO := Lib.hid (fun (W : World) (hW : Below V.heap.size V W) => (show W.cell? ⟨br, 3, none⟩ = some (.slice y.A st.L.length y.c) ∧ W.rangeAt w.heap.size 0 (.int .i64 h.d.se :: .int .i32 h.d.xi :: .int .i64 h.d.zx :: .int .i64 h.d.ti :: .int .i32 h.d.t.n.ty :: .string h.d.t.n.path :: slV h.d.t.d :: slV h.d.t.a :: .int .i64 h.d.t.n.ow :: .int .i32 h.d.t.n.ve :: .int .i32 h.d.t.n.cr :: .bool h.d.t.n.qh :: .int .i64 h.d.t.n.qc :: .int .i64 h.d.t.n.qb :: .int .i64 h.d.t.n.si :: .int .i32 h.d.t.n.st :: slV h.d.t.i :: slV h.d.t.p :: .int .i32 h.d.t.n.co :: slV h.d.t.s :: .int .i32 h.r.xi :: .int .i64 h.r.zx :: .int .i32 h.r.co :: .int .i32 h.r.r.n.ty :: .int .i32 h.r.r.n.co :: .string h.r.r.n.path :: .int .i64 h.r.r.n.q.a :: .int .i64 h.r.r.n.q.b :: .int .i64 h.r.r.n.q.c :: .int .i64 h.r.r.n.q.d :: .int .i32 h.r.r.n.q.e :: .int .i32 h.r.r.n.q.f :: .int .i32 h.r.r.n.q.g :: .int .i64 h.r.r.n.q.h :: .int .i32 h.r.r.n.q.i :: .int .i32 h.r.r.n.q.j :: .int .i64 h.r.r.n.q.k :: slV h.r.r.d :: slV h.r.r.a :: slV h.r.r.m :: .int .i32 h.r.r.n.ct :: .int .i64 h.r.r.n.si :: .int .i32 h.r.r.n.st :: slV h.r.r.i :: slV h.r.r.s :: []) from ⟨by rw [qaf (HQV.out.below hW).box]; rfl, HRG.out W hW⟩))
      have HFIN := Lib.hid (show ∀ (W : World) (A9 : Option Addr) (c9 : Nat), Below V.heap.size V W → W.ownsRow V.heap.size 94 45 (.slice A9 (st.L.length + 1) c9) (st.L.length + 1) ((y.Hs ++ [h]).flatMap qah) → RPuW lo br y Q st p w (.returned (.int .i64 0)) ((W.setCell ⟨br, 3, none⟩ (.slice A9 (st.L.length + 1) c9)).setCell ⟨br, 4, none⟩ (.int .i64 h.d.zx)) from fun W A9 c9 hW hr => by
       have hbw : Below w.heap.size w W := HB3.out.trans (hW.mono HB3.out.size)
       have hrow := qbD hr qbB (by rw [List.length_append, List.length_singleton]; exact congrArg (· + 1) HQ.out.row.len)
       have hr' : SlR W (fun b => w.heap.size ≤ b) qah 45 (A9, st.L.length + 1, c9) (y.Hs ++ [h]) := ⟨hrow.1, hrow.2.1, fun h0 => by
        obtain ⟨b, off, e, hb, hc⟩ := hrow.2.2 h0
        exact ⟨b, off, e, Nat.le_trans HB3.out.size hb, hc⟩⟩
       have hz : h.d.zx = p.d.zx := HE2.out.symm
       have hP := HQ.out.pushed hbw hr' HPE.out
       rw [hz]
       refine ⟨by rw [HN.out], ⟨⟨{ y with A := A9, c := c9, Hs := y.Hs ++ [h] }, _, by rw [show qbx st p = { st with L := st.L ++ [p], last := p.d.zx } from if_pos HN.out]; exact hP, rfl, fun b hb => ?_⟩, ?_⟩⟩
       ·rcases hb with hb | hb
        ·exact .inl hb
        ·exact .inr hb.1
       ·exact ((Fr.of_below (own := [br, y.gv]) hbw).set (by simp) 3 _).set (by simp) 4 _)
      clear m3
      have X1 := Lib.hid (show Below V.heap.size V (V.drew.alloc (.cells #[] 94)) from ((Below.refl _ V).drew).alloc (Nat.le_refl _) _)
      have X2 := Lib.hid (show Below V.heap.size V ((V.drew.alloc (.cells #[] 94)).alloc (.cells (qah h).toArray 94)) from (((Below.refl _ V).drew).alloc (Nat.le_refl _) _).alloc (by simp) _)
      have X3 := Lib.hid (show Below V.heap.size V ((V.drew.alloc (.cells (qah h).toArray 94)).alloc (.cells #[] 94)) from (((Below.refl _ V).drew).alloc (Nat.le_refl _) _).alloc (by simp) _)
      have X4 := Lib.hid (show Below V.heap.size V (V.drew.alloc (.cells (qah h).toArray 94)) from ((Below.refl _ V).drew).alloc (Nat.le_refl _) _)
      refine qaP (S := fun W => W.cell? ⟨br, 3, none⟩ = some (.slice y.A st.L.length y.c) ∧ W.rangeAt w.heap.size 0 (.int .i64 h.d.se :: .int .i32 h.d.xi :: .int .i64 h.d.zx :: .int .i64 h.d.ti :: .int .i32 h.d.t.n.ty :: .string h.d.t.n.path :: slV h.d.t.d :: slV h.d.t.a :: .int .i64 h.d.t.n.ow :: .int .i32 h.d.t.n.ve :: .int .i32 h.d.t.n.cr :: .bool h.d.t.n.qh :: .int .i64 h.d.t.n.qc :: .int .i64 h.d.t.n.qb :: .int .i64 h.d.t.n.si :: .int .i32 h.d.t.n.st :: slV h.d.t.i :: slV h.d.t.p :: .int .i32 h.d.t.n.co :: slV h.d.t.s :: .int .i32 h.r.xi :: .int .i64 h.r.zx :: .int .i32 h.r.co :: .int .i32 h.r.r.n.ty :: .int .i32 h.r.r.n.co :: .string h.r.r.n.path :: .int .i64 h.r.r.n.q.a :: .int .i64 h.r.r.n.q.b :: .int .i64 h.r.r.n.q.c :: .int .i64 h.r.r.n.q.d :: .int .i32 h.r.r.n.q.e :: .int .i32 h.r.r.n.q.f :: .int .i32 h.r.r.n.q.g :: .int .i64 h.r.r.n.q.h :: .int .i32 h.r.r.n.q.i :: .int .i32 h.r.r.n.q.j :: .int .i64 h.r.r.n.q.k :: slV h.r.r.d :: slV h.r.r.a :: slV h.r.r.m :: .int .i32 h.r.r.n.ct :: .int .i64 h.r.r.n.si :: .int .i32 h.r.r.n.st :: slV h.r.r.i :: slV h.r.r.s :: [])) 10 (by kernel_rfl) (HSO.out _ (qaj V)) (fun hHeld => ?_)
      refine qad (i := 0) (v := .pointer (some ⟨br, 0, none⟩)) rfl (by kernel_rfl) (fun _ _ _ h => h) (Or.inl ⟨by rfl, by intro w hSw; clear hSw; go_simp⟩) (by assumption) ?_
      (try simp only [pT])
      refine qad (i := 2) (v := .pointer (some ⟨br, 0, none⟩)) rfl (by kernel_rfl) (fun _ _ _ h => h) (Or.inl ⟨by rfl, by intro w hSw; clear hSw; go_simp⟩) (by assumption) ?_
      (try simp only [pT])
      refine qad (i := 3) (v := .pointer (some ⟨br, 0, none⟩)) rfl (by kernel_rfl) (fun _ _ _ h => h) (Or.inl ⟨by rfl, by intro w hSw; clear hSw; go_simp⟩) (by assumption) ?_
      (try simp only [pT])
      refine qad (i := 4) (v := .pointer (some ⟨br, 3, none⟩)) rfl (by kernel_rfl) (fun _ _ _ h => h) (Or.inl ⟨by rfl, by intro w hSw; clear hSw; go_simp⟩) (by assumption) ?_
      (try simp only [pT])
      refine qad (i := 5) (v := .slice y.A st.L.length y.c) rfl (by kernel_rfl) (fun _ _ _ h => h) (Or.inl ⟨by rfl, by intro w hSw; have hSx := hSw.1; clear hSw; go_simp⟩) (by assumption) ?_
      (try simp only [pT])
      refine qad (i := 7) (v := .agg (List.toArray (.int .i64 h.d.se :: .int .i32 h.d.xi :: .int .i64 h.d.zx :: .int .i64 h.d.ti :: .int .i32 h.d.t.n.ty :: .string h.d.t.n.path :: slV h.d.t.d :: slV h.d.t.a :: .int .i64 h.d.t.n.ow :: .int .i32 h.d.t.n.ve :: .int .i32 h.d.t.n.cr :: .bool h.d.t.n.qh :: .int .i64 h.d.t.n.qc :: .int .i64 h.d.t.n.qb :: .int .i64 h.d.t.n.si :: .int .i32 h.d.t.n.st :: slV h.d.t.i :: slV h.d.t.p :: .int .i32 h.d.t.n.co :: slV h.d.t.s :: .int .i32 h.r.xi :: .int .i64 h.r.zx :: .int .i32 h.r.co :: .int .i32 h.r.r.n.ty :: .int .i32 h.r.r.n.co :: .string h.r.r.n.path :: .int .i64 h.r.r.n.q.a :: .int .i64 h.r.r.n.q.b :: .int .i64 h.r.r.n.q.c :: .int .i64 h.r.r.n.q.d :: .int .i32 h.r.r.n.q.e :: .int .i32 h.r.r.n.q.f :: .int .i32 h.r.r.n.q.g :: .int .i64 h.r.r.n.q.h :: .int .i32 h.r.r.n.q.i :: .int .i32 h.r.r.n.q.j :: .int .i64 h.r.r.n.q.k :: slV h.r.r.d :: slV h.r.r.a :: slV h.r.r.m :: .int .i32 h.r.r.n.ct :: .int .i64 h.r.r.n.si :: .int .i32 h.r.r.n.st :: slV h.r.r.i :: slV h.r.r.s :: []))) rfl (by kernel_rfl) (fun _ _ _ h => h) (yieldsIf_load_mid (by rfl) 94 _ rfl w.heap.size 0 rfl (.int .i64 h.d.se :: .int .i32 h.d.xi :: .int .i64 h.d.zx :: .int .i64 h.d.ti :: .int .i32 h.d.t.n.ty :: .string h.d.t.n.path :: slV h.d.t.d :: slV h.d.t.a :: .int .i64 h.d.t.n.ow :: .int .i32 h.d.t.n.ve :: .int .i32 h.d.t.n.cr :: .bool h.d.t.n.qh :: .int .i64 h.d.t.n.qc :: .int .i64 h.d.t.n.qb :: .int .i64 h.d.t.n.si :: .int .i32 h.d.t.n.st :: slV h.d.t.i :: slV h.d.t.p :: .int .i32 h.d.t.n.co :: slV h.d.t.s :: .int .i32 h.r.xi :: .int .i64 h.r.zx :: .int .i32 h.r.co :: .int .i32 h.r.r.n.ty :: .int .i32 h.r.r.n.co :: .string h.r.r.n.path :: .int .i64 h.r.r.n.q.a :: .int .i64 h.r.r.n.q.b :: .int .i64 h.r.r.n.q.c :: .int .i64 h.r.r.n.q.d :: .int .i32 h.r.r.n.q.e :: .int .i32 h.r.r.n.q.f :: .int .i32 h.r.r.n.q.g :: .int .i64 h.r.r.n.q.h :: .int .i32 h.r.r.n.q.i :: .int .i32 h.r.r.n.q.j :: .int .i64 h.r.r.n.q.k :: slV h.r.r.d :: slV h.r.r.a :: slV h.r.r.m :: .int .i32 h.r.r.n.ct :: .int .i64 h.r.r.n.si :: .int .i32 h.r.r.n.st :: slV h.r.r.i :: slV h.r.r.s :: []) _ (fun _ h => h.2) qdn rfl qcu) (by assumption) ?_
      (try simp only [pT])
      refine qdo (i := 1) (j := 8) rfl rfl (by kernel_rfl) (fun K hK => ?_) (fun K hK => ?_)
      ·go_simp
       refine hK.out _ _ (HSO.out _ X1.out) ?_
       clear hK K
       (try simp only [pT])
       refine qdo (i := 6) (j := 8) rfl rfl (by kernel_rfl) (fun K hK => ?_) (fun K hK => ?_)
       ·rw [if_pos (by rfl)]
        refine qcs qdR (.tmp 51) (.tmp 55) rfl V.heap.size (some ⟨V.heap.size, 0, none⟩) 0 0 [] rfl (qhv (qab V.drew _) (Nat.le_refl _)) y.A st.L.length y.c y.Hs rfl (HSL.out _ X1.out) HA0.out (by omega) X1.out.size ?_
        intro A8 c8 w8 hv8 hb8 hg8
        simp only [Nat.zero_add, List.nil_append] at hv8 ⊢
        have HB8 := Lib.hid (X1.out.trans hb8)
        have HV8 := Lib.hid hv8; have HG8 := Lib.hid hg8
        clear hv8 hb8 hg8
        refine hK.out _ _ (HSO.out _ HB8.out) ?_
        clear hK K
        (try simp only [pT])
        refine qaq (i := 8) rfl (by kernel_rfl) (fun K hK => ?_)
        go_simp
        have HB10 := Lib.hid (HB8.out.trans (((Below.refl _ w8).alloc (Nat.le_refl _) (.cells (qah h).toArray 94)).mono HB8.out.size))
        refine hK.out _ _ (HSO.out _ HB10.out) ?_
        clear hK K
        (try simp only [pT])
        refine qaq (i := 9) rfl (by kernel_rfl) (fun K hK => ?_)
        rw [if_pos (by rfl)]
        refine qcs qdR (.tmp 56) (.tmp 58) rfl V.heap.size A8 st.L.length c8 y.Hs rfl (qcb HV8.out ((Below.refl _ w8).alloc (Nat.le_refl _) (.cells (qah h).toArray 94))) (some ⟨w8.heap.size, 0, none⟩) 1 1 [h] rfl (qfs (qab w8 _)) (fun e => by cases e) (by omega) HB10.out.size ?_
        intro A9 c9 w9 hv9 hb9 hg9
        have HB9 := Lib.hid (HB10.out.trans hb9)
        have HV9 := Lib.hid hv9
        clear hv9 hb9 hg9
        refine hK.out _ _ (HSO.out _ HB9.out) ?_
        clear hK K
        (try simp only [pT])
        refine qaG (n := 10) (by kernel_rfl) ?_
        simp only [List.drop_succ_cons, List.drop_zero]
        have hb3 : w9.cell? ⟨br, 3, none⟩ = some (.slice y.A st.L.length y.c) := (HSO.out _ HB9.out).1
        have hf3 : w9.frozen? ⟨br, 3, none⟩ = false := by simp [World.frozen?, (HQV.out.below HB9.out).box]
        have hb4 : w9.cell? ⟨br, 4, none⟩ = some (.int .i64 st.last) := by rw [qaf (HQV.out.below HB9.out).box]; rfl
        have hf4 : w9.frozen? ⟨br, 4, none⟩ = false := by simp [World.frozen?, (HQV.out.below HB9.out).box]
        have hz2 : w9.cell? ⟨w.heap.size, 2, none⟩ = some (.int .i64 h.d.zx) := (HSO.out _ HB9.out).2 2 _ rfl
        have hnq : w.heap.size ≠ br := by have := HLQ.out; omega
        have HF9 := Lib.hid (HFIN.out w9 A9 c9 HB9.out HV9.out)
        clear hHeld HSO HSL HFIN HV9 HB9
        go_wp2_with fail
        go_ret
        exact HF9.out
       ·go_simp
        refine hK.out _ _ (HSO.out _ X2.out) ?_
        clear hK K
        (try simp only [pT])
        refine qaq (i := 6) rfl (by kernel_rfl) (fun K hK => ?_)
        rw [if_pos (by rfl)]
        refine qcs qdR (.tmp 51) (.tmp 55) rfl V.heap.size (some ⟨V.heap.size, 0, none⟩) 0 0 [] rfl (qhv (qaa (qab V.drew _)) (Nat.le_refl _)) y.A st.L.length y.c y.Hs rfl (HSL.out _ X2.out) HA0.out (by omega) X2.out.size ?_
        intro A8 c8 w8 hv8 hb8 hg8
        simp only [Nat.zero_add, List.nil_append] at hv8 ⊢
        have HB8 := Lib.hid (X2.out.trans hb8)
        have HV8 := Lib.hid hv8; have HG8 := Lib.hid hg8
        clear hv8 hb8 hg8
        refine hK.out _ _ (HSO.out _ HB8.out) ?_
        clear hK K
        (try simp only [pT])
        refine qaq (i := 9) rfl (by kernel_rfl) (fun K hK => ?_)
        rw [if_pos (by rfl)]
        refine qcs qdR (.tmp 56) (.tmp 58) rfl V.heap.size A8 st.L.length c8 y.Hs rfl HV8.out (some ⟨V.heap.size + 1, 0, none⟩) 1 1 [h] rfl (qfs ((HG8.out.block (V.heap.size + 1) (by show _ < ((V.drew.alloc _).alloc _).heap.size; rw [sz2]; show V.heap.size + 1 < V.heap.size + 2; omega) (by simp [Value.ownBlock])).trans (qae V.drew _ _))) (fun e => by cases e) (by omega) HB8.out.size ?_
        intro A9 c9 w9 hv9 hb9 hg9
        have HB9 := Lib.hid (HB8.out.trans hb9)
        have HV9 := Lib.hid hv9
        clear hv9 hb9 hg9
        refine hK.out _ _ (HSO.out _ HB9.out) ?_
        clear hK K
        (try simp only [pT])
        refine qaG (n := 10) (by kernel_rfl) ?_
        simp only [List.drop_succ_cons, List.drop_zero]
        have hb3 : w9.cell? ⟨br, 3, none⟩ = some (.slice y.A st.L.length y.c) := (HSO.out _ HB9.out).1
        have hf3 : w9.frozen? ⟨br, 3, none⟩ = false := by simp [World.frozen?, (HQV.out.below HB9.out).box]
        have hb4 : w9.cell? ⟨br, 4, none⟩ = some (.int .i64 st.last) := by rw [qaf (HQV.out.below HB9.out).box]; rfl
        have hf4 : w9.frozen? ⟨br, 4, none⟩ = false := by simp [World.frozen?, (HQV.out.below HB9.out).box]
        have hz2 : w9.cell? ⟨w.heap.size, 2, none⟩ = some (.int .i64 h.d.zx) := (HSO.out _ HB9.out).2 2 _ rfl
        have hnq : w.heap.size ≠ br := by have := HLQ.out; omega
        have HF9 := Lib.hid (HFIN.out w9 A9 c9 HB9.out HV9.out)
        clear hHeld HSO HSL HFIN HV9 HB9
        go_wp2_with fail
        go_ret
        exact HF9.out
      ·go_simp
       refine hK.out _ _ (HSO.out _ X4.out) ?_
       clear hK K
       (try simp only [pT])
       refine qaq (i := 1) rfl (by kernel_rfl) (fun K hK => ?_)
       go_simp
       refine hK.out _ _ (HSO.out _ X3.out) ?_
       clear hK K
       (try simp only [pT])
       refine qaq (i := 6) rfl (by kernel_rfl) (fun K hK => ?_)
       rw [if_pos (by rfl)]
       refine qcs qdR (.tmp 51) (.tmp 55) rfl V.heap.size (some ⟨V.heap.size + 1, 0, none⟩) 0 0 [] rfl (qhv (qae V.drew _ _) (Nat.le_succ _)) y.A st.L.length y.c y.Hs rfl (HSL.out _ X3.out) HA0.out (by omega) X3.out.size ?_
       intro A8 c8 w8 hv8 hb8 hg8
       simp only [Nat.zero_add, List.nil_append] at hv8 ⊢
       have HB8 := Lib.hid (X3.out.trans hb8)
       have HV8 := Lib.hid hv8; have HG8 := Lib.hid hg8
       clear hv8 hb8 hg8
       refine hK.out _ _ (HSO.out _ HB8.out) ?_
       clear hK K
       (try simp only [pT])
       refine qaq (i := 9) rfl (by kernel_rfl) (fun K hK => ?_)
       rw [if_pos (by rfl)]
       refine qcs qdR (.tmp 56) (.tmp 58) rfl V.heap.size A8 st.L.length c8 y.Hs rfl HV8.out (some ⟨V.heap.size, 0, none⟩) 1 1 [h] rfl (qfs ((HG8.out.block V.heap.size (by show _ < ((V.drew.alloc _).alloc _).heap.size; rw [sz2]; show V.heap.size < V.heap.size + 2; omega) (by simp [Value.ownBlock])).trans (qaa (qab V.drew _)))) (fun e => by cases e) (by omega) HB8.out.size ?_
       intro A9 c9 w9 hv9 hb9 hg9
       have HB9 := Lib.hid (HB8.out.trans hb9)
       have HV9 := Lib.hid hv9
       clear hv9 hb9 hg9
       refine hK.out _ _ (HSO.out _ HB9.out) ?_
       clear hK K
       (try simp only [pT])
       refine qaG (n := 10) (by kernel_rfl) ?_
       simp only [List.drop_succ_cons, List.drop_zero]
       have hb3 : w9.cell? ⟨br, 3, none⟩ = some (.slice y.A st.L.length y.c) := (HSO.out _ HB9.out).1
       have hf3 : w9.frozen? ⟨br, 3, none⟩ = false := by simp [World.frozen?, (HQV.out.below HB9.out).box]
       have hb4 : w9.cell? ⟨br, 4, none⟩ = some (.int .i64 st.last) := by rw [qaf (HQV.out.below HB9.out).box]; rfl
       have hf4 : w9.frozen? ⟨br, 4, none⟩ = false := by simp [World.frozen?, (HQV.out.below HB9.out).box]
       have hz2 : w9.cell? ⟨w.heap.size, 2, none⟩ = some (.int .i64 h.d.zx) := (HSO.out _ HB9.out).2 2 _ rfl
       have hnq : w.heap.size ≠ br := by have := HLQ.out; omega
       have HF9 := Lib.hid (HFIN.out w9 A9 c9 HB9.out HV9.out)
       clear hHeld HSO HSL HFIN HV9 HB9
       go_wp2_with fail
       go_ret
       exact HF9.out
   ·have bz : (p.r.zx != p.d.zx) = true := by simp [hz]
    have HN := Lib.hid (show qaL st p = 1 by unfold qaL; rw [if_neg (by rw [HER.out]; simp), if_pos (.inr hz)])
    clear hz HPU
    go_wp2_with fail
    go_ret
    exact qds HQ.out HB2.out HN.out (by decide)
  ·have bx : (p.r.xi != p.d.xi) = true := by simp [hx]
   have HN := Lib.hid (show qaL st p = 1 by unfold qaL; rw [if_neg (by rw [HER.out]; simp), if_pos (.inl hx)])
   clear hx HPU
   go_wp2_with fail
   go_ret
   exact qds HQ.out HB2.out HN.out (by decide)
 ·have br_ : (er != 0) = true := by simp [hr]
  have HN := Lib.hid (show qaL st p = er by unfold qaL; rw [hEr, if_pos hr])
  have HR0 := Lib.hid hr
  clear hr hEr HPU
  go_wp2_with fail
  go_ret
  exact qds HQ.out HB2.out HN.out HR0.out
end Go.Proofs.YtbpmmmnphpkdjaaGreatDoor
