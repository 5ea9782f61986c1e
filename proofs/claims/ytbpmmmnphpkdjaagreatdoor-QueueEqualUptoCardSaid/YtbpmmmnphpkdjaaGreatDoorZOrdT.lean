/- The law's majority. Condition: at most 2^20 numbers. A queue of equal voters: what is committed has a majority. No program; no condition. A row of numbers that may stand behind its block's start: one more appended. Condition: at most 2^20 numbers. The state of the law QueueOrder's loop: a queue, a row of numbers that wait, a row of acknowledgements, apart in memory. Condition: as at the calls. QueueOrder's state: an acknowledgement is written; the first that waits is taken; each call of the script. Condition: as at the calls. -/
import Derived.Test.YtbpmmmnphpkdjaaGreatDoorZVcP
import Derived.Test.YtbpmmmnphpkdjaaGreatDoorZVto
import Derived.Deep.Onto
namespace Go.Proofs.YtbpmmmnphpkdjaaGreatDoor
open Go.RowKit Go.MapKept Go.Maps
/-- do more than half of them have z? -/
def majB (l : List Int) (z : Int) : Bool := decide (l.length = 0) || decide (l.length < 2 * l.countP (fun x => decide (z ≤ x)))
set_option maxRecDepth 100000 in
set_option maxHeartbeats 4000000 in
theorem majority_any (A : Option Addr) (n c : Nat) (l : List Int) (z : Int) (w : World) (hz : Sl w w.heap.size encN 1 A n l) (hn : n ≤ 1048576) : Calls Tryz.prog 24 #[.slice A n c, .int .i64 z] w (CtnB (majB l z) w) := by
  have HZ := Lib.hid hz; have HL := Lib.hid hz.len
  clear hz
  go_enter Tryz.func24, Tryz.ntmps24
  go_wp2_with fail
  go_loop [5, 6] (fun s i => ∃ k m : Nat, i = .int .i64 ↑k ∧ k ≤ n ∧ m ≤ k ∧ s = .int .i64 ↑m ∧ (l.take k).countP (fun x => decide (z ≤ x)) = m) (fun _ i => n - (intOf i).toNat)
  case atStart => exact ⟨0, 0, rfl, Nat.zero_le _, Nat.le_refl _, rfl, rfl⟩
  case round =>
    obtain ⟨k, m, rfl, hk, hmk, rfl, hm⟩ := hrel
    have HM := Lib.hid hm; clear hm
    by_cases hlt : k < n
    · obtain ⟨b, off, rfl, _, hc⟩ := HZ.out.cells hlt
      have c0 : w.cell? ⟨b, off + k, none⟩ = some (.int .i64 l[k]!) := by have := hc 0 _ rfl; simpa using this
      have HT := Lib.hid (show l.take (k + 1) = l.take k ++ [l[k]!] from take_snoc l k (by rw [HL.out]; exact hlt))
      clear hc
      generalize l[k]! = y at *
      by_cases hy : z ≤ y
      · have hb : decide (z ≤ y) = true := decide_eq_true hy
        have HN := Lib.hid (show (l.take (k + 1)).countP (fun x => decide (z ≤ x)) = m + 1 by rw [HT.out, List.countP_append, HM.out]; simp [hy])
        clear hy
        go_wp2_with fail
        go_round
        case rel => exact ⟨k + 1, m + 1, by go_num, by omega, by omega, by go_num, HN.out⟩
        case measure => simp [intOf]; omega
      · have hb : decide (z ≤ y) = false := decide_eq_false hy
        have HN := Lib.hid (show (l.take (k + 1)).countP (fun x => decide (z ≤ x)) = m by rw [HT.out, List.countP_append, HM.out]; simp [hy])
        clear hy
        go_wp2_with fail
        go_round
        case rel => exact ⟨k + 1, m, by go_num, by omega, by omega, rfl, HN.out⟩
        case measure => simp [intOf]; omega
    · obtain rfl : k = n := by omega
      have HN := Lib.hid (show majB l z = (decide (k = 0) || decide (k < 2 * m)) by
        have h := HM.out
        rw [← HL.out, List.take_length] at h
        unfold majB
        rw [h, HL.out])
      by_cases h0 : k = 0
      · subst h0
        go_wp2_with fail
        go_ret
        exact CtnB.mk (by rw [HN.out]; rfl)
      · have b0 : decide (k = 0) = false := decide_eq_false h0
        have b1 : ((k : Int) == 0) = false := by simpa using h0
        have hw : wrap64 (2 * (m : Int)) = ((2 * m : Nat) : Int) := by unfold wrap64; omega
        go_wp2_with fail
        go_ret
        exact CtnB.mk (by rw [HN.out, b0]; simp; omega)
end Go.Proofs.YtbpmmmnphpkdjaaGreatDoor
namespace Go.Proofs.YtbpmmmnphpkdjaaGreatDoor
open Go.RowKit Go.MapKept Go.Maps
/-- the voters are of one group and of one weight -/
def EqVs (st : QuT) : Prop := st.vs = List.replicate st.acked.length (0, 1)
theorem EqVs.made (bound : Int) (v : Nat) : EqVs (newS bound v) := by
  show List.replicate v (0, 1) = List.replicate (List.replicate v (0 : Int)).length (0, 1)
  rw [List.length_replicate]
theorem EqVs.push {st : QuT} (H : EqVs st) (p : PrT) : EqVs (pushS st p) := by
  unfold pushS
  by_cases h : pushE st p = 0
  · rw [if_pos h]; exact H
  · rw [if_neg h]; exact H
theorem EqVs.ack {st : QuT} (H : EqVs st) (v z : Int) : EqVs (ackT st v z) := by
  unfold ackT
  by_cases h : 0 ≤ v ∧ v < st.acked.length ∧ 0 ≤ z ∧ z ≤ st.last
  · rw [if_pos h]
    show st.vs = List.replicate (ackL st.acked v.toNat z).length (0, 1)
    rw [ackL_len]; exact H
  · rw [if_neg h]; exact H
theorem EqVs.comm {st : QuT} (H : EqVs st) : EqVs (commT st) := by
  unfold commT
  by_cases h : 0 < rdN st
  · rw [if_pos h]; exact H
  · rw [if_neg h]; exact H
theorem EqVs.clear {st : QuT} (H : EqVs st) : EqVs (clearS st) := by
  show st.vs = List.replicate (st.acked.map _).length (0, 1)
  rw [List.length_map]; exact H
theorem commT_zxs {st : QuT} (h : 0 < rdN st) : zxs (commT st).L = (zxs st.L).tail ∧ (commT st).committed = st.L[0]!.d.zx ∧ (commT st).acked = st.acked := by
  rw [show commT st = commS st from if_pos h]
  exact ⟨zxs_tail st.L, rfl, rfl⟩
theorem zxs_head {st : QuT} (h : 0 < rdN st) : 0 < (zxs st.L).length ∧ (zxs st.L)[0]! = st.L[0]!.d.zx := by
  obtain ⟨L, bd, vs, ak, la, co⟩ := st
  cases L with
  | nil => exact absurd h (by simp [rdN, zxs, readyN])
  | cons p r => exact ⟨by simp [zxs], rfl⟩
theorem order_maj {st : QuT} (I : QuInv st) (H : EqVs st) (h : 0 < rdN st) : majB st.acked st.L[0]!.d.zx = true := by
  have h0 := zxs_head h
  have hz : st.L[0]!.d.zx ∈ zxs st.L := by
    rw [← h0.2, getElem!_pos _ 0 h0.1]; exact List.getElem_mem h0.1
  have h1 := I.z1 _ hz
  have h2 : st.L[0]!.d.zx ≤ chosenZ st.vs st.acked st.last := by
    rw [← h0.2]; exact (readyN_iff I.rise 0 h0.1).2 h
  have h3 := (chosen_iff h1.1 h1.2.2).1 h2
  unfold majB
  unfold refCh at h3
  by_cases hn : st.acked.length = 0
  · rw [decide_eq_true hn]; rfl
  · rw [decide_eq_false hn, Bool.false_or] at h3 ⊢
    rw [show st.vs = List.replicate st.acked.length (0, 1) from H, chB_equal st.acked 0 1 _ (by omega) I.a9 (by omega) (by omega)] at h3
    exact h3
/-- what is committed rises -/
theorem order_rise {st : QuT} (I : QuInv st) (h : 0 < rdN st) : st.committed < st.L[0]!.d.zx := by
  have h0 := zxs_head h
  exact (I.z1 _ (by rw [← h0.2, getElem!_pos _ 0 h0.1]; exact List.getElem_mem h0.1)).2.1
/-- clearing: the acknowledgements are cut down to what is committed -/
theorem clearS_acked (st : QuT) : (clearS st).acked = st.acked.map (fun x => min x st.committed) := rfl
theorem pushS_zxs {st : QuT} {p : PrT} : zxs (pushS st p).L = if pushE st p = 0 then zxs st.L ++ [p.d.zx] else zxs st.L := by
  unfold pushS
  by_cases h : pushE st p = 0
  · rw [if_pos h, if_pos h]; exact zxs_snoc st.L p
  · rw [if_neg h, if_neg h]
end Go.Proofs.YtbpmmmnphpkdjaaGreatDoor
namespace Go.Proofs.YtbpmmmnphpkdjaaGreatDoor
open Go.RowKit Go.MapKept Go.Maps
theorem elemL64 : Elem encN 75 2 1 8 (.int .i64 0) := ⟨Tryz.underlying75, by kernel_rfl, rfl, fun _ => rfl, by decide, fun x u hu => by simp [encN] at hu; subst hu; rfl, by decide⟩
theorem flatMap_encN (l : List Int) : l.flatMap encN = l.map (Value.int .i64) := by
  induction l with
  | nil => rfl
  | cons x r ih => rw [List.flatMap_cons, ih]; rfl
structure PuA (lo : Nat) (w : World) (A : Option Addr) (n c : Nat) (l : List Int) : Prop where
  len : l.length = n
  le : n ≤ c
  at_ : (A = none ∧ c = 0) ∨ ∃ b off, A = some ⟨b, off, none⟩ ∧ lo ≤ b ∧ b < w.heap.size ∧ (∀ i, i < n → w.cell? ⟨b, off + i, none⟩ = some (.int .i64 l[i]!)) ∧ ∀ i, i < c → (w.cell? ⟨b, off + i, none⟩).isSome = true ∧ w.frozen? ⟨b, off + i, none⟩ = false
section
variable {lo : Nat} {w w' : World} {A : Option Addr} {n c : Nat} {l : List Int}
theorem PuA.nil : PuA lo w none 0 0 [] := ⟨rfl, Nat.le_refl _, .inl ⟨rfl, rfl⟩⟩
theorem PuA.fr {own : List Nat} (H : PuA lo w A n c l) (hf : Fr own w w') (hn : ∀ b off, A = some ⟨b, off, none⟩ → b ∉ own) : PuA lo w' A n c l := by
  refine ⟨H.len, H.le, ?_⟩
  rcases H.at_ with h | ⟨b, off, rfl, h1, h2, h3, h4⟩
  · exact .inl h
  · have hb := hf.block b h2 (hn b off rfl)
    refine .inr ⟨b, off, rfl, h1, Nat.lt_of_lt_of_le h2 hf.size, fun i hi => ?_, fun i hi => ?_⟩
    · rw [World.cell?_of_block (a := ⟨b, off + i, none⟩) hb]; exact h3 i hi
    · rw [World.cell?_of_block (a := ⟨b, off + i, none⟩) hb, World.frozen?_of_block (a := ⟨b, off + i, none⟩) hb]; exact h4 i hi
theorem PuA.own {B : Nat} {v : Value} (h : w.ownsRow B 2 1 v (n + 1) (l.flatMap encN)) (hlo : lo ≤ B) (hl : l.length = n + 1) : ∃ b c', v = .slice (some ⟨b, 0, none⟩) (n + 1) c' ∧ B ≤ b ∧ PuA lo w (some ⟨b, 0, none⟩) (n + 1) c' l := by
  have h0 := h
  rcases h.2 with ⟨_, h1⟩ | ⟨g, cap, cur, rfl, hB, hg, hnc, hcm, hsz, hcur⟩
  · omega
  · refine ⟨g, cap, rfl, hB, hl, hnc, .inr ⟨g, 0, rfl, Nat.le_trans hlo hB, (Array.getElem?_eq_some_iff.1 hg).1, fun i hi => ?_, fun i hi => ?_⟩⟩
    · rw [Nat.zero_add, h0.cellAt i (by omega)]
      rw [flatMap_encN, List.getElem?_map, List.getElem?_eq_getElem (by omega), getElem!_pos l i (by omega)]; rfl
    · rw [Nat.zero_add]
      have hc : w.cell? ⟨g, i, none⟩ = cur[i]? := by simp [World.cell?, hg]
      constructor
      · rw [hc, Array.getElem?_eq_getElem (by omega)]; rfl
      · simp [World.frozen?, hg]
theorem PuA.head (H : PuA lo w A n c l) (hn : 0 < n) : ∃ b off, A = some ⟨b, off, none⟩ ∧ w.cell? ⟨b, off, none⟩ = some (.int .i64 l[0]!) := by
  rcases H.at_ with ⟨_, h⟩ | ⟨b, off, rfl, _, _, h3, _⟩
  · have := H.le; omega
  · exact ⟨b, off, rfl, h3 0 hn⟩
/-- all but the first -/
theorem PuA.tail (H : PuA lo w A n c l) (hn : 0 < n) : ∃ b off, A = some ⟨b, off, none⟩ ∧ PuA lo w (some ⟨b, off + 1, none⟩) (n - 1) (c - 1) l.tail ∧ (c = 1 → PuA lo w (some ⟨b, off, none⟩) (n - 1) (c - 1) l.tail) := by
  have hle := H.le
  rcases H.at_ with ⟨_, h⟩ | ⟨b, off, rfl, h1, h2, h3, h4⟩
  · omega
  · have hl : l.tail.length = n - 1 := by rw [List.length_tail, H.len]
    refine ⟨b, off, rfl, ⟨hl, by omega, .inr ⟨b, off + 1, rfl, h1, h2, fun i hi => ?_, fun i hi => ?_⟩⟩, fun hc => ⟨hl, by omega, .inr ⟨b, off, rfl, h1, h2, fun i hi => by omega, fun i hi => by omega⟩⟩⟩
    · have hi2 : i < l.tail.length := by omega
      rw [show off + 1 + i = off + (i + 1) by omega, h3 (i + 1) (by omega), getElem!_pos l.tail i hi2, List.getElem_tail, getElem!_pos l (i + 1) (by rw [H.len]; omega)]
    · rw [show off + 1 + i = off + (i + 1) by omega]; exact h4 (i + 1) (by omega)
/-- one more: where it lies there was room, or in a new block -/
theorem PuA.app (H : PuA lo w A n c l) (hlo : lo ≤ w.heap.size) (ty : TypeId) (g : Nat) (z : Int) (hg : w.cell? ⟨g, 0, none⟩ = some (.int .i64 z)) (hn : n ≤ 1048576) :
    ∃ A' c' w', (Builtin.append_ #[75, 75] ty #[.slice A n c, .slice (some ⟨g, 0, none⟩) 1 1]).run Tryz.prog w = .ok (.slice A' (n + 1) c') w' ∧ PuA lo w' A' (n + 1) c' (l ++ [z]) ∧
      ((A' = A ∧ ∃ b off, A = some ⟨b, off, none⟩ ∧ Fr [b] w w') ∨ (Below w.heap.size w w' ∧ ∃ b, A' = some ⟨b, 0, none⟩ ∧ w.heap.size ≤ b)) := by
  obtain ⟨i0, hi0, hz0, hz1, hz2⟩ := info_partsI elemL64.info
  have hnews : ∀ (j : Nat) (u : Value), [Value.int .i64 z][j]? = some u → w.cell? ((⟨g, 0, none⟩ : Addr).add j) = some u := by
    intro j u hu
    cases j with
    | zero => rw [Addr.add_lit]; simp at hu; subst hu; exact hg
    | succ j => simp at hu
  have h1 : ∀ u ∈ [Value.int .i64 z], u.oneCell' = true := by intro u hu; simp at hu; subst hu; rfl
  have hll : (l ++ [z]).length = n + 1 := by rw [List.length_append, H.len]; rfl
  rcases H.at_ with ⟨rfl, rfl⟩ | ⟨b, off, rfl, hlb, hbs, hc, hsp⟩
  · obtain rfl : n = 0 := by have := H.le; omega
    obtain rfl : l = [] := List.eq_nil_of_length_eq_zero H.len
    obtain ⟨v', w', hrun, r1, r2, _⟩ := run_append_own (P := Tryz.prog) w w.heap.size 75 ty 2 i0 _ 1 8 elemL64.under hi0 hz0 hz1 hz2 rfl (by decide) (.slice none 0 0) 0 [] (World.ownsRow_nil w _ _ 1) ⟨g, 0, none⟩ 1 1 [.int .i64 z] rfl hnews h1 (by decide) (by decide) (Nat.le_refl _)
    obtain ⟨b, c', rfl, hB, hp⟩ := PuA.own (lo := lo) (n := 0) (l := [z]) r1 hlo rfl
    exact ⟨_, c', w', hrun, hp, .inr ⟨(Below.refl _ w).grown r2 (Nat.le_refl _) (fun j hj => by cases hj), b, rfl, hB⟩⟩
  · by_cases hr : n + 1 ≤ c
    · have hrun := run_append_room_cells (P := Tryz.prog) (w := w) 75 ty 2 i0 elemL64.under hi0 b off n c ⟨g, 0, none⟩ 1 1 [.int .i64 z] (by rw [hz1]; rfl) hnews h1 hr
        (fun j hj => by obtain rfl : j = 0 := by simpa using hj
                        rw [hz1, Nat.mul_one]; exact (hsp n (by omega)).1) (fun j hj => by obtain rfl : j = 0 := by simpa using hj
                                                                                           rw [hz1, Nat.mul_one]; exact (hsp n (by omega)).2)
      rw [hz1, Nat.mul_one] at hrun
      have hF := fr_setCells w b (off + n) [.int .i64 z]
      refine ⟨_, c, _, hrun, ⟨hll, hr, .inr ⟨b, off, rfl, hlb, Nat.lt_of_lt_of_le hbs hF.size, fun i hi => ?_, fun i hi => ?_⟩⟩, .inl ⟨rfl, b, off, rfl, hF⟩⟩
      · by_cases hi2 : i < n
        · rw [World.cell?_setCells_out b _ _ _ _ (fun _ _ => Or.inl (by show off + i < off + n; omega)), hc i hi2, getBang_snoc _ _ _ (by rw [H.len]; exact hi2)]
        · obtain rfl : i = n := by omega
          have := World.cell?_setCells_in b [.int .i64 z] (off + i) w (fun j hj => by obtain rfl : j = 0 := by simpa using hj
                                                                                      exact (hsp i (by omega)).1) 0 Nat.zero_lt_one
          rw [Nat.add_zero] at this
          rw [this]
          have e : (l ++ [z])[i]! = z := by have := getBang_last l z; rw [H.len] at this; exact this
          rw [e]; rfl
      · rw [World.frozen?_setCells]
        refine ⟨?_, (hsp i hi).2⟩
        by_cases hi2 : i = n
        · subst hi2
          have := World.cell?_setCells_in b [.int .i64 z] (off + i) w (fun j hj => by obtain rfl : j = 0 := by simpa using hj
                                                                                      exact (hsp i (by omega)).1) 0 Nat.zero_lt_one
          rw [Nat.add_zero] at this
          rw [this]; rfl
        · rw [World.cell?_setCells_out b _ _ _ _ (fun _ _ => by
            show off + i < off + n ∨ off + n + 1 ≤ off + i
            omega)]
          exact (hsp i hi).1
    · obtain ⟨v', w', hrun, r1, r2⟩ := run_append_arg_grows (P := Tryz.prog) (w := w) 75 ty 2 i0 _ 1 8 elemL64.under hi0 hz0 hz1 hz2 rfl (by decide) ⟨b, off, none⟩ n c (l.flatMap encN) (by rw [flatMap_encN, List.length_map, H.len, Nat.mul_one])
        (fun j u hu => by
          rw [Addr.add_lit]
          rw [flatMap_encN, List.getElem?_map] at hu
          have hj : j < n := by
            apply Classical.byContradiction; intro hj
            rw [List.getElem?_eq_none (by rw [H.len]; omega)] at hu; cases hu
          rw [List.getElem?_eq_getElem (by rw [H.len]; exact hj)] at hu
          rw [hc j hj, getElem!_pos l j (by rw [H.len]; exact hj)]; exact hu) ⟨g, 0, none⟩ 1 1 [.int .i64 z] rfl hnews (by omega) (by unfold maxLen; omega) (by omega)
      have r1' : w'.ownsRow w.heap.size 2 1 v' (n + 1) ((l ++ [z]).flatMap encN) := by rw [List.flatMap_append]; exact r1
      obtain ⟨b2, c', rfl, hB, hp⟩ := PuA.own (lo := lo) (l := l ++ [z]) r1' hlo hll
      exact ⟨_, c', w', hrun, hp, .inr ⟨(Below.refl _ w).grown r2 (Nat.le_refl _) (fun j hj => by cases hj), b2, rfl, hB⟩⟩
end
end Go.Proofs.YtbpmmmnphpkdjaaGreatDoor
namespace Go.Proofs.YtbpmmmnphpkdjaaGreatDoor
open Go.RowKit Go.MapKept Go.Maps
structure OrS (w0 w : World) (bq gk : Nat) (st : QuT) (x : QuX) (R : Nat → Prop) (A : Option Addr) (n c : Nat) (l ks : List Int) : Prop where
  q : QuW w bq x R st
  inv : QuInv st
  eqv : EqVs st
  lo : w0.heap.size ≤ bq ∧ w0.heap.size ≤ x.gr ∧ w0.heap.size ≤ x.ga ∧ w0.heap.size ≤ gk
  b : Below w0.heap.size w0 w
  kn : gk ≠ bq ∧ gk ≠ x.gr ∧ gk ≠ x.ga ∧ ¬ R gk
  pn : ∀ b off, A = some ⟨b, off, none⟩ → b ≠ bq ∧ b ≠ x.gr ∧ b ≠ x.ga ∧ ¬ R b ∧ b ≠ gk
  p : PuA w0.heap.size w A n c l
  k : w.heap[gk]? = some (.cells (ks.map (Value.int .i64)).toArray 2 (0, 0))
section
variable {w0 w w' : World} {bq gk : Nat} {st st' : QuT} {x : QuX} {R : Nat → Prop} {A : Option Addr} {n c : Nat} {l ks : List Int}
theorem OrS.kl (H : OrS w0 w bq gk st x R A n c l ks) : gk < w.heap.size := (Array.getElem?_eq_some_iff.1 H.k).1
theorem OrS.pl (H : OrS w0 w bq gk st x R A n c l ks) {b off : Nat} (h : A = some ⟨b, off, none⟩) : b < w.heap.size := by
  rcases H.p.at_ with ⟨e, _⟩ | ⟨b', off', e, _, h2, _⟩
  · rw [e] at h; cases h
  · rw [e] at h; injection h with h; injection h with h1 h3; rw [← h1]; exact h2
theorem OrS.env (H : OrS w0 w bq gk st x R A n c l ks) (hE : Env w0) : Env w := hE.below (Nat.le_refl _) H.b
theorem OrS.later (H : OrS w0 w bq gk st x R A n c l ks) (h : Below w.heap.size w w') : OrS w0 w' bq gk st x R A n c l ks :=
  ⟨H.q.below h, H.inv, H.eqv, H.lo, H.b.trans (h.mono H.b.size), H.kn, H.pn, H.p.fr (Fr.of_below (own := []) h) (fun _ _ _ => by simp), (h.block _ H.kl).trans H.k⟩
/-- a call on the queue -/
theorem OrS.step (H : OrS w0 w bq gk st x R A n c l ks) (hs : QuStep bq x R st' w w') (I : QuInv st') (V : EqVs st') : ∃ x' R', OrS w0 w' bq gk st' x' R' A n c l ks := by
  obtain ⟨⟨x', R', k1, k2, k3, k4⟩, k5⟩ := hs
  have hkl := H.kl
  refine ⟨x', R', k1, I, V, ⟨H.lo.1, ?_, by rw [k2]; exact H.lo.2.2.1, H.lo.2.2.2⟩, H.b.trans (k5.below H.b.size (fun g hg => ?_)), ⟨H.kn.1, ?_, by rw [k2]; exact H.kn.2.2.1, fun hr => ?_⟩, fun b off e => ?_, H.p.fr k5 (fun b off e => ?_), (k5.block gk hkl ?_).trans H.k⟩
  · rcases k3 with h | h
    · rw [h]; exact H.lo.2.1
    · exact Nat.le_trans H.b.size h
  · simp only [List.mem_cons, List.not_mem_nil, or_false] at hg
    rcases hg with rfl | rfl | rfl
    · exact H.lo.1
    · exact H.lo.2.1
    · exact H.lo.2.2.1
  · rcases k3 with h | h
    · rw [h]; exact H.kn.2.1
    · omega
  · rcases k4 gk hr with h | h
    · exact H.kn.2.2.2 h
    · omega
  · have hp := H.pn b off e
    have hpl := H.pl e
    refine ⟨hp.1, ?_, by rw [k2]; exact hp.2.2.1, fun hr => ?_, hp.2.2.2.2⟩
    · rcases k3 with h | h
      · rw [h]; exact hp.2.1
      · omega
    · rcases k4 b hr with h | h
      · exact hp.2.2.2.1 h
      · omega
  · have hp := H.pn b off e
    simp [hp.1, hp.2.1, hp.2.2.1]
  · simp [H.kn.1, H.kn.2.1, H.kn.2.2.1]
/-- one more waits -/
theorem OrS.app {A' : Option Addr} {c' : Nat} {z : Int} (H : OrS w0 w bq gk st x R A n c l ks) (hp : PuA w0.heap.size w' A' (n + 1) c' (l ++ [z]))
    (h : (A' = A ∧ ∃ b off, A = some ⟨b, off, none⟩ ∧ Fr [b] w w') ∨ (Below w.heap.size w w' ∧ ∃ b, A' = some ⟨b, 0, none⟩ ∧ w.heap.size ≤ b)) : OrS w0 w' bq gk st x R A' (n + 1) c' (l ++ [z]) ks := by
  have hkl := H.kl
  rcases h with ⟨rfl, b, off, e, hf⟩ | ⟨hb, b, rfl, hge⟩
  · have hn := H.pn b off e
    have hlo : w0.heap.size ≤ b := by
      rcases H.p.at_ with ⟨e', _⟩ | ⟨b', off', e', h1, _⟩
      · rw [e'] at e; cases e
      · rw [e'] at e; injection e with e; injection e with e1 e2; rw [← e1]; exact h1
    refine ⟨H.q.fr hf (fun g hg => ?_), H.inv, H.eqv, H.lo, H.b.trans (hf.below H.b.size (fun g hg => ?_)), H.kn, H.pn, hp, (hf.block gk hkl ?_).trans H.k⟩
    · rw [List.mem_singleton.1 hg]; exact ⟨hn.1, hn.2.1, hn.2.2.1, hn.2.2.2.1⟩
    · rw [List.mem_singleton.1 hg]; exact hlo
    · rw [List.mem_singleton]; exact fun h => hn.2.2.2.2 h.symm
  · have K := H.later hb
    have h1 := H.q.lt; have h2 := H.q.gr; have h3 := H.q.ga
    refine ⟨K.q, K.inv, K.eqv, K.lo, K.b, K.kn, fun b' off' e => ?_, hp, K.k⟩
    injection e with e; injection e with e1 e2
    subst e1
    exact ⟨by omega, by omega, by omega, fun hr => by have := H.q.q.lt _ hr; omega, by omega⟩
end
end Go.Proofs.YtbpmmmnphpkdjaaGreatDoor
namespace Go.Proofs.YtbpmmmnphpkdjaaGreatDoor
open Go.RowKit Go.MapKept Go.Maps
theorem pushS_same (st : QuT) (p : PrT) : (pushS st p).committed = st.committed ∧ (pushS st p).bound = st.bound ∧ (pushS st p).acked = st.acked := by
  unfold pushS
  by_cases h : pushE st p = 0
  · rw [if_pos h]; exact ⟨rfl, rfl, rfl⟩
  · rw [if_neg h]; exact ⟨rfl, rfl, rfl⟩
theorem ackT_same (st : QuT) (v z : Int) : (ackT st v z).committed = st.committed ∧ (ackT st v z).bound = st.bound ∧ (ackT st v z).L = st.L ∧ (ackT st v z).acked.length = st.acked.length := by
  unfold ackT
  split
  · exact ⟨rfl, rfl, rfl, ackL_len _ _ _⟩
  · exact ⟨rfl, rfl, rfl, rfl⟩
theorem commT_same (st : QuT) : (commT st).bound = st.bound ∧ (commT st).acked = st.acked := by
  unfold commT
  split
  · exact ⟨rfl, rfl⟩
  · exact ⟨rfl, rfl⟩
theorem ack_in {st : QuT} {v z : Int} (h : 0 ≤ v ∧ v < st.acked.length ∧ 0 ≤ z ∧ z ≤ st.last) : ackC st v z = 0 ∧ (ackT st v z).acked = st.acked.set v.toNat (max st.acked[v.toNat]! z) := by
  refine ⟨if_pos h, ?_⟩
  unfold ackT
  rw [if_pos h]; rfl
theorem ack_out {st : QuT} {v z : Int} (h : ¬ (0 ≤ v ∧ v < st.acked.length ∧ 0 ≤ z ∧ z ≤ st.last)) : ackC st v z = 1 ∧ ackT st v z = st := ⟨if_neg h, if_neg h⟩
theorem set_self (l : List Int) (i : Nat) (h : i < l.length) : l.set i l[i]! = l := by
  rw [getElem!_pos l i h]
  exact List.set_getElem_self h
theorem slice_one (A : Option Addr) (n c : Nat) (hk : 0 < n) (w : World) : (Instr.sliceAt 75 (.slice A n c) (some (.int .i64 1)) none none).run Tryz.prog w = .ok (.slice (if c = 1 then A else A.map (·.add 1)) (n - 1) (c - 1)) w := by
  have h0 : (1 : Int) ≤ ↑n := by omega
  go_simp
theorem no26_q (k : Int) (w : World) (q : Nat) : Calls Tryz.prog 23 #[.int .i64 k] (w.drewN q) fun e w' => e = .returned (.int .i64 k) ∧ ∃ n, w' = w.drewN n :=
  (no26_any k (w.drewN q)).mono fun _ _ h => ⟨h.1, q, h.2.symm⟩
section
variable {w0 w w' : World} {bq gk : Nat} {st st' : QuT} {x : QuX} {R : Nat → Prop} {A : Option Addr} {n c : Nat} {l ks : List Int}
theorem map_set64 (ks : List Int) (i : Nat) (z : Int) : ((ks.map (Value.int .i64)).toArray).setIfInBounds i (.int .i64 z) = ((ks.set i z).map (Value.int .i64)).toArray := by simp [List.map_set]
theorem OrS.setK {i : Nat} (H : OrS w0 w bq gk st x R A n c l ks) (z : Int) : OrS w0 (w.setCell ⟨gk, i, none⟩ (.int .i64 z)) bq gk st x R A n c l (ks.set i z) := by
  have hf := fr_set w gk i (.int .i64 z)
  exact ⟨H.q.fr hf (fun g hg => by rw [List.mem_singleton.1 hg]; exact H.kn), H.inv, H.eqv, H.lo, H.b.trans (hf.below H.b.size (fun g hg => by rw [List.mem_singleton.1 hg]; exact H.lo.2.2.2)), H.kn, H.pn, H.p.fr hf (fun b off e => by rw [List.mem_singleton]; exact (H.pn b off e).2.2.2.2), (heap_setN H.k _).trans (by rw [map_set64])⟩
theorem OrS.kc (H : OrS w0 w bq gk st x R A n c l ks) {i : Nat} (hi : i < ks.length) : w.cell? ⟨gk, i, none⟩ = some (.int .i64 ks[i]!) := by
  rw [cellH H.k]
  simp [hi]
theorem OrS.kf (H : OrS w0 w bq gk st x R A n c l ks) (i : Nat) : w.frozen? ⟨gk, i, none⟩ = false := by
  simp [World.frozen?, H.k]
theorem OrS.ksl (H : OrS w0 w bq gk st x R A n c l ks) : Sl w w.heap.size encN 1 (some ⟨gk, 0, none⟩) ks.length ks :=
  ⟨rfl, fun _ => ⟨gk, 0, rfl, H.kl, fun j hj i u hu => by
    cases i with
    | zero =>
      have hu' : Value.int .i64 ks[j]! = u := by simpa [encN] using hu
      rw [← hu', Nat.mul_one, Nat.zero_add, Nat.add_zero]
      exact H.kc hj
    | succ i => simp [encN] at hu⟩⟩
theorem OrS.ksv (H : OrS w0 w bq gk st x R A n c l ks) {v : Nat} (hv : ks.length = v) : Sl w w.heap.size encN 1 (some ⟨gk, 0, none⟩) v ks := by
  subst hv; exact H.ksl
/-- a block beside the queue's own is as it was -/
theorem OrS.side (_H : OrS w0 w bq gk st x R A n c l ks) {g : Nat} (hg : g < w.heap.size) (hn : g ≠ bq ∧ g ≠ x.gr ∧ g ≠ x.ga) (hs : QuStep bq x R st' w w') : w'.heap[g]? = w.heap[g]? :=
  hs.2.block g hg (by simp [hn.1, hn.2.1, hn.2.2])
/-- the first that waits is taken -/
theorem OrS.tail (H : OrS w0 w bq gk st x R A n c l ks) (hn : 0 < n) : OrS w0 w bq gk st x R (if c = 1 then A else A.map (·.add 1)) (n - 1) (c - 1) l.tail ks := by
  obtain ⟨b, off, rfl, h1, h2⟩ := H.p.tail hn
  have hp := H.pn b off rfl
  by_cases hc : c = 1
  · rw [if_pos hc]
    exact ⟨H.q, H.inv, H.eqv, H.lo, H.b, H.kn, H.pn, h2 hc, H.k⟩
  · rw [if_neg hc]
    have e : (Option.map (fun a : Addr => a.add 1) (some ⟨b, off, none⟩)) = some ⟨b, off + 1, none⟩ := rfl
    rw [e]
    exact ⟨H.q, H.inv, H.eqv, H.lo, H.b, H.kn, fun b' off' e => by
      injection e with e; injection e with e1 e2; subst e1; exact hp, h1, H.k⟩
/-- nothing waits any more -/
theorem OrS.none_ (H : OrS w0 w bq gk st x R A n c l ks) : OrS w0 w bq gk st x R none 0 0 [] ks :=
  ⟨H.q, H.inv, H.eqv, H.lo, H.b, H.kn, fun _ _ e => (by cases e), PuA.nil, H.k⟩
/-- where the row lies behind an append -/
def OnP (A A' : Option Addr) (w w' : World) : Prop := (A' = A ∧ ∃ b off, A = some ⟨b, off, none⟩ ∧ Fr [b] w w') ∨ (Below w.heap.size w w' ∧ ∃ b, A' = some ⟨b, 0, none⟩ ∧ w.heap.size ≤ b)
/-- an element of the row of those that wait, laid at a new block -/
theorem wpList_appP {lo : Nat} {ops : Array Oper} {rest : List Oper} {o : Oper} {a : Act} {Q : Exit → Act → World → Prop} {w : World} {A : Option Addr} {n c : Nat} {l : List Int} (H : PuA lo w A n c l) (hlo : lo ≤ w.heap.size) (g : Nat) (z : Int) (hgd : o.guard = none) (s y : Operand)
    (ho : o.op = .call { callee := .builtin .append, args := #[s, y], argTypes := #[75, 75] }) (hs : a.eval s = .slice A n c) (hy : a.eval y = .slice (some ⟨g, 0, none⟩) 1 1) (hg : w.cell? ⟨g, 0, none⟩ = some (.int .i64 z)) (hn : n ≤ 1048576)
    (h : ∀ A' c' w', PuA lo w' A' (n + 1) c' (l ++ [z]) → OnP A A' w w' → wpList Tryz.prog ops Q rest (a.put o.dst (.slice A' (n + 1) c')) w') : wpList Tryz.prog ops Q (o :: rest) a w := by
  obtain ⟨A', c', w', hrun, hp, hor⟩ := H.app hlo o.type g z hg hn
  refine wpList_plain hgd fun K hK => ?_
  unfold Oper.wp
  simp [execOp, ho, resolve, invoke, builtin, hs, hy, hrun, Result.andThen]
  exact hK _ _ (h A' c' w' hp hor)
end
end Go.Proofs.YtbpmmmnphpkdjaaGreatDoor
