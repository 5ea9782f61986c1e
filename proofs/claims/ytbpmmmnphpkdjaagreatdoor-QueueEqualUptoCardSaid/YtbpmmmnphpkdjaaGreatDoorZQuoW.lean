/- The walk of queue.groups. Condition: the voters' numbers are int64. The walks of slices.Contains at int. Condition: at most 2^40 elements. The walk of queue.Quorum. Condition: the voters' groups are int64; at most 2^40 numbers. -/
import Derived.Test.YtbpmmmnphpkdjaaGreatDoorZQuoM
import Derived.Test.YtbpmmmnphpkdjaaGreatDoorZSl
import Derived.Test.YtbpmmmnphpkdjaaGreatDoorZRefD
import Derived.Test.YtbpmmmnphpkdjaaGreatDoorZClkE
namespace Go.Proofs.YtbpmmmnphpkdjaaGreatDoor
open Go.RowKit Go.MapKept Go.Maps
theorem gsum_snoc : ∀ (l : List VtV) (v : VtV) (g : Int), gsum (l ++ [v]) g = gsum l g + (if v.1 = g then v.2 else 0)
  | [], v, g => by simp [gsum]
  | x :: r, v, g => by
    rw [List.cons_append]
    unfold gsum
    rw [gsum_snoc r v g]
    omega
theorem take_snoc {α : Type} [Inhabited α] (l : List α) (k : Nat) (h : k < l.length) : l.take (k + 1) = l.take k ++ [l[k]!] := by
  rw [List.take_succ_eq_append_getElem h, getElem!_pos l k h]
theorem gsum_bound : ∀ (l : List VtV) (g : Int), (∀ v ∈ l, wOk v) → 0 ≤ gsum l g ∧ gsum l g ≤ l.length * 4294967296
  | [], g, _ => by simp [gsum]
  | v :: r, g, h => by
    have ih := gsum_bound r g (fun x hx => h x (List.mem_cons_of_mem _ hx))
    have hv := h v List.mem_cons_self
    unfold wOk at hv
    unfold gsum
    rw [List.length_cons]
    split <;> omega
theorem fit_bad {l : List VtV} {v : VtV} (hv : v ∈ l) (h : ¬ wOk v) : fitB l = false := by
  cases hf : fitB l with
  | false => rfl
  | true => exact absurd (fit_w hf v hv) h
theorem fit_long {l : List VtV} (h : 9 < l.length) : fitB l = false := by unfold fitB; simp; omega
theorem fit_sum {l : List VtV} {K : List Int} (h9 : l.length ≤ 9) (hw : ∀ v ∈ l, wOk v) (hK : ∀ g, g ∈ K ↔ 0 < gsum l g) : fitB l = decide (0 < K.length) := by
  have h1 : (l.all fun v => decide (0 ≤ v.2 ∧ v.2 ≤ 4294967296)) = true := by
    rw [List.all_eq_true]; intro v hv; exact decide_eq_true (hw v hv)
  unfold fitB
  rw [h1, decide_eq_true h9, Bool.true_and, Bool.and_true]
  rw [Bool.eq_iff_iff, decide_eq_true_eq, List.any_eq_true]
  constructor
  · rintro ⟨v, hv, hp⟩
    have hp : 0 < v.2 := of_decide_eq_true hp
    have : v.1 ∈ K := (hK v.1).2 (by
      obtain ⟨a, b, rfl⟩ := List.append_of_mem hv
      have ha := (gsum_bound a v.1 (fun x hx => hw x (by simp [hx]))).1
      have hb := (gsum_bound b v.1 (fun x hx => hw x (by simp [hx]))).1
      have e : ∀ (a : List VtV), gsum (a ++ v :: b) v.1 = gsum a v.1 + (v.2 + gsum b v.1) := by
        intro a
        induction a with
        | nil => simp [gsum]
        | cons x r ih =>
          rw [List.cons_append]
          show (if x.1 = v.1 then x.2 else 0) + gsum (r ++ v :: b) v.1 = (if x.1 = v.1 then x.2 else 0) + gsum r v.1 + _
          rw [ih]; omega
      rw [e]; omega)
    cases K with
    | nil => cases this
    | cons _ _ => simp
  · intro h
    obtain ⟨g, hg⟩ := List.exists_mem_of_length_pos h
    have hp := (hK g).1 hg
    apply Classical.byContradiction
    intro hn
    have : ∀ v ∈ l, v.2 = 0 := fun v hv => by
      have h1 := hw v hv
      have h2 : ¬ 0 < v.2 := fun h0 => hn ⟨v, hv, decide_eq_true h0⟩
      unfold wOk at h1
      omega
    have h0 : ∀ (l : List VtV), (∀ v ∈ l, v.2 = 0) → gsum l g = 0 := by
      intro l
      induction l with
      | nil => intro _; rfl
      | cons x r ih =>
        intro h
        unfold gsum
        rw [ih (fun v hv => h v (List.mem_cons_of_mem _ hv)), h x List.mem_cons_self]
        split <;> rfl
    rw [h0 l this] at hp
    omega
def GrpP (l : List VtV) (w : World) (e : Ending) (w' : World) : Prop :=
  (∃ mv, e = .returned (.tuple #[mv, .bool (fitB l)]) ∧ (fitB l = true → ∃ b K, mv = .map (some b) ∧ SumM w' b K (gsum l) ∧ (∀ g, g ∈ K ↔ 0 < gsum l g) ∧ w.heap.size ≤ b)) ∧ Below w.heap.size w w'
theorem GrpP.no {l : List VtV} {w w' : World} {mv : Value} (h : fitB l = false) (hb : Below w.heap.size w w') : GrpP l w (.returned (.tuple #[mv, .bool false])) w' :=
  ⟨⟨mv, by rw [h], fun h1 => by rw [h] at h1; cases h1⟩, hb⟩
/-- the loop's state -/
structure GrR (w : World) (l : List VtV) (b k : Nat) (wr : World) : Prop where
  s : ∃ K, SumM wr b K (gsum (l.take k)) ∧ ∀ g, g ∈ K ↔ 0 < gsum (l.take k) g
  ok : ∀ v ∈ l.take k, wOk v
  bel : Below w.heap.size w wr
theorem GrR.row {w : World} {l : List VtV} {b k : Nat} {wr w' : World} (h : GrR w l b k wr) (hb : Below wr.heap.size wr w') : GrR w l b k w' := by
  obtain ⟨K, hs, hK⟩ := h.s
  exact ⟨⟨K, hs.fr (Fr.of_below (own := []) hb) (by simp), hK⟩, h.ok, h.bel.trans (hb.mono h.bel.size)⟩
theorem GrR.skip {w : World} {l : List VtV} {b k : Nat} {wr : World} (h : GrR w l b k wr) (hk : k < l.length) (hv : l[k]!.2 = 0) : GrR w l b (k + 1) wr := by
  have e : gsum (l.take (k + 1)) = gsum (l.take k) := by
    funext g; rw [take_snoc l k hk, gsum_snoc, hv]; split <;> omega
  refine ⟨by rw [e]; exact h.s, fun v hm => ?_, h.bel⟩
  rw [take_snoc l k hk, List.mem_append, List.mem_singleton] at hm
  rcases hm with hm | rfl
  · exact h.ok v hm
  · unfold wOk; omega
theorem GrR.add {w : World} {l : List VtV} {b k : Nat} {wr : World} (h : GrR w l b k wr) (hk : k < l.length) (hv : 0 < l[k]!.2) (hw : wOk l[k]!) (hg : wfI l[k]!.1) (hb : w.heap.size ≤ b) :
    ∃ w', (Instr.mapUpdate 125 (.map (some b)) (.int .i64 l[k]!.1) (.int .i64 (gsum (l.take k) l[k]!.1 + l[k]!.2))).run Tryz.prog wr = .ok () w' ∧ GrR w l b (k + 1) w' := by
  obtain ⟨K, hs, hK⟩ := h.s
  obtain ⟨w', K', h1, h2, h3, h4, h5⟩ := hs.put hg (gsum (l.take k) l[k]!.1 + l[k]!.2)
  have e : gsum (l.take (k + 1)) = fun x => if x = l[k]!.1 then gsum (l.take k) l[k]!.1 + l[k]!.2 else gsum (l.take k) x := by
    funext g; rw [take_snoc l k hk, gsum_snoc]
    by_cases hgx : g = l[k]!.1
    · rw [if_pos hgx.symm, if_pos hgx, hgx]
    · rw [if_neg (Ne.symm hgx), if_neg hgx]; omega
  refine ⟨w', h1, ⟨⟨K', by rw [e]; exact h2, fun g => ?_⟩, fun v hm => ?_, h.bel.grown h4 h.bel.size (fun j hj => by injection hj with hj; omega)⟩⟩
  · rw [h3, hK, e]
    show _ ↔ 0 < (if g = l[k]!.1 then gsum (l.take k) l[k]!.1 + l[k]!.2 else gsum (l.take k) g)
    have := (gsum_bound (l.take k) l[k]!.1 h.ok).1
    by_cases hgx : g = l[k]!.1
    · rw [if_pos hgx]; constructor
      · intro _; omega
      · intro _; exact .inr hgx
    · rw [if_neg hgx]; constructor
      · rintro (h | h)
        · exact h
        · exact absurd h hgx
      · exact fun h => .inl h
  · rw [take_snoc l k hk, List.mem_append, List.mem_singleton] at hm
    rcases hm with hm | rfl
    · exact h.ok v hm
    · exact hw
theorem GrR.done {w : World} {l : List VtV} {b : Nat} {wr : World} (h : GrR w l b l.length wr) (h9 : l.length ≤ 9) (hb : w.heap.size ≤ b) : ∃ K, SumM wr b K (gsum l) ∧ GrpP l w (.returned (.tuple #[.map (some b), .bool (decide (0 < K.length))])) wr := by
  obtain ⟨⟨K, hs, hK⟩, hok, hbel⟩ := h
  rw [List.take_length] at hs hK hok
  refine ⟨K, hs, ⟨_, ?_, fun _ => ⟨b, K, rfl, hs, hK, hb⟩⟩, hbel⟩
  rw [fit_sum h9 hok hK]
set_option maxRecDepth 100000 in
set_option maxHeartbeats 20000000 in
theorem groups_any (A : Option Addr) (n c : Nat) (l : List VtV) (w : World) (hz : Sl w w.heap.size encVt 2 A n l) (hg : ∀ v ∈ l, wfI v.1) : Calls Tryz.prog 58 #[.slice A n c] w (GrpP l w) := by
  have hl := hz.len
  by_cases h0 : n = 0
  · subst h0
    have hl0 : l = [] := List.length_eq_zero_iff.1 hl
    subst hl0
    clear hz hg hl
    go_enter Tryz.func58, Tryz.ntmps58
    go_wp2_with fail
    go_ret2
    exact GrpP.no rfl (Below.refl _ _)
  by_cases h9 : 9 < n
  · have HF := Lib.hid (fit_long (l := l) (by rw [hl]; exact h9))
    have d0 : ((n : Int) == 0) = false := beq_eq_false_iff_ne.2 (by omega)
    have d9 : decide ((9 : Int) < (n : Int)) = true := decide_eq_true (by omega)
    clear hz hg hl h0 h9
    go_enter Tryz.func58, Tryz.ntmps58
    go_wp2_with fail
    go_ret2
    exact GrpP.no HF.out (Below.refl _ _)
  have hn9 : n ≤ 9 := by omega
  have HR0 := Lib.hid (show GrR w l w.heap.size 0 (w.alloc (.map #[] 0)) from ⟨⟨[], by rw [List.take_zero]; exact SumM.made w, fun g => by rw [List.take_zero]; simp [gsum]⟩, (fun v hv => by rw [List.take_zero] at hv; cases hv), (Below.refl _ w).alloc (Nat.le_refl _) _⟩)
  have HZ := Lib.hid hz; have HG := Lib.hid hg; have HL := Lib.hid hl
  have hmm := @run_makeMap Tryz.prog
  have d0 : ((n : Int) == 0) = false := beq_eq_false_iff_ne.2 (by omega)
  have d9 : decide ((9 : Int) < (n : Int)) = false := decide_eq_false (by omega)
  clear hz hg hl h0 h9
  go_enter Tryz.func58, Tryz.ntmps58
  go_wp2_with fail
  go_loopw [18] (fun i wr => ∃ k : Nat, i = .int .i64 ↑k ∧ k ≤ n ∧ GrR w l w.heap.size k wr) (fun i _ => n - (RowKit.intOf i).toNat)
  case atStart => exact ⟨0, rfl, Nat.zero_le _, HR0.out⟩
  case round =>
    obtain ⟨k, rfl, hk, hR⟩ := hrel
    have HR := Lib.hid hR
    by_cases hlt : k < n
    · obtain ⟨b, off, rfl, hbl, hc⟩ := (HZ.out.below hR.bel).cells hlt
      have hlk : k < l.length := by rw [HL.out]; exact hlt
      have HLK := Lib.hid hlk
      have c0 : wr.cell? ⟨b, off + k * 2, none⟩ = some (.int .i64 l[k]!.1) := hc 0 _ rfl
      have c1 : wr.cell? ⟨b, off + k * 2 + 1, none⟩ = some (.int .i64 l[k]!.2) := hc 1 _ rfl
      have hm : l[k]! ∈ l := by rw [getElem!_pos l k hlk]; exact List.getElem_mem _
      have HM := Lib.hid hm
      have HRA := Lib.hid (hR.row ((Below.refl _ wr).alloc (Nat.le_refl _) (.cells #[.int .i64 l[k]!.1, .int .i64 l[k]!.2] 82)))
      clear hR hc hbl hm hlk
      by_cases hw : wOk l[k]!
      · have HW := Lib.hid hw
        have e1 : decide (l[k]!.2 < 0) = false := decide_eq_false (by unfold wOk at hw; omega)
        have e2 : decide (4294967296 < l[k]!.2) = false := decide_eq_false (by unfold wOk at hw; omega)
        by_cases hp : 0 < l[k]!.2
        · have e3 : decide (0 < l[k]!.2) = true := decide_eq_true hp
          obtain ⟨w', ru, hR'⟩ := HRA.out.add HLK.out hp hw (HG.out _ HM.out) (Nat.le_refl _)
          obtain ⟨K, hs, _⟩ := HRA.out.s
          have rl := hs.look (HG.out _ HM.out) _ rfl
          have hov : IntKind.i64.wrap (gsum (l.take k) l[k]!.1 + l[k]!.2) = gsum (l.take k) l[k]!.1 + l[k]!.2 := by
            have h1 := gsum_bound (l.take k) l[k]!.1 HRA.out.ok
            have h2 : (l.take k).length ≤ 9 := by rw [List.length_take]; omega
            unfold wOk at hw
            rw [IntKind.wrap_i64]; omega
          have HR' := Lib.hid hR'
          clear hs hR' hp hw HR HRA
          generalize gsum (l.take k) l[k]!.1 = s at *
          generalize l[k]! = v at *
          go_wp2_with fail
          go_roundw
          case rel => exact ⟨k + 1, by go_num, by omega, HR'.out⟩
          case measure => show n - ((↑k + 1 : Int)).toNat < n - (↑k : Int).toNat; omega
        · have e3 : decide (0 < l[k]!.2) = false := decide_eq_false hp
          have HR' := Lib.hid (HRA.out.skip HLK.out (by unfold wOk at hw; omega))
          clear hp hw HR HRA
          generalize l[k]! = v at *
          go_wp2_with fail
          go_roundw
          case rel => exact ⟨k + 1, by go_num, by omega, HR'.out⟩
          case measure => show n - ((↑k + 1 : Int)).toNat < n - (↑k : Int).toNat; omega
      · have HF := Lib.hid (fit_bad HM.out hw)
        have HBA := Lib.hid HRA.out.bel
        clear HR HRA
        by_cases hneg : l[k]!.2 < 0
        · have e1 : decide (l[k]!.2 < 0) = true := decide_eq_true hneg
          clear hw hneg
          generalize l[k]! = v at *
          go_wp2_with fail
          go_ret2
          exact GrpP.no HF.out HBA.out
        · have e1 : decide (l[k]!.2 < 0) = false := decide_eq_false hneg
          have e2 : decide (4294967296 < l[k]!.2) = true := decide_eq_true (by unfold wOk at hw; omega)
          clear hw hneg
          generalize l[k]! = v at *
          go_wp2_with fail
          go_ret2
          exact GrpP.no HF.out HBA.out
    · have hkn : k = l.length := by rw [HL.out]; omega
      subst hkn
      obtain ⟨K, hs, hpost⟩ := HR.out.done (by rw [HL.out]; exact hn9) (Nat.le_refl _)
      have rn := hs.len
      have HP := Lib.hid hpost
      clear hs hpost hR
      generalize K.length = m at *
      go_wp2_with fail
      go_ret2
      exact HP.out
end Go.Proofs.YtbpmmmnphpkdjaaGreatDoor
namespace Go.Proofs.YtbpmmmnphpkdjaaGreatDoor
open Go.RowKit Go.MapKept Go.Maps
def encN (i : Int) : List Value := [.int .i64 i]
def IdxP (l : List Int) (v : Int) (w : World) (e : Ending) (w' : World) : Prop := ∃ r : Int, e = .returned (.int .i64 r) ∧ decide (0 ≤ r) = decide (v ∈ l) ∧ w' = w
theorem IdxP.mk {l : List Int} {v r : Int} {w : World} (h : 0 ≤ r ↔ v ∈ l) : IdxP l v w (.returned (.int .i64 r)) w := ⟨r, rfl, by simp only [h], rfl⟩
set_option maxRecDepth 100000 in
set_option maxHeartbeats 20000000 in
theorem indexN_any (A : Option Addr) (n c : Nat) (l : List Int) (v : Int) (w : World) (hz : Sl w w.heap.size encN 1 A n l) (hn : n ≤ 1099511627776) : Calls Tryz.prog 105 #[.slice A n c, .int .i64 v] w (IdxP l v w) := by
  have HZ := Lib.hid hz; have HL := Lib.hid hz.len
  clear hz
  go_enter Tryz.func105, Tryz.ntmps105
  go_wp2_with fail
  go_loop [8] (fun i => ∃ k : Nat, i = .int .i64 ↑k ∧ k ≤ n ∧ v ∉ l.take k) (fun i => n - (RowKit.intOf i).toNat)
  case atStart => exact ⟨0, rfl, Nat.zero_le _, by simp⟩
  case round =>
    obtain ⟨k, rfl, hk, hno⟩ := hrel
    have HNO := Lib.hid hno
    clear hno
    by_cases hlt : k < n
    · obtain ⟨b, off, rfl, hbl, hc⟩ := HZ.out.cells hlt
      have hlk : k < l.length := by rw [HL.out]; exact hlt
      have HLK := Lib.hid hlk
      have c0 : w.cell? ⟨b, off + k, none⟩ = some (.int .i64 l[k]!) := by have := hc 0 _ rfl; simpa using this
      have HT := Lib.hid (take_snoc l k hlk)
      have HMM := Lib.hid (show l[k]! ∈ l by rw [getElem!_pos l k hlk]; exact List.getElem_mem _)
      clear hc hbl hlk
      by_cases he : v = l[k]!
      · have d1 : (v == l[k]!) = true := beq_iff_eq.2 he
        have HI := Lib.hid (show 0 ≤ (k : Int) ↔ v ∈ l from ⟨fun _ => by rw [he]; exact HMM.out, fun _ => by omega⟩)
        clear he
        generalize l[k]! = x at *
        go_wp2_with fail
        go_ret
        exact IdxP.mk HI.out
      · have d1 : (v == l[k]!) = false := beq_eq_false_iff_ne.2 he
        have HN2 := Lib.hid (show v ∉ l.take (k + 1) by rw [HT.out, List.mem_append, List.mem_singleton]; rintro (h | h); exact HNO.out h; exact he h)
        clear he
        generalize l[k]! = x at *
        go_wp2_with fail
        go_round
        case rel => exact ⟨k + 1, by go_num, by omega, HN2.out⟩
        case measure => show n - ((↑k + 1 : Int)).toNat < n - (↑k : Int).toNat; omega
    · have HI := Lib.hid (show 0 ≤ (-1 : Int) ↔ v ∈ l from ⟨fun h => absurd h (by decide), fun h => by
        have := HNO.out
        rw [show k = l.length by rw [HL.out]; omega, List.take_length] at this
        exact absurd h this⟩)
      go_wp2_with fail
      go_ret
      exact IdxP.mk HI.out
def CtnB (d : Bool) (w : World) (e : Ending) (w' : World) : Prop := e = .returned (.bool d) ∧ w' = w
theorem CtnB.mk {d x : Bool} {w : World} (h : x = d) : CtnB d w (.returned (.bool x)) w := ⟨by rw [h], rfl⟩
set_option maxRecDepth 100000 in
theorem containsN_any (A : Option Addr) (n c : Nat) (l : List Int) (v : Int) (w : World) (hz : Sl w w.heap.size encN 1 A n l) (hn : n ≤ 1099511627776) : Calls Tryz.prog 59 #[.slice A n c, .int .i64 v] w (CtnB (decide (v ∈ l)) w) := by
  have hi := indexN_any A n c l v w hz hn
  clear hz
  generalize hd : decide (v ∈ l) = d at *
  have HD := Lib.hid hd; clear hd
  go_enter Tryz.func59, Tryz.ntmps59
  go_wp2_with fail
  refine hi.mono ?_
  rintro e w' ⟨r, rfl, hr, rfl⟩
  rw [HD.out] at hr
  have HR := Lib.hid hr
  clear hr
  go_wp2
  go_ret
  exact CtnB.mk HR.out
end Go.Proofs.YtbpmmmnphpkdjaaGreatDoor
namespace Go.Proofs.YtbpmmmnphpkdjaaGreatDoor
open Go.RowKit Go.MapKept Go.Maps
theorem msum_snoc (h : List Int) : ∀ (l : List VtV) (i : Nat) (v : VtV) (g : Int), msum h i (l ++ [v]) g = msum h i l g + (if v.1 = g ∧ ((i + l.length : Nat) : Int) ∈ h then v.2 else 0)
  | [], i, v, g => by simp [msum]
  | x :: r, i, v, g => by
    rw [List.cons_append]
    show _ + msum h (i + 1) (r ++ [v]) g = (_ + msum h (i + 1) r g) + _
    rw [msum_snoc h r (i + 1) v g, List.length_cons, show i + 1 + r.length = i + (r.length + 1) by omega]
    omega
theorem msum_bound (h : List Int) : ∀ (l : List VtV) (i : Nat) (g : Int), (∀ v ∈ l, wOk v) → 0 ≤ msum h i l g ∧ msum h i l g ≤ l.length * 4294967296
  | [], i, g, _ => by simp [msum]
  | v :: r, i, g, hw => by
    have ih := msum_bound h r (i + 1) g (fun x hx => hw x (List.mem_cons_of_mem _ hx))
    have hv := hw v List.mem_cons_self
    unfold wOk at hv
    unfold msum
    rw [List.length_cons]
    split <;> omega
theorem fit_len {l : List VtV} (h : fitB l = true) : l.length ≤ 9 := by
  unfold fitB at h
  simp only [Bool.and_eq_true, decide_eq_true_eq] at h
  exact h.2
theorem countP_left {K : List Int} {p left : Int → Bool} {i : Int} (hn : K.Nodup) (hi : i ∈ K) (hl : left i = true) :
    K.countP (fun g => !(left g && decide (g ≠ i)) && p g) = K.countP (fun g => !left g && p g) + (if p i then 1 else 0) := by
  induction K with
  | nil => cases hi
  | cons x r ih =>
    obtain ⟨hx, hr⟩ := List.nodup_cons.1 hn
    rw [List.countP_cons, List.countP_cons]
    by_cases e : i = x
    · subst e
      have : r.countP (fun g => !(left g && decide (g ≠ i)) && p g) = r.countP (fun g => !left g && p g) := by
        apply List.countP_congr
        intro g hg
        have : g ≠ i := fun e => hx (e ▸ hg)
        simp [this]
      rw [this]
      simp [hl]
    · have hi' : i ∈ r := (List.mem_cons.1 hi).resolve_left e
      rw [ih hr hi']
      have : x ≠ i := Ne.symm e
      simp only [ne_eq, this, not_false_eq_true, decide_true, Bool.and_true]
      omega
theorem keys_len {l : List VtV} {K : List Int} (hn : K.Nodup) (hK : ∀ g, g ∈ K ↔ 0 < gsum l g) : K.length ≤ l.length ∧ ∀ g ∈ K, ∃ v ∈ l, v.1 = g := by
  have hm : ∀ g ∈ K, ∃ v ∈ l, v.1 = g := fun g hg => by
    apply Classical.byContradiction
    intro h
    have := gsum_none l g (fun v hv e => h ⟨v, hv, e⟩)
    have := (hK g).1 hg
    omega
  refine ⟨?_, hm⟩
  have := countP_sub (fun _ => true) (l1 := K) (l2 := l.map (·.1)) hn (fun g hg => by
    obtain ⟨v, hv, e⟩ := hm g hg
    exact List.mem_map.2 ⟨v, hv, e⟩)
  simpa using this
def QrmP (d : Bool) (w : World) (e : Ending) (w' : World) : Prop := e = .returned (.bool d) ∧ Below w.heap.size w w'
theorem QrmP.mk {d x : Bool} {w w' : World} (h : x = d) (hb : Below w.heap.size w w') : QrmP d w (.returned (.bool x)) w' := ⟨by rw [h], hb⟩
/-- the first loop's state: the sums of those who have it -/
structure QmR (w : World) (l : List VtV) (have_ K : List Int) (b b2 k : Nat) (wr : World) : Prop where
  s1 : SumM wr b K (gsum l)
  s2 : ∃ K2, SumM wr b2 K2 (msum have_ 0 (l.take k))
  bel : Below w.heap.size w wr
theorem QmR.row {w : World} {l : List VtV} {have_ K : List Int} {b b2 k : Nat} {wr w' : World} (h : QmR w l have_ K b b2 k wr) (hb : Below wr.heap.size wr w') : QmR w l have_ K b b2 k w' := by
  obtain ⟨K2, hs⟩ := h.s2
  exact ⟨h.s1.fr (Fr.of_below (own := []) hb) (by simp), ⟨K2, hs.fr (Fr.of_below (own := []) hb) (by simp)⟩, h.bel.trans (hb.mono h.bel.size)⟩
theorem QmR.skip {w : World} {l : List VtV} {have_ K : List Int} {b b2 k : Nat} {wr : World} (h : QmR w l have_ K b b2 k wr) (hk : k < l.length) (hn : (k : Int) ∉ have_) : QmR w l have_ K b b2 (k + 1) wr := by
  have e : msum have_ 0 (l.take (k + 1)) = msum have_ 0 (l.take k) := by
    funext g
    rw [take_snoc l k hk, msum_snoc, List.length_take, Nat.zero_add, Nat.min_eq_left (by omega), if_neg (fun h => hn h.2)]; omega
  exact ⟨h.s1, by rw [e]; exact h.s2, h.bel⟩
theorem QmR.add {w : World} {l : List VtV} {have_ K : List Int} {b b2 k : Nat} {wr : World} (h : QmR w l have_ K b b2 k wr) (hk : k < l.length) (hn : (k : Int) ∈ have_) (hg : wfI l[k]!.1) (hb : w.heap.size ≤ b2) (hne : b ≠ b2) :
    ∃ w', (Instr.mapUpdate 125 (.map (some b2)) (.int .i64 l[k]!.1) (.int .i64 (msum have_ 0 (l.take k) l[k]!.1 + l[k]!.2))).run Tryz.prog wr = .ok () w' ∧ QmR w l have_ K b b2 (k + 1) w' := by
  obtain ⟨K2, hs⟩ := h.s2
  obtain ⟨w', K', h1, h2, h3, h4, h5⟩ := hs.put hg (msum have_ 0 (l.take k) l[k]!.1 + l[k]!.2)
  have e : msum have_ 0 (l.take (k + 1)) = fun x => if x = l[k]!.1 then msum have_ 0 (l.take k) l[k]!.1 + l[k]!.2 else msum have_ 0 (l.take k) x := by
    funext g
    rw [take_snoc l k hk, msum_snoc, List.length_take, Nat.zero_add, Nat.min_eq_left (by omega)]
    by_cases hgx : g = l[k]!.1
    · rw [if_pos ⟨hgx.symm, hn⟩, if_pos hgx, hgx]
    · rw [if_neg (fun h => hgx h.1.symm), if_neg hgx]; omega
  exact ⟨w', h1, ⟨h.s1.fr (Fr.of_grown (own := [b2]) h4 (by simp)) (by simpa using hne), ⟨K', by rw [e]; exact h2⟩, h.bel.grown h4 h.bel.size (fun j hj => by injection hj with hj; omega)⟩⟩
/-- the second loop's state -/
def QnR (w : World) (l : List VtV) (have_ K : List Int) (b b2 r : Nat) (i : Value) (wr : World) : Prop :=
  ∃ left K2, RgI wr b r (K.map fun g => (g, .int .i64 (gsum l g))) left ∧ i = .int .i64 ↑(K.countP (fun g => !left g && wonB l have_ g)) ∧ SumM wr b2 K2 (msum have_ 0 l) ∧ SumM wr b K (gsum l) ∧ Below w.heap.size w wr
set_option maxRecDepth 100000 in
set_option maxHeartbeats 20000000 in
theorem quorum_any (A : Option Addr) (n c : Nat) (l : List VtV) (A' : Option Addr) (n' c' : Nat) (have_ : List Int) (w : World) (hz : Sl w w.heap.size encVt 2 A n l) (hg : ∀ v ∈ l, wfI v.1) (hz' : Sl w w.heap.size encN 1 A' n' have_) (hn' : n' ≤ 1099511627776) :
    Calls Tryz.prog 12 #[.slice A n c, .slice A' n' c'] w (QrmP (quorumB l have_) w) := by
  have hgr := groups_any A n c l w hz hg
  have HZ := Lib.hid hz; have HL := Lib.hid hz.len; have HG := Lib.hid hg; have HH := Lib.hid hz'
  have hmm := @run_makeMap Tryz.prog
  clear hz hg hz'
  go_enter Tryz.func12, Tryz.ntmps12
  go_wp2_with fail
  refine hgr.mono ?_
  rintro e w1 ⟨⟨mv, rfl, hok⟩, hb1⟩
  have HOK := Lib.hid hok
  have HB1 := Lib.hid hb1
  clear hok hb1
  cases hf : fitB l with
  | false =>
    have HQ := Lib.hid (show false = quorumB l have_ by unfold quorumB; rw [hf]; rfl)
    go_wp2_with fail
    go_ret
    exact QrmP.mk HQ.out HB1.out
  | true =>
  obtain ⟨b, K, rfl, hs, hK, hbw⟩ := HOK.out hf
  have HF := Lib.hid hf
  have HK := Lib.hid hK
  have HNE := Lib.hid (show b ≠ w1.heap.size from fun e => by have := hs.lt; omega)
  have HB2 := Lib.hid (show w.heap.size ≤ w1.heap.size from HB1.out.size)
  have hbm : Below w1.heap.size w1 (w1.alloc (.map #[] 0)) := (Below.refl _ w1).alloc (Nat.le_refl _) _
  have HR0 := Lib.hid (show QmR w l have_ K b w1.heap.size 0 (w1.alloc (.map #[] 0)) from ⟨hs.fr (Fr.of_below (own := []) hbm) (by simp), ⟨[], by
    have e : msum have_ 0 (l.take 0) = fun _ => 0 := by funext g; simp [msum]
    rw [e]; exact SumM.made w1⟩, HB1.out.trans (hbm.mono HB1.out.size)⟩)
  have HW := Lib.hid (fun v hv => (show wOk v from fit_w hf v hv))
  have HL9 := Lib.hid (show n ≤ 9 by have := fit_len hf; rw [HL.out] at this; exact this)
  clear hf hs hK hbw hbm HOK
  go_wp2_with fail
  generalize w1.heap.size = b2 at *
  go_loopw [23] (fun i wr => ∃ k : Nat, i = .int .i64 ↑k ∧ k ≤ n ∧ QmR w l have_ K b b2 k wr) (fun i _ => n - (RowKit.intOf i).toNat)
  case atStart => exact ⟨0, rfl, Nat.zero_le _, HR0.out⟩
  case round =>
    obtain ⟨k, rfl, hk, hR⟩ := hrel
    have HR := Lib.hid hR
    have hl9 := HL9.out
    by_cases hlt : k < n
    · obtain ⟨b0, off, rfl, hbl, hc⟩ := (HZ.out.below hR.bel).cells hlt
      have hlk : k < l.length := by rw [HL.out]; exact hlt
      have HLK := Lib.hid hlk
      have c0 : wr.cell? ⟨b0, off + k * 2, none⟩ = some (.int .i64 l[k]!.1) := hc 0 _ rfl
      have c1 : wr.cell? ⟨b0, off + k * 2 + 1, none⟩ = some (.int .i64 l[k]!.2) := hc 1 _ rfl
      have hm : l[k]! ∈ l := by rw [getElem!_pos l k hlk]; exact List.getElem_mem _
      have HM := Lib.hid hm
      have hba : Below wr.heap.size wr (wr.alloc (.cells #[.int .i64 l[k]!.1, .int .i64 l[k]!.2] 82)) := (Below.refl _ wr).alloc (Nat.le_refl _) _
      have HRA := Lib.hid (hR.row hba)
      have HCN := Lib.hid (containsN_any A' n' c' have_ ↑k _ (HH.out.belowMore HRA.out.bel HRA.out.bel.size) hn')
      clear hR hc hbl hm hlk hba HR0
      by_cases hin : (k : Int) ∈ have_
      · rw [decide_eq_true hin] at HCN
        obtain ⟨w', ru, hR'⟩ := HRA.out.add HLK.out hin (HG.out _ HM.out) HB2.out HNE.out
        obtain ⟨K2, hs2⟩ := HRA.out.s2
        have rl := hs2.look (HG.out _ HM.out) _ rfl
        have hov : IntKind.i64.wrap (msum have_ 0 (l.take k) l[k]!.1 + l[k]!.2) = msum have_ 0 (l.take k) l[k]!.1 + l[k]!.2 := by
          have h1 := msum_bound have_ (l.take k) 0 l[k]!.1 (fun v hv => HW.out v (List.mem_of_mem_take hv))
          have h2 : (l.take k).length ≤ 9 := by rw [List.length_take]; omega
          have h3 := HW.out _ HM.out
          unfold wOk at h3
          rw [IntKind.wrap_i64]; omega
        have HR' := Lib.hid hR'
        clear hs2 hR' HR HRA hin
        generalize msum have_ 0 (l.take k) l[k]!.1 = s at *
        generalize l[k]! = v at *
        go_wp2_with (go_at_call 59; refine HCN.out.mono ?_; rintro e w9 ⟨rfl, rfl⟩)
        go_roundw
        case rel => exact ⟨k + 1, by go_num, by omega, HR'.out⟩
        case measure => show n - ((↑k + 1 : Int)).toNat < n - (↑k : Int).toNat; omega
      · rw [decide_eq_false hin] at HCN
        have HR' := Lib.hid (HRA.out.skip HLK.out hin)
        clear HR HRA hin
        generalize l[k]! = v at *
        go_wp2_with (go_at_call 59; refine HCN.out.mono ?_; rintro e w9 ⟨rfl, rfl⟩)
        go_roundw
        case rel => exact ⟨k + 1, by go_num, by omega, HR'.out⟩
        case measure => show n - ((↑k + 1 : Int)).toNat < n - (↑k : Int).toNat; omega
    · have hkn : k = n := by omega
      subst hkn
      obtain ⟨K2, hs2⟩ := hR.s2
      rw [List.take_of_length_le (by rw [HL.out]; exact Nat.le_refl _)] at hs2
      obtain ⟨w2, rr, hrg, hbr, hsz⟩ := hR.s1.1.range Tryz.underlying125
      have HQ0 := Lib.hid (show QnR w l have_ K b b2 wr.heap.size (.int .i64 0) w2 from ⟨_, K2, hrg, by simp, hs2.fr (Fr.of_below (own := []) hbr) (by simp), hR.s1.fr (Fr.of_below (own := []) hbr) (by simp), hR.bel.trans (hbr.mono hR.bel.size)⟩)
      have HRW := Lib.hid (show w.heap.size ≤ wr.heap.size ∧ b2 < wr.heap.size from ⟨hR.bel.size, hs2.lt⟩)
      have HND := Lib.hid hR.s1.nodup
      clear hs2 hrg hbr hsz HR hR HR0
      go_wp2_with fail
      generalize wr.heap.size = r at *
      go_loopw [10] (fun i wq => QnR w l have_ K b b2 r i wq) (fun _ wq => wq.rangeLeft b r)
      case atStart => exact HQ0.out
      case round =>
        obtain ⟨left, K2, hrg, rfl, hs2, hs1, hb⟩ := hrel
        have HKL := Lib.hid (keys_len HND.out HK.out)
        have HB := Lib.hid hb
        have hl9' := HL9.out
        rcases hrg.next with ⟨hdone, rn⟩ | ⟨i, v, hm, hli, w3, rn, hrg3, hg3, hs3, hms, ren⟩
        · have HE := Lib.hid (show decide (K.length < 2 * K.countP (fun g => !left g && wonB l have_ g)) = quorumB l have_ by
            rw [quorum_by l have_ K HND.out HK.out, HF.out, Bool.true_and]
            have : K.countP (fun g => !left g && wonB l have_ g) = K.countP (wonB l have_) := List.countP_congr fun g hg => by
              have := hdone (g, .int .i64 (gsum l g)) (List.mem_map.2 ⟨g, hg, rfl⟩)
              dsimp only at this
              simp [this]
            rw [this])
          have rl := hs1.len
          have hle : K.countP (fun g => !left g && wonB l have_ g) ≤ 9 := Nat.le_trans List.countP_le_length (by have := HKL.out.1; rw [HL.out] at this; omega)
          clear hdone hrg hs2 hs1 hb HQ0 rr
          generalize K.countP (fun g => !left g && wonB l have_ g) = m at *
          generalize K.length = kl at *
          have hov : IntKind.i64.wrap (2 * (m : Int)) = 2 * (m : Int) := by rw [IntKind.wrap_i64]; omega
          have HE2 := Lib.hid (show decide ((kl : Int) < 2 * (m : Int)) = quorumB l have_ from (decide_eq_decide.2 (by omega)).trans HE.out)
          go_wp2_with fail
          go_ret
          exact QrmP.mk HE2.out HB.out
        · obtain ⟨g, hgK, ee⟩ := List.mem_map.1 hm
          injection ee with ee1 ee2
          subst ee1 ee2
          have hfr := Fr.of_grown (own := [r]) hg3 (by simp)
          have hbr : w.heap.size ≤ r := HRW.out.1
          obtain ⟨vg, hvg, ev⟩ := HKL.out.2 g hgK
          have rl := hs2.look (g := g) (by rw [← ev]; exact HG.out _ hvg) w3 (hfr.block b2 hs2.lt (by have := HRW.out.2; simp; omega))
          have hle : K.countP (fun g => !left g && wonB l have_ g) ≤ 9 := Nat.le_trans List.countP_le_length (by have := HKL.out.1; rw [HL.out] at this; omega)
          have hsb := msum_bound have_ l 0 g HW.out
          have hll : l.length ≤ 9 := by rw [HL.out]; exact hl9'
          have HN := Lib.hid (show QnR w l have_ K b b2 r (.int .i64 ↑(K.countP (fun g => !left g && wonB l have_ g) + if wonB l have_ g then 1 else 0)) w3 from
            ⟨_, K2, hrg3, by rw [countP_left HND.out hgK hli], hs2.fr hfr (by have := HRW.out.2; simp; omega), hs1.fr hfr (by have := HRW.out.2; have := hs1.lt; have h9 := HNE.out; have := hrg.1; simp; exact fun e => hrg.1 e.symm), HB.out.grown hg3 HB.out.size (fun j hj => by injection hj with hj; omega)⟩)
          have HMS := Lib.hid hms
          have hov : IntKind.i64.wrap (2 * msum have_ 0 l g) = 2 * msum have_ 0 l g := by rw [IntKind.wrap_i64]; omega
          have HWD := Lib.hid (show wonB l have_ g = decide (gsum l g < 2 * msum have_ 0 l g) from rfl)
          clear hrg hrg3 hs2 hs1 hb hm hfr hli hsb hms hgK hvg ev hbr HQ0 rr hs3 hg3 HKL
          generalize K.countP (fun g => !left g && wonB l have_ g) = m at *
          generalize msum have_ 0 l g = s at *
          generalize gsum l g = y at *
          have hov2 : IntKind.i64.wrap ((m : Int) + 1) = (m : Int) + 1 := by rw [IntKind.wrap_i64]; omega
          by_cases hy : y < 2 * s
          · have d1 : decide (y < 2 * s) = true := decide_eq_true hy
            rw [HWD.out, d1] at HN
            clear hy HWD
            go_wp2_with fail
            go_roundw
            case rel => exact HN.out
            case measure => exact HMS.out
          · have d1 : decide (y < 2 * s) = false := decide_eq_false hy
            rw [HWD.out, d1] at HN
            clear hy HWD
            go_wp2_with fail
            go_roundw
            case rel => exact HN.out
            case measure => exact HMS.out
end Go.Proofs.YtbpmmmnphpkdjaaGreatDoor
