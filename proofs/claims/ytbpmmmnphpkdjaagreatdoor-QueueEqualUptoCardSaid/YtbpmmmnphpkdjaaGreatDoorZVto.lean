/- The walks of the law's mine and theirs. Condition: at most 2^20 voters. The walks of the document's among, Fit, Quorum. Condition: at most 2^20 voters and numbers. Arguments that are voters and numbers; liveQuorum; the law QueueQuorums. Condition: bulk at most 2^20. -/
import Derived.Test.YtbpmmmnphpkdjaaGreatDoorZQueN
import Derived.Deep.RegionLaw
import Derived.Test.YtbpmmmnphpkdjaaGreatDoorZOpenS
namespace Go.Proofs.YtbpmmmnphpkdjaaGreatDoor
open Go.RowKit Go.MapKept Go.Maps
theorem step_appG {α : Type} [Inhabited α] {enc : α → List Value} {ST T : TypeId} {k bs : Nat} {z : Value} (E : Elem enc ST T k bs z) {ops : Array Oper} {o : Oper} {a : Act} {K : Act → World → Prop} {Q : Exit → Act → World → Prop} {E0 : Prop} {w : World} (hg : o.guard = none) (s x : Operand)
    (ho : o.op = .call { callee := .builtin .append, args := #[s, x], argTypes := #[ST, ST] }) (base : Nat) (A : Option Addr) (n c : Nat) (l : List α) (hs : a.eval s = .slice A n c)
    (hown : w.ownsRow base T k (.slice A n c) n (l.flatMap enc)) (a0 : Addr) (m c' : Nat) (l' : List α) (hx : a.eval x = .slice (some a0) m c') (hsl : Sl w w.heap.size enc k (some a0) m l') (hn : n + m ≤ 16777216) (hbase : base ≤ w.heap.size)
    (h : ∀ A2 c2 w', w'.ownsRow base T k (.slice A2 (n + m) c2) (n + m) ((l ++ l').flatMap enc) → Below base w w' → K (a.put o.dst (.slice A2 (n + m) c2)) w') : if Region.wanted o (yielded ops a.tmps) = true then Oper.wp Tryz.prog o a w K Q else E0 := by
  have hw : Region.wanted o (yielded ops a.tmps) = true := by simp [Region.wanted, hg]
  rw [if_pos hw]
  obtain ⟨i0, hi0, hz0, hz1, hz2⟩ := info_partsI E.info
  refine wp_append_own w s x _ ho base T i0 _ k bs E.under hi0 hz0 hz1 hz2 E.size E.pos _ n _ hs hown a0 m c' (l'.flatMap enc) hx (by rw [flat_len E.len, hsl.len]) (Sl.news E.len E.pos hsl) ?_ (by unfold maxLen; omega) ?_ hbase ?_
  · intro u hu
    obtain ⟨x, _, hx⟩ := List.mem_flatMap.1 hu
    exact E.one x u hx
  · have := Nat.mul_le_mul hn E.small
    omega
  · intro v' w' h1 h2 _
    obtain ⟨A2, c2, rfl⟩ := own_formI h1
    refine h A2 c2 w' ?_ (own_belowG hown h2 hbase)
    rw [List.flatMap_append]; exact h1
theorem elemVq : Elem encVt 25 82 2 16 (.agg #[.int .i64 0, .int .i64 0]) := ⟨Tryz.underlying25, by kernel_rfl, rfl, fun _ => rfl, by decide, fun x u hu => by simp [encVt] at hu; rcases hu with rfl | rfl <;> rfl, by decide⟩
theorem elemVr : Elem encVt 28 130 2 16 (.agg #[.int .i64 0, .int .i64 0]) := ⟨Tryz.underlying28, by kernel_rfl, rfl, fun _ => rfl, by decide, fun x u hu => by simp [encVt] at hu; rcases hu with rfl | rfl <;> rfl, by decide⟩
def VtP (T : TypeId) (l : List VtV) (n : Nat) (w : World) (e : Ending) (w' : World) : Prop := (∃ A c, e = .returned (.slice A n c) ∧ w'.ownsRow w.heap.size T 2 (.slice A n c) n (l.flatMap encVt)) ∧ Below w.heap.size w w'
set_option maxRecDepth 100000 in
set_option maxHeartbeats 8000000 in
theorem mine_any (A : Option Addr) (n c : Nat) (l : List VtV) (w : World) (hz : Sl w w.heap.size encVt 2 A n l) (hn : n ≤ 1048576) : Calls Tryz.prog 13 #[.slice A n c] w (VtP 82 l n w) := by
  have HZ := Lib.hid hz; have HL := Lib.hid hz.len
  clear hz
  go_enter Tryz.func13, Tryz.ntmps13
  go_wp2_with fail
  go_loopw [3, 4] (fun v i wr => ∃ (k : Nat) (B : Option Addr) (d : Nat), i = .int .i64 ↑k ∧ k ≤ n ∧ v = .slice B k d ∧ wr.ownsRow w.heap.size 82 2 (.slice B k d) k ((l.take k).flatMap encVt) ∧ Below w.heap.size w wr) (fun _ i _ => n - (intOf i).toNat)
  case atStart => exact ⟨0, none, 0, rfl, Nat.zero_le _, rfl, ⟨rfl, .inl ⟨rfl, rfl⟩⟩, Below.refl _ _⟩
  case round =>
    obtain ⟨k, B, d, rfl, hk, rfl, hown, hb⟩ := hrel
    have HO := Lib.hid hown; have HB := Lib.hid hb; clear hown hb
    by_cases hlt : k < n
    · obtain ⟨b, off, eA, hbl, hc⟩ := HZ.out.cells hlt
      have c0 : wr.cell? ⟨b, off + k * 2, none⟩ = some (.int .i64 l[k]!.1) := by have := keep1 (hc 0 _ rfl) HB.out; exact this
      have c1 : wr.cell? ⟨b, off + k * 2 + 1, none⟩ = some (.int .i64 l[k]!.2) := by have := keep1 (hc 1 _ rfl) HB.out; exact this
      have HT := Lib.hid (show l.take (k + 1) = l.take k ++ [l[k]!] from take_snoc l k (by rw [HL.out]; exact hlt))
      subst eA
      clear hc
      generalize l[k]! = v at *
      obtain ⟨g, wt⟩ := v
      dsimp only at c0 c1
      have hki : (k : Int) < (n : Int) := by omega
      have hk0 : (0 : Int) ≤ (k : Int) := by omega
      have HAL := Lib.hid (show Below wr.heap.size wr (wr.drew.alloc (.cells #[.int .i64 g, .int .i64 wt] 82)) from ((Below.refl _ wr).drew).alloc (Nat.le_refl _) _)
      have HO2 := Lib.hid (own_later HO.out HAL.out)
      have HSL := Lib.hid (show Sl (wr.drew.alloc (.cells #[.int .i64 g, .int .i64 wt] 82)) (wr.drew.alloc (.cells #[.int .i64 g, .int .i64 wt] 82)).heap.size encVt 2 (some ⟨wr.heap.size, 0, none⟩) 1 [((g, wt) : VtV)] from ⟨rfl, fun _ => ⟨wr.heap.size, 0, rfl, by rw [sz1]; show wr.heap.size < wr.heap.size + 1; omega, fun i hi a u hu => by
        have hi0 : i = 0 := by omega
        subst hi0
        have h9 : (wr.drew.alloc (.cells #[.int .i64 g, .int .i64 wt] 82)).heap[wr.heap.size]? = _ := heap_s0 wr.drew _
        rw [cellH h9]
        match a, hu with
        | 0, hu => exact hu
        | 1, hu => exact hu⟩⟩)
      have HTL := Lib.hid (show (l.take k).length = k by rw [List.length_take, HL.out]; omega)
      go_wp2_with fail
      go_region_law (refine step_appG elemVq rfl (.tmp 11) (.tmp 23) rfl w.heap.size B k d (l.take k) (by simp [Act.eval]) HO2.out ⟨wr.heap.size, 0, none⟩ 1 1 [((g, wt) : VtV)] (by simp [Act.eval]) HSL.out (by omega) (Nat.le_trans HB.out.size HAL.out.size) ?_; intro A8 c8 w8 hv8 hb8)
      all_goals have HF := Lib.hid (show w8.ownsRow w.heap.size 82 2 (.slice A8 (k + 1) c8) (k + 1) ((l.take (k + 1)).flatMap encVt) ∧ Below w.heap.size w w8 from ⟨by rw [HT.out]; exact hv8, (HB.out.trans (HAL.out.mono HB.out.size)).trans hb8⟩)
      all_goals clear hv8 hb8 c0 c1
      all_goals go_wp2_with fail
      all_goals go_roundw
      all_goals first
        | exact ⟨k + 1, A8, c8, by go_num, by omega, rfl, HF.out.1, HF.out.2⟩
        | (simp [intOf]; omega)
    · obtain rfl : k = n := by omega
      have HA := Lib.hid (show l.take k = l by rw [← HL.out]; exact List.take_length)
      go_wp2_with fail
      go_ret
      exact ⟨⟨B, d, rfl, by have := HO.out; rwa [HA.out] at this⟩, HB.out⟩
set_option maxRecDepth 100000 in
set_option maxHeartbeats 8000000 in
theorem theirs_any (A : Option Addr) (n c : Nat) (l : List VtV) (w : World) (hz : Sl w w.heap.size encVt 2 A n l) (hn : n ≤ 1048576) : Calls Tryz.prog 15 #[.slice A n c] w (VtP 130 l n w) := by
  have HZ := Lib.hid hz; have HL := Lib.hid hz.len
  clear hz
  go_enter Tryz.func15, Tryz.ntmps15
  go_wp2_with fail
  go_loopw [3, 4] (fun v i wr => ∃ (k : Nat) (B : Option Addr) (d : Nat), i = .int .i64 ↑k ∧ k ≤ n ∧ v = .slice B k d ∧ wr.ownsRow w.heap.size 130 2 (.slice B k d) k ((l.take k).flatMap encVt) ∧ Below w.heap.size w wr) (fun _ i _ => n - (intOf i).toNat)
  case atStart => exact ⟨0, none, 0, rfl, Nat.zero_le _, rfl, ⟨rfl, .inl ⟨rfl, rfl⟩⟩, Below.refl _ _⟩
  case round =>
    obtain ⟨k, B, d, rfl, hk, rfl, hown, hb⟩ := hrel
    have HO := Lib.hid hown; have HB := Lib.hid hb; clear hown hb
    by_cases hlt : k < n
    · obtain ⟨b, off, eA, hbl, hc⟩ := HZ.out.cells hlt
      have c0 : wr.cell? ⟨b, off + k * 2, none⟩ = some (.int .i64 l[k]!.1) := by have := keep1 (hc 0 _ rfl) HB.out; exact this
      have c1 : wr.cell? ⟨b, off + k * 2 + 1, none⟩ = some (.int .i64 l[k]!.2) := by have := keep1 (hc 1 _ rfl) HB.out; exact this
      have HT := Lib.hid (show l.take (k + 1) = l.take k ++ [l[k]!] from take_snoc l k (by rw [HL.out]; exact hlt))
      subst eA
      clear hc
      generalize l[k]! = v at *
      obtain ⟨g, wt⟩ := v
      dsimp only at c0 c1
      have hki : (k : Int) < (n : Int) := by omega
      have hk0 : (0 : Int) ≤ (k : Int) := by omega
      have HAL := Lib.hid (show Below wr.heap.size wr (wr.drew.alloc (.cells #[.int .i64 g, .int .i64 wt] 130)) from ((Below.refl _ wr).drew).alloc (Nat.le_refl _) _)
      have HO2 := Lib.hid (own_later HO.out HAL.out)
      have HSL := Lib.hid (show Sl (wr.drew.alloc (.cells #[.int .i64 g, .int .i64 wt] 130)) (wr.drew.alloc (.cells #[.int .i64 g, .int .i64 wt] 130)).heap.size encVt 2 (some ⟨wr.heap.size, 0, none⟩) 1 [((g, wt) : VtV)] from ⟨rfl, fun _ => ⟨wr.heap.size, 0, rfl, by rw [sz1]; show wr.heap.size < wr.heap.size + 1; omega, fun i hi a u hu => by
        have hi0 : i = 0 := by omega
        subst hi0
        have h9 : (wr.drew.alloc (.cells #[.int .i64 g, .int .i64 wt] 130)).heap[wr.heap.size]? = _ := heap_s0 wr.drew _
        rw [cellH h9]
        match a, hu with
        | 0, hu => exact hu
        | 1, hu => exact hu⟩⟩)
      have HTL := Lib.hid (show (l.take k).length = k by rw [List.length_take, HL.out]; omega)
      go_wp2_with fail
      go_region_law (refine step_appG elemVr rfl (.tmp 11) (.tmp 23) rfl w.heap.size B k d (l.take k) (by simp [Act.eval]) HO2.out ⟨wr.heap.size, 0, none⟩ 1 1 [((g, wt) : VtV)] (by simp [Act.eval]) HSL.out (by omega) (Nat.le_trans HB.out.size HAL.out.size) ?_; intro A8 c8 w8 hv8 hb8)
      all_goals have HF := Lib.hid (show w8.ownsRow w.heap.size 130 2 (.slice A8 (k + 1) c8) (k + 1) ((l.take (k + 1)).flatMap encVt) ∧ Below w.heap.size w w8 from ⟨by rw [HT.out]; exact hv8, (HB.out.trans (HAL.out.mono HB.out.size)).trans hb8⟩)
      all_goals clear hv8 hb8 c0 c1
      all_goals go_wp2_with fail
      all_goals go_roundw
      all_goals first
        | exact ⟨k + 1, A8, c8, by go_num, by omega, rfl, HF.out.1, HF.out.2⟩
        | (simp [intOf]; omega)
    · obtain rfl : k = n := by omega
      have HA := Lib.hid (show l.take k = l by rw [← HL.out]; exact List.take_length)
      go_wp2_with fail
      go_ret
      exact ⟨⟨B, d, rfl, by have := HO.out; rwa [HA.out] at this⟩, HB.out⟩
end Go.Proofs.YtbpmmmnphpkdjaaGreatDoor
namespace Go.Proofs.YtbpmmmnphpkdjaaGreatDoor
open Go.RowKit Go.MapKept Go.Maps
set_option maxRecDepth 100000 in
set_option maxHeartbeats 4000000 in
theorem among_any (A : Option Addr) (n c : Nat) (l : List Int) (v : Int) (w : World) (hz : Sl w w.heap.size encN 1 A n l) (hn : n ≤ 1048576) : Calls Tryz.prog 61 #[.slice A n c, .int .i64 v] w (CtnB (decide (v ∈ l)) w) := by
  have HZ := Lib.hid hz; have HL := Lib.hid hz.len
  clear hz
  go_enter Tryz.func61, Tryz.ntmps61
  go_wp2_with fail
  go_loop [5] (fun i => ∃ k : Nat, i = .int .i64 ↑k ∧ k ≤ n ∧ v ∉ l.take k) (fun i => n - (intOf i).toNat)
  case atStart => exact ⟨0, rfl, Nat.zero_le _, by simp⟩
  case round =>
    obtain ⟨k, rfl, hk, hnm⟩ := hrel
    have HM := Lib.hid hnm; clear hnm
    by_cases hlt : k < n
    · obtain ⟨b, off, rfl, _, hc⟩ := HZ.out.cells hlt
      have c0 : w.cell? ⟨b, off + k, none⟩ = some (.int .i64 l[k]!) := by have := hc 0 _ rfl; simpa using this
      have HT := Lib.hid (show l.take (k + 1) = l.take k ++ [l[k]!] from take_snoc l k (by rw [HL.out]; exact hlt))
      have HI := Lib.hid (show l[k]! ∈ l by rw [getElem!_pos l k (by rw [HL.out]; exact hlt)]; exact List.getElem_mem _)
      clear hc
      generalize l[k]! = y at *
      by_cases hy : y = v
      · subst hy
        go_wp2_with fail
        go_ret
        exact CtnB.mk (decide_eq_true HI.out).symm
      · have hb : (y == v) = false := by simpa using hy
        have HY := Lib.hid hy; clear hy
        go_wp2_with fail
        go_round
        case rel => exact ⟨k + 1, by go_num, by omega, by rw [HT.out, List.mem_append, List.mem_singleton]; exact fun h => h.elim HM.out (fun h => HY.out h.symm)⟩
        case measure => simp [intOf]; omega
    · obtain rfl : k = n := by omega
      have HN := Lib.hid (show decide (v ∈ l) = false from decide_eq_false (by have := HM.out; rwa [← HL.out, List.take_length] at this))
      go_wp2_with fail
      go_ret
      exact CtnB.mk HN.out.symm
def okW (l : List VtV) : Bool := l.all (fun v => decide (0 ≤ v.2 ∧ v.2 ≤ 4294967296))
def posW (l : List VtV) : Bool := l.any (fun v => decide (0 < v.2))
theorem okW_snoc (l : List VtV) (v : VtV) : okW (l ++ [v]) = (okW l && decide (0 ≤ v.2 ∧ v.2 ≤ 4294967296)) := by simp [okW, List.all_append]
theorem posW_snoc (l : List VtV) (v : VtV) : posW (l ++ [v]) = (posW l || decide (0 < v.2)) := by simp [posW, List.any_append]
theorem fitB_eq (l : List VtV) : fitB l = (okW l && posW l && decide (l.length ≤ 9)) := rfl
theorem fit_no {l : List VtV} {k : Nat} (hk : k < l.length) (h : ¬ (0 ≤ l[k]!.2 ∧ l[k]!.2 ≤ 4294967296)) : fitB l = false := by
  refine fit_bad (v := l[k]!) ?_ h
  rw [getElem!_pos l k hk]; exact List.getElem_mem hk
set_option maxRecDepth 100000 in
set_option maxHeartbeats 4000000 in
theorem refFit_any (A : Option Addr) (n c : Nat) (l : List VtV) (w : World) (hz : Sl w w.heap.size encVt 2 A n l) (hn : n ≤ 1048576) : Calls Tryz.prog 60 #[.slice A n c] w (CtnB (fitB l) w) := by
  have HZ := Lib.hid hz; have HL := Lib.hid hz.len
  clear hz
  go_enter Tryz.func60, Tryz.ntmps60
  go_wp2_with fail
  go_loop [3, 4] (fun s i => ∃ k : Nat, i = .int .i64 ↑k ∧ k ≤ n ∧ okW (l.take k) = true ∧ s = .bool (posW (l.take k))) (fun _ i => n - (intOf i).toNat)
  case atStart => exact ⟨0, rfl, Nat.zero_le _, rfl, rfl⟩
  case round =>
    obtain ⟨k, rfl, hk, hok, rfl⟩ := hrel
    have HK := Lib.hid hok; clear hok
    by_cases hlt : k < n
    · obtain ⟨b, off, rfl, _, hc⟩ := HZ.out.cells hlt
      have c1 : w.cell? ⟨b, off + k * 2 + 1, none⟩ = some (.int .i64 l[k]!.2) := by have := hc 1 _ rfl; exact this
      have HT := Lib.hid (show l.take (k + 1) = l.take k ++ [l[k]!] from take_snoc l k (by rw [HL.out]; exact hlt))
      have HNO := Lib.hid (fun h => fit_no (l := l) (k := k) (by rw [HL.out]; exact hlt) h)
      have HO1 := Lib.hid (okW_snoc (l.take k) l[k]!); have HP1 := Lib.hid (posW_snoc (l.take k) l[k]!)
      rw [← HT.out] at HO1 HP1
      clear hc
      generalize l[k]! = v at *
      obtain ⟨g, wt⟩ := v
      dsimp only at c1 HNO HO1 HP1
      generalize posW (l.take k) = pb at *
      by_cases h0 : wt < 0
      · have b0 : decide (wt < 0) = true := decide_eq_true h0
        have HF := Lib.hid (HNO.out (by omega))
        clear h0
        go_wp2_with fail
        go_ret
        exact CtnB.mk HF.out.symm
      · have b0 : decide (wt < 0) = false := decide_eq_false h0
        by_cases h1 : 4294967296 < wt
        · have b1 : decide (4294967296 < wt) = true := decide_eq_true h1
          have HF := Lib.hid (HNO.out (by omega))
          clear h0 h1
          go_wp2_with fail
          go_ret
          exact CtnB.mk HF.out.symm
        · have b1 : decide (4294967296 < wt) = false := decide_eq_false h1
          have HK1 := Lib.hid (show okW (l.take (k + 1)) = true by rw [HO1.out, HK.out, decide_eq_true (by omega)]; rfl)
          clear h0 h1
          cases pb with
          | true =>
            go_wp2_with fail
            go_round
            case rel => exact ⟨k + 1, by go_num, by omega, HK1.out, by rw [HP1.out]; rfl⟩
            case measure => simp [intOf]; omega
          | false =>
            go_wp2_with fail
            go_round
            case rel => exact ⟨k + 1, by go_num, by omega, HK1.out, by rw [HP1.out, Bool.false_or]⟩
            case measure => simp [intOf]; omega
    · obtain rfl : k = n := by omega
      have HA := Lib.hid (show l.take k = l by rw [← HL.out]; exact List.take_length)
      have HF := Lib.hid (fitB_eq l)
      rw [HA.out] at HK
      rw [HA.out]
      rw [HK.out, Bool.true_and, HL.out] at HF
      cases hp : posW l with
      | true =>
        rw [hp] at HF
        by_cases h9 : k ≤ 9
        · have b9 : decide (k ≤ 9) = true := decide_eq_true h9
          rw [b9] at HF
          have H9 := Lib.hid h9
          clear hp h9
          go_wp2_with fail
          go_ret
          exact CtnB.mk (by rw [HF.out]; have := H9.out; simp; omega)
        · have b9 : decide (k ≤ 9) = false := decide_eq_false h9
          rw [b9] at HF
          have H9 := Lib.hid h9
          clear hp h9
          go_wp2_with fail
          go_ret
          exact CtnB.mk (by rw [HF.out]; have := H9.out; simp; omega)
      | false =>
        rw [hp] at HF
        clear hp
        go_wp2_with fail
        go_ret
        exact CtnB.mk (by rw [HF.out]; rfl)
/-- is voter i the first one of its group, as far as number k? -/
def fstR (l : List VtV) (i : Nat) : Nat → Bool
  | 0 => true
  | k + 1 => if l[k]!.1 = l[i]!.1 then fstR l i k && decide (i ≤ k) else fstR l i k
theorem fstR_iff (l : List VtV) (i : Nat) : ∀ n, fstR l i n = true ↔ ∀ k, k < n → l[k]!.1 = l[i]!.1 → i ≤ k
  | 0 => by simp [fstR]
  | n + 1 => by
    have ih := fstR_iff l i n
    unfold fstR
    by_cases h : l[n]!.1 = l[i]!.1
    · rw [if_pos h, Bool.and_eq_true, ih, decide_eq_true_eq]
      constructor
      · rintro ⟨h1, h2⟩ k hk hg
        rcases Nat.lt_succ_iff_lt_or_eq.1 hk with h3 | rfl
        · exact h1 k h3 hg
        · exact h2
      · intro h1
        exact ⟨fun k hk hg => h1 k (by omega) hg, h1 n (by omega) h⟩
    · rw [if_neg h, ih]
      constructor
      · intro h1 k hk hg
        rcases Nat.lt_succ_iff_lt_or_eq.1 hk with h3 | rfl
        · exact h1 k h3 hg
        · exact absurd hg h
      · intro h1 k hk hg
        exact h1 k (by omega) hg
/-- the groups of the first j voters, each once -/
def fkL (l : List VtV) : Nat → List Int
  | 0 => []
  | j + 1 => if fstR l j l.length = true ∧ 0 < gsum l l[j]!.1 then fkL l j ++ [l[j]!.1] else fkL l j
theorem fkL_mem (l : List VtV) (g : Int) : ∀ j, j ≤ l.length → (g ∈ fkL l j ↔ (∃ k, k < j ∧ l[k]!.1 = g) ∧ 0 < gsum l g)
  | 0, _ => by simp [fkL]
  | j + 1, hj => by
    have ih := fkL_mem l g j (by omega)
    unfold fkL
    by_cases hf : fstR l j l.length = true ∧ 0 < gsum l l[j]!.1
    · rw [if_pos hf, List.mem_append, List.mem_singleton, ih]
      constructor
      · rintro (⟨⟨k, hk, e⟩, h⟩ | rfl)
        · exact ⟨⟨k, by omega, e⟩, h⟩
        · exact ⟨⟨j, by omega, rfl⟩, hf.2⟩
      · rintro ⟨⟨k, hk, e⟩, h⟩
        rcases Nat.lt_succ_iff_lt_or_eq.1 hk with h3 | rfl
        · exact .inl ⟨⟨k, h3, e⟩, h⟩
        · exact .inr e.symm
    · rw [if_neg hf, ih]
      constructor
      · rintro ⟨⟨k, hk, e⟩, h⟩; exact ⟨⟨k, by omega, e⟩, h⟩
      · rintro ⟨⟨k, hk, e⟩, h⟩
        refine ⟨?_, h⟩
        rcases Nat.lt_succ_iff_lt_or_eq.1 hk with h3 | rfl
        · exact ⟨k, h3, e⟩
        · have hnf : ¬ fstR l k l.length = true := fun h4 => hf ⟨h4, by rw [e]; exact h⟩
          rw [fstR_iff] at hnf
          apply Classical.byContradiction
          intro hno
          apply hnf
          intro m hm hg
          apply Classical.byContradiction
          intro hlt
          exact hno ⟨m, by omega, by rw [hg]; exact e⟩
theorem fkL_nodup (l : List VtV) : ∀ j, j ≤ l.length → (fkL l j).Nodup
  | 0, _ => List.nodup_nil
  | j + 1, hj => by
    have ih := fkL_nodup l j (by omega)
    unfold fkL
    by_cases hf : fstR l j l.length = true ∧ 0 < gsum l l[j]!.1
    · rw [if_pos hf]
      refine List.nodup_append.2 ⟨ih, by simp, fun a ha b hb => ?_⟩
      rw [List.mem_singleton.1 hb]
      rintro rfl
      obtain ⟨⟨k, hk, e⟩, _⟩ := (fkL_mem l _ j (by omega)).1 ha
      have := (fstR_iff l j l.length).1 hf.1 k (by omega) e
      omega
    · rw [if_neg hf]; exact ih
theorem quorum_fk (l : List VtV) (hv : List Int) : quorumB l hv = (fitB l && decide ((fkL l l.length).length < 2 * (fkL l l.length).countP (wonB l hv))) := by
  refine quorum_by l hv _ (fkL_nodup l _ (Nat.le_refl _)) fun g => ?_
  rw [fkL_mem l g _ (Nat.le_refl _)]
  constructor
  · exact fun h => h.2
  · intro h
    refine ⟨?_, h⟩
    apply Classical.byContradiction
    intro hno
    have := gsum_none l g (fun v hv e => by
      obtain ⟨k, hk, rfl⟩ := List.mem_iff_getElem.1 hv
      exact hno ⟨k, hk, by rw [getElem!_pos l k hk]; exact e⟩)
    omega
theorem msum_le (hv : List Int) (g : Int) : ∀ (l : List VtV) (i : Nat), (∀ v ∈ l, 0 ≤ v.2) → 0 ≤ msum hv i l g ∧ msum hv i l g ≤ gsum l g
  | [], _, _ => by simp [msum, gsum]
  | v :: r, i, hw => by
    have ih := msum_le hv g r (i + 1) (fun x hx => hw x (List.mem_cons_of_mem _ hx))
    have hv2 := hw v List.mem_cons_self
    unfold msum gsum
    by_cases h1 : v.1 = g
    · by_cases h2 : (i : Int) ∈ hv
      · rw [if_pos ⟨h1, h2⟩, if_pos h1]; omega
      · rw [if_neg (fun h => h2 h.2), if_pos h1]; omega
    · rw [if_neg (fun h => h1 h.1), if_neg h1]; omega
/-- what the inner loop has reckoned -/
structure VqR (l : List VtV) (hv : List Int) (i k : Nat) (f a m : Value) : Prop where
  f : f = .bool (fstR l i k)
  a : a = .int .i64 (gsum (l.take k) l[i]!.1)
  m : m = .int .i64 (msum hv 0 (l.take k) l[i]!.1)
theorem take_ok {l : List VtV} (h : ∀ v ∈ l, wOk v) (k : Nat) : ∀ v ∈ l.take k, wOk v := fun v hv => h v (List.mem_of_mem_take hv)
theorem fkL_len (l : List VtV) : ∀ j, (fkL l j).length ≤ j
  | 0 => by simp [fkL]
  | j + 1 => by
    have := fkL_len l j
    unfold fkL
    split
    · simp; omega
    · omega
theorem fkL_cnt (l : List VtV) (hv : List Int) (j : Nat) : (fkL l j).countP (wonB l hv) ≤ j := Nat.le_trans List.countP_le_length (fkL_len l j)
set_option maxRecDepth 100000 in
set_option maxHeartbeats 8000000 in
theorem refQuorum_any (A : Option Addr) (n c : Nat) (l : List VtV) (A' : Option Addr) (n' c' : Nat) (hv : List Int) (w : World) (hz : Sl w w.heap.size encVt 2 A n l) (hz' : Sl w w.heap.size encN 1 A' n' hv) (hn : n ≤ 1048576) (hn' : n' ≤ 1048576) :
    Calls Tryz.prog 14 #[.slice A n c, .slice A' n' c'] w (QrmP (quorumB l hv) w) := by
  have HF := Lib.hid (refFit_any A n c l w hz hn)
  have HZ := Lib.hid hz; have HL := Lib.hid hz.len; have HH := Lib.hid hz'
  have HQ := Lib.hid (quorum_fk l hv)
  clear hz hz'
  cases hfit : fitB l with
  | false =>
    rw [hfit] at HF HQ
    clear hfit
    go_enter Tryz.func14, Tryz.ntmps14
    go_wp2_with fail
    refine HF.out.mono ?_
    rintro e w' ⟨rfl, hw⟩
    obtain rfl : w = w' := hw.symm
    go_wp2_with fail
    go_ret
    exact QrmP.mk (by rw [HQ.out]; rfl) (Below.refl _ _)
  | true =>
    have HW := Lib.hid (fit_w hfit)
    have h9 : l.length ≤ 9 := by have := hfit; rw [fitB_eq, Bool.and_eq_true, decide_eq_true_eq] at this; exact this.2
    rw [HL.out] at h9
    rw [hfit, Bool.true_and] at HQ
    rw [hfit] at HF
    clear hfit
    rw [HL.out] at HQ
    go_enter Tryz.func14, Tryz.ntmps14
    go_wp2_with fail
    refine HF.out.mono ?_
    rintro e w' ⟨rfl, hw⟩
    obtain rfl : w = w' := hw.symm
    clear HF
    go_wp2_with fail
    go_loopw [5, 6, 7] (fun g o i wr => ∃ j q : Nat, i = .int .i64 ↑j ∧ j ≤ n ∧ g = .int .i64 ↑(fkL l j).length ∧ o = .int .i64 ↑((fkL l j).countP (wonB l hv)) ∧ wr = w.drewN q) (fun _ _ i _ => n - (intOf i).toNat)
    case atStart => exact ⟨0, 0, rfl, Nat.zero_le _, rfl, rfl, rfl⟩
    case round =>
      obtain ⟨j, q, rfl, hj, rfl, rfl, rfl⟩ := hrel
      by_cases hlt : j < n
      · obtain ⟨b, off, rfl, _, hcj⟩ := HZ.out.cells hlt
        have HCJ := Lib.hid (show w.cell? ⟨b, off + j * 2, none⟩ = some (.int .i64 l[j]!.1) from hcj 0 _ rfl)
        have HFK := Lib.hid (show fkL l (j + 1) = if fstR l j l.length = true ∧ 0 < gsum l l[j]!.1 then fkL l j ++ [l[j]!.1] else fkL l j from rfl)
        rw [HL.out] at HFK
        have HG9 := Lib.hid (fkL_len l j); have HO9 := Lib.hid (fkL_cnt l hv j)
        generalize hGJ : fkL l j = fk at *
        clear hGJ hcj
        go_wp2_with fail
        obtain ⟨wo, hwo⟩ : ∃ wo : World, wo = w.drewN q := ⟨_, rfl⟩
        have HWO := Lib.hid hwo
        go_loopw [8, 9, 10, 11] (fun f a m i wr => ∃ k q' : Nat, i = .int .i64 ↑k ∧ k ≤ n ∧ VqR l hv j k f a m ∧ wr = w.drewN q') (fun _ _ _ i _ => n - (intOf i).toNat)
        case atStart => exact ⟨0, q, rfl, Nat.zero_le _, ⟨rfl, rfl, rfl⟩, rfl⟩
        case round =>
          obtain ⟨k, q', rfl, hk, ⟨rfl, rfl, rfl⟩, rfl⟩ := hrel
          by_cases hlk : k < n
          · have hck : w.cell? ⟨b, off + k * 2, none⟩ = some (.int .i64 l[k]!.1) ∧ w.cell? ⟨b, off + k * 2 + 1, none⟩ = some (.int .i64 l[k]!.2) := by
              obtain ⟨b2, off2, e2, _, hc⟩ := HZ.out.cells hlk
              injection e2 with e2; injection e2 with e2 e3
              subst e2 e3
              exact ⟨hc 0 _ rfl, hc 1 _ rfl⟩
            obtain ⟨ck0, ck1⟩ := hck
            have cj0 := HCJ.out
            have hkl : k < l.length := by rw [HL.out]; exact hlk
            have hwk : wOk l[k]! := HW.out _ (by rw [getElem!_pos l k hkl]; exact List.getElem_mem hkl)
            have HT := Lib.hid (take_snoc l k hkl)
            have hgb := gsum_bound (l.take k) l[j]!.1 (take_ok HW.out k)
            have hmb := msum_le hv l[j]!.1 (l.take k) 0 (fun v hv => (take_ok HW.out k v hv).1)
            have hlen : (l.take k).length ≤ 9 := by rw [List.length_take]; omega
            have HS1 := Lib.hid (show fstR l j (k + 1) = if l[k]!.1 = l[j]!.1 then fstR l j k && decide (j ≤ k) else fstR l j k from rfl)
            have HS2 := Lib.hid (show gsum (l.take (k + 1)) l[j]!.1 = gsum (l.take k) l[j]!.1 + (if l[k]!.1 = l[j]!.1 then l[k]!.2 else 0) by rw [HT.out, gsum_snoc])
            have HS3 := Lib.hid (show msum hv 0 (l.take (k + 1)) l[j]!.1 = msum hv 0 (l.take k) l[j]!.1 + (if l[k]!.1 = l[j]!.1 ∧ (k : Int) ∈ hv then l[k]!.2 else 0) by rw [HT.out, msum_snoc, List.length_take, Nat.zero_add, Nat.min_eq_left (Nat.le_of_lt hkl)])
            have HAM := Lib.hid (fun q => among_any A' n' c' hv (k : Int) (w.drewN q) (HH.out.below (drewN_self w q)) hn')
            have hki : (k : Int) < (n : Int) := by omega
            have hk0 : (0 : Int) ≤ (k : Int) := by omega
            have hji : (j : Int) < (n : Int) := by omega
            have hj0 : (0 : Int) ≤ (j : Int) := by omega
            have hgb1 : 0 ≤ gsum (l.take k) l[j]!.1 := hgb.1
            have hgb2 : gsum (l.take k) l[j]!.1 ≤ 38654705664 := by have := hgb.2; have : ((l.take k).length : Int) * 4294967296 ≤ 9 * 4294967296 := by omega
                                                                    omega
            have hmb1 : 0 ≤ msum hv 0 (l.take k) l[j]!.1 := hmb.1
            have hmb2 : msum hv 0 (l.take k) l[j]!.1 ≤ 38654705664 := Int.le_trans hmb.2 hgb2
            have hw1 : 0 ≤ l[k]!.2 := hwk.1
            have hw2 : l[k]!.2 ≤ 4294967296 := hwk.2
            clear hgb hmb hlen hwk hkl
            generalize gsum (l.take k) l[j]!.1 = ga at *
            generalize msum hv 0 (l.take k) l[j]!.1 = ma at *
            generalize hfR : fstR l j k = fr at *
            clear hfR
            generalize hvk : l[k]! = vk at *
            have HVK := Lib.hid hvk; clear hvk
            obtain ⟨gk, wk⟩ := vk
            dsimp only at ck0 ck1 HS1 HS2 HS3 hw1 hw2
            generalize hgj : l[j]!.1 = gj at *
            have HGJ := Lib.hid hgj; clear hgj
            by_cases he : gk = gj
            · subst he
              rw [if_pos rfl] at HS1 HS2
              have hne : (gk != gk) = false := by simp
              by_cases hin : (k : Int) ∈ hv
              · rw [if_pos ⟨rfl, hin⟩] at HS3
                rw [decide_eq_true hin] at HAM
                clear hin
                cases fr with
                | true =>
                  go_wp2_with fail
                  go_quiet (fail)
                  go_wp2_with fail
                  refine (HAM.out _).mono ?_
                  rintro e w' ⟨rfl, rfl⟩
                  go_wp2_with fail
                  go_roundw
                  case rel => exact ⟨k + 1, _, by go_num, by omega, ⟨by rw [HS1.out, Bool.true_and], by rw [HGJ.out, HS2.out], by rw [HGJ.out, HS3.out]⟩, rfl⟩
                  case measure => simp [intOf]; omega
                | false =>
                  go_wp2_with fail
                  go_quiet (fail)
                  go_wp2_with fail
                  refine (HAM.out _).mono ?_
                  rintro e w' ⟨rfl, rfl⟩
                  go_wp2_with fail
                  go_roundw
                  case rel => exact ⟨k + 1, _, by go_num, by omega, ⟨by rw [HS1.out]; rfl, by rw [HGJ.out, HS2.out], by rw [HGJ.out, HS3.out]⟩, rfl⟩
                  case measure => simp [intOf]; omega
              · rw [if_neg (fun h => hin h.2), Int.add_zero] at HS3
                rw [decide_eq_false hin] at HAM
                clear hin
                cases fr with
                | true =>
                  go_wp2_with fail
                  go_quiet (fail)
                  go_wp2_with fail
                  refine (HAM.out _).mono ?_
                  rintro e w' ⟨rfl, rfl⟩
                  go_wp2_with fail
                  go_roundw
                  case rel => exact ⟨k + 1, _, by go_num, by omega, ⟨by rw [HS1.out, Bool.true_and], by rw [HGJ.out, HS2.out], by rw [HGJ.out, HS3.out]⟩, rfl⟩
                  case measure => simp [intOf]; omega
                | false =>
                  go_wp2_with fail
                  go_quiet (fail)
                  go_wp2_with fail
                  refine (HAM.out _).mono ?_
                  rintro e w' ⟨rfl, rfl⟩
                  go_wp2_with fail
                  go_roundw
                  case rel => exact ⟨k + 1, _, by go_num, by omega, ⟨by rw [HS1.out]; rfl, by rw [HGJ.out, HS2.out], by rw [HGJ.out, HS3.out]⟩, rfl⟩
                  case measure => simp [intOf]; omega
            · rw [if_neg he] at HS1 HS2
              rw [if_neg (fun h => he h.1), Int.add_zero] at HS3
              rw [Int.add_zero] at HS2
              have hne : (gk != gj) = true := by simpa using he
              clear he
              go_wp2_with fail
              go_quiet (fail)
              go_wp2_with fail
              go_roundw
              case rel => exact ⟨k + 1, _, by go_num, by omega, ⟨by rw [HS1.out], by rw [HGJ.out, HS2.out], by rw [HGJ.out, HS3.out]⟩, rfl⟩
              case measure => simp [intOf]; omega
          · obtain rfl : k = n := by omega
            have hA : l.take k = l := by rw [← HL.out]; exact List.take_length
            rw [hA]
            have HWN := Lib.hid (show wonB l hv l[j]!.1 = decide (gsum l l[j]!.1 < 2 * msum hv 0 l l[j]!.1) from rfl)
            have hgb := gsum_bound l l[j]!.1 HW.out
            have hmb := msum_le hv l[j]!.1 l 0 (fun v hv => (HW.out v hv).1)
            have hll := HL.out
            have hmb2 : msum hv 0 l l[j]!.1 ≤ 38654705664 := by
              have h1 : (l.length : Int) * 4294967296 ≤ 9 * 4294967296 := by omega
              omega
            have hmb1 : 0 ≤ msum hv 0 l l[j]!.1 := hmb.1
            have hG9 := HG9.out; have hO9 := HO9.out
            clear hgb hmb hll hA
            generalize gsum l l[j]!.1 = ga at *
            generalize msum hv 0 l l[j]!.1 = ma at *
            generalize hgj : l[j]!.1 = gj at *
            generalize hfR : fstR l j k = fr at *
            clear hfR
            have HCP := Lib.hid (show (fk ++ [gj]).countP (wonB l hv) = fk.countP (wonB l hv) + (if wonB l hv gj = true then 1 else 0) by rw [List.countP_append, List.countP_cons, List.countP_nil, Nat.zero_add])
            have HLP := Lib.hid (show (fk ++ [gj]).length = fk.length + 1 by simp)
            have HXO := Lib.hid (show fk.countP (wonB l hv) = fk.countP (wonB l hv) ∧ fk.length = fk.length from ⟨rfl, rfl⟩)
            generalize hxo : fk.countP (wonB l hv) = xo at *
            generalize hxg : fk.length = xg at *
            have HXX := Lib.hid (And.intro hxo hxg); clear hxo hxg HXO
            cases fr with
            | false =>
              rw [if_neg (by simp)] at HFK
              go_wp2_with fail
              go_roundw
              case rel => exact ⟨j + 1, q', by go_num, by omega, by rw [HFK.out, HXX.out.2], by rw [HFK.out, HXX.out.1], rfl⟩
              case measure => simp [intOf]; omega
            | true =>
              by_cases hp : 0 < ga
              · rw [if_pos ⟨rfl, hp⟩] at HFK
                have bp : decide (0 < ga) = true := decide_eq_true hp
                by_cases hw : ga < 2 * ma
                · have bw : decide (ga < 2 * ma) = true := decide_eq_true hw
                  rw [bw] at HWN
                  rw [HWN.out, if_pos rfl] at HCP
                  clear hp hw
                  go_wp2_with fail
                  go_roundw
                  case rel => exact ⟨j + 1, q', by go_num, by omega, by rw [HFK.out, HLP.out]; go_num, by rw [HFK.out, HCP.out]; go_num, rfl⟩
                  case measure => simp [intOf]; omega
                · have bw : decide (ga < 2 * ma) = false := decide_eq_false hw
                  rw [bw] at HWN
                  rw [HWN.out, if_neg (by simp), Nat.add_zero] at HCP
                  clear hp hw
                  go_wp2_with fail
                  go_roundw
                  case rel => exact ⟨j + 1, q', by go_num, by omega, by rw [HFK.out, HLP.out]; go_num, by rw [HFK.out, HCP.out], rfl⟩
                  case measure => simp [intOf]; omega
              · rw [if_neg (fun h => hp h.2)] at HFK
                have bp : decide (0 < ga) = false := decide_eq_false hp
                clear hp
                go_wp2_with fail
                go_roundw
                case rel => exact ⟨j + 1, q', by go_num, by omega, by rw [HFK.out, HXX.out.2], by rw [HFK.out, HXX.out.1], rfl⟩
                case measure => simp [intOf]; omega
      · obtain rfl : j = n := by omega
        have hc1 := fkL_cnt l hv j
        have hc2 := fkL_len l j
        generalize (fkL l j).countP (wonB l hv) = x at *
        generalize (fkL l j).length = y at *
        go_wp2_with fail
        go_ret
        exact QrmP.mk (by rw [HQ.out]; simp; omega) (drewN_self w q)
end Go.Proofs.YtbpmmmnphpkdjaaGreatDoor
namespace Go.Proofs.YtbpmmmnphpkdjaaGreatDoor
open Go.RowKit Go.MapKept Go.Maps Go.WideShapes
section
set_option maxRecDepth 100000
variable {H : Type} {enc : TypeId × Value → H} {w : World} {base : Nat} {spare : Nat → Bool} {held : Bool}
theorem trod_vt {fuel : Nat} {cs : List Value} {x : DataW H × List MemPlace} (h : DataW.trod enc Tryz.prog w base spare held fuel 33 cs = some x) : ∃ z : VtV, cs = encVt z ∧ wfI z.1 := by
  obtain ⟨ys, n, _, rfl, hlen, hyl, hf⟩ := DataW.trod_struct Tryz.underlying33 h
  have hc : Tryz.prog.cellsOf 33 = 2 := by kernel_rfl
  have h1 : Tryz.prog.cellsOf 3 = 1 := by kernel_rfl
  have h2 : Tryz.prog.cellsOf 2 = 1 := by kernel_rfl
  rw [hc] at hlen
  match cs, hlen with
  | [a, b], _ =>
    match ys, hyl with
    | [y0, y1], _ =>
      have g0 : DataW.trod enc Tryz.prog w base spare held n 3 (List.take (Tryz.prog.cellsOf 3) [a, b]) = some y0 := hf 0 _ rfl
      have g1 : DataW.trod enc Tryz.prog w base spare held n 2 (List.take (Tryz.prog.cellsOf 2) [b]) = some y1 := hf 1 _ rfl
      rw [h1] at g0
      rw [h2] at g1
      simp only [List.take_succ_cons, List.take_zero] at g0 g1
      obtain ⟨p0, e0, _, w0⟩ := DataW.trod_int Tryz.underlying3 g0
      obtain ⟨p1, e1, _, w1⟩ := DataW.trod_int Tryz.underlying2 g1
      injection e0 with e0; injection e1 with e1
      subst e0 e1
      exact ⟨(p0, p1), rfl, by simp [Lit.wf] at w0; exact w0⟩
theorem open_vts {v : Value} {d : DataW H} {ps : List MemPlace} {b0 : Nat} (hval : Value.okWide Tryz.prog w .any b0 22 v) (h : DataW.Trod enc Tryz.prog w base spare held 22 v d ps) (hb : Rows.uptoBulk d ≤ 1048576) :
    ∃ A n c l, v = .slice A n c ∧ Sl w w.heap.size encVt 2 A n l ∧ n ≤ 1048576 ∧ (∀ v ∈ l, wfI v.1) ∧ (A = none → n = 0 ∧ c = 0) := by
  obtain ⟨A, n, c, l, e, h1, h2, h3, h4⟩ := open_rows (enc0 := encVt) (k := 2) Tryz.underlying22 (by kernel_rfl) (by decide) (fun (z : VtV) _ => wfI z.1) (fun _ _ x hx => trod_vt hx) (fun _ _ _ _ hz => hz) hval h
  refine ⟨A, n, c, l, e, h1, Nat.le_trans h3 hb, fun v hv => ?_, h2⟩
  obtain ⟨j, hj, rfl⟩ := List.mem_iff_getElem.1 hv
  have := h4 j (by rw [← h1.len]; exact hj)
  rwa [getElem!_pos l j hj] at this
theorem open_nums {v : Value} {d : DataW H} {ps : List MemPlace} {b0 : Nat} (hval : Value.okWide Tryz.prog w .any b0 23 v) (h : DataW.Trod enc Tryz.prog w base spare held 23 v d ps) (hb : Rows.uptoBulk d ≤ 1048576) :
    ∃ A n c l, v = .slice A n c ∧ Sl w w.heap.size encN 1 A n l ∧ n ≤ 1048576 ∧ (∀ j, j < n → wfI l[j]!) ∧ (A = none → n = 0 ∧ c = 0) := by
  obtain ⟨A, n, c, l, e, h1, h2, h3, h4⟩ := open_rows (enc0 := encN) (k := 1) Tryz.underlying23 (by kernel_rfl) (by decide) (fun (z : Int) _ => wfI z)
    (fun _ _ x hx => by
      obtain ⟨z, e, _, hw⟩ := DataW.trod_int Tryz.underlying3 hx
      exact ⟨z, e, by simp [Lit.wf] at hw; exact hw⟩) (fun _ _ _ _ hz => hz) hval h
  exact ⟨A, n, c, l, e, h1, Nat.le_trans h3 hb, h4, h2⟩
end
def lqL : List VtV := [(1, 1), (1, 1), (2, 1), (2, 1), (3, 9)]
theorem lq1 : quorumB lqL [0, 1, 2] = false := by decide
theorem lq2 : quorumB lqL [0, 1, 2, 3] = true := by decide
theorem lq3 : quorumB lqL [0, 1, 4] = true := by decide
theorem slN_new {w : World} (l : List Int) (_hl : 0 < l.length) : Sl (w.alloc (.cells (l.map (Value.int .i64)).toArray 3)) (w.alloc (.cells (l.map (Value.int .i64)).toArray 3)).heap.size encN 1 (some ⟨w.heap.size, 0, none⟩) l.length l :=
  ⟨rfl, fun _ => ⟨w.heap.size, 0, rfl, by rw [sz1]; omega, fun j hj i u hu => by
    match i, hu with
    | 0, hu =>
      rw [cellH (heap_s0 w _), Nat.zero_add, Nat.mul_one, Nat.add_zero, List.getElem?_toArray, List.getElem?_map, List.getElem?_eq_getElem hj]
      rw [getElem!_pos l j hj] at hu
      exact hu⟩⟩
set_option maxRecDepth 100000 in
set_option maxHeartbeats 4000000 in
theorem liveQuorum_any (w : World) (hE : Env w) : Calls Tryz.prog 16 #[] w (RetB w true) := by
  have HE := Lib.hid hE; clear hE
  have hb0 : Below w.heap.size w (w.alloc (.cells #[.int .i64 1, .int .i64 1, .int .i64 1, .int .i64 1, .int .i64 2, .int .i64 1, .int .i64 2, .int .i64 1, .int .i64 3, .int .i64 9] 82)) := (Below.refl _ w).alloc (Nat.le_refl _) _
  have hv0 : Sl (w.alloc (.cells #[.int .i64 1, .int .i64 1, .int .i64 1, .int .i64 1, .int .i64 2, .int .i64 1, .int .i64 2, .int .i64 1, .int .i64 3, .int .i64 9] 82)) (w.alloc (.cells #[.int .i64 1, .int .i64 1, .int .i64 1, .int .i64 1, .int .i64 2, .int .i64 1, .int .i64 2, .int .i64 1, .int .i64 3, .int .i64 9] 82)).heap.size encVt 2 (some ⟨w.heap.size, 0, none⟩) 5 lqL :=
    ⟨rfl, fun _ => ⟨w.heap.size, 0, rfl, by rw [sz1]; omega, fun j hj i u hu => by
      rw [cellH (heap_s0 w _), Nat.zero_add]
      match j, hj, i, hu with
      | 0, _, 0, hu => exact hu
      | 0, _, 1, hu => exact hu
      | 1, _, 0, hu => exact hu
      | 1, _, 1, hu => exact hu
      | 2, _, 0, hu => exact hu
      | 2, _, 1, hu => exact hu
      | 3, _, 0, hu => exact hu
      | 3, _, 1, hu => exact hu
      | 4, _, 0, hu => exact hu
      | 4, _, 1, hu => exact hu⟩⟩
  have HV := Lib.hid hv0; have HB := Lib.hid hb0
  have HG := Lib.hid (show ∀ v ∈ lqL, wfI v.1 from by
    intro v hv
    simp only [lqL, List.mem_cons, List.not_mem_nil, or_false] at hv
    rcases hv with rfl | rfl | rfl | rfl | rfl <;> (unfold wfI; decide))
  clear hv0 hb0
  go_enter Tryz.func16, Tryz.ntmps16
  go_upto_region 2 with fail
  generalize w.alloc (.cells #[.int .i64 1, .int .i64 1, .int .i64 1, .int .i64 1, .int .i64 2, .int .i64 1, .int .i64 2, .int .i64 1, .int .i64 3, .int .i64 9] 82) = W at *
  have hb1 : Below W.heap.size W (W.alloc (.cells #[.int .i64 0, .int .i64 1, .int .i64 2] 3)) := (Below.refl _ W).alloc (Nat.le_refl _) _
  have HC1 := Lib.hid (quorum_any (some ⟨w.heap.size, 0, none⟩) 5 5 lqL (some ⟨W.heap.size, 0, none⟩) 3 3 [0, 1, 2] (W.alloc (.cells #[.int .i64 0, .int .i64 1, .int .i64 2] 3)) (HV.out.belowMore hb1 hb1.size) HG.out (slN_new [0, 1, 2] (by decide)) (by decide))
  rw [lq1] at HC1
  have HB1 := Lib.hid hb1; clear hb1
  go_wp2_with fail
  refine HC1.out.mono ?_
  rintro e w2 ⟨rfl, hb2⟩
  have HB2 := Lib.hid (HB1.out.trans (hb2.mono HB1.out.size)); clear hb2 HC1 HB1
  have hb1 : Below w2.heap.size w2 (w2.alloc (.cells #[.int .i64 0, .int .i64 1, .int .i64 2, .int .i64 3] 3)) := (Below.refl _ w2).alloc (Nat.le_refl _) _
  have HC1 := Lib.hid (quorum_any (some ⟨w.heap.size, 0, none⟩) 5 5 lqL (some ⟨w2.heap.size, 0, none⟩) 4 4 [0, 1, 2, 3] (w2.alloc (.cells #[.int .i64 0, .int .i64 1, .int .i64 2, .int .i64 3] 3)) ((HV.out.belowMore HB2.out HB2.out.size).belowMore hb1 hb1.size) HG.out (slN_new [0, 1, 2, 3] (by decide)) (by decide))
  rw [lq2] at HC1
  have HB1 := Lib.hid (HB2.out.trans (hb1.mono HB2.out.size)); clear hb1
  go_wp2_with fail
  refine HC1.out.mono ?_
  rintro e w3 ⟨rfl, hb3⟩
  have HB3 := Lib.hid (HB1.out.trans (hb3.mono HB1.out.size)); clear hb3 HC1 HB1
  have hb1 : Below w3.heap.size w3 (w3.alloc (.cells #[.int .i64 0, .int .i64 1, .int .i64 4] 3)) := (Below.refl _ w3).alloc (Nat.le_refl _) _
  have HC1 := Lib.hid (quorum_any (some ⟨w.heap.size, 0, none⟩) 5 5 lqL (some ⟨w3.heap.size, 0, none⟩) 3 3 [0, 1, 4] (w3.alloc (.cells #[.int .i64 0, .int .i64 1, .int .i64 4] 3)) ((HV.out.belowMore HB3.out HB3.out.size).belowMore hb1 hb1.size) HG.out (slN_new [0, 1, 4] (by decide)) (by decide))
  rw [lq3] at HC1
  have HB1 := Lib.hid (HB3.out.trans (hb1.mono HB3.out.size)); clear hb1
  go_wp2_with fail
  refine HC1.out.mono ?_
  rintro e w4 ⟨rfl, hb4⟩
  have HB4 := Lib.hid (HB.out.trans ((HB1.out.trans (hb4.mono HB1.out.size)).mono HB.out.size)); clear hb4 HC1 HB1
  have HLV := Lib.hid (live26_any w4 (HE.out.below (Nat.le_refl _) HB4.out))
  go_wp2_with fail
  refine HLV.out.mono ?_
  rintro e w5 ⟨rfl, hb5⟩
  have HB5 := Lib.hid (HB4.out.trans (hb5.mono HB4.out.size)); clear hb5 HLV
  go_wp2_with fail
  go_ret
  exact RetB.mk HB5.out rfl
theorem vt_sl {w : World} {B n c : Nat} {A : Option Addr} {T : TypeId} {l : List VtV} (h : w.ownsRow B T 2 (.slice A n c) n (l.flatMap encVt)) (hl : l.length = n) : Sl w w.heap.size encVt 2 A n l := (own_slr h (fun _ => rfl) hl).sl (fun _ => by simp [encVt])
theorem n_sl {w : World} {B n c : Nat} {A : Option Addr} {l : List Int} (h : w.ownsRow B 3 1 (.slice A n c) n (l.flatMap encN)) (hl : l.length = n) : Sl w w.heap.size encN 1 A n l := (own_slr h (fun _ => rfl) hl).sl (fun _ => by simp [encN])
set_option maxRecDepth 100000 in
set_option maxHeartbeats 4000000 in
theorem queueQuorums_any (A0 : Option Addr) (n0 c0 : Nat) (l0 : List VtV) (A1 : Option Addr) (n1 c1 : Nat) (l1 : List Int) (w : World) (hE : Env w) (o0 : Sl w w.heap.size encVt 2 A0 n0 l0) (z0 : n0 ≤ 1048576) (g0 : ∀ v ∈ l0, wfI v.1) (o1 : Sl w w.heap.size encN 1 A1 n1 l1) (z1 : n1 ≤ 1048576) (nn : A1 = none → n1 = 0 ∧ c1 = 0) :
    Calls Tryz.prog 3 #[.slice A0 n0 c0, .slice A1 n1 c1] w (RetB w true) := by
  have HE := Lib.hid hE; have HO0 := Lib.hid o0; have HO1 := Lib.hid o1; have HG := Lib.hid g0; have HN := Lib.hid nn
  have HL0 := Lib.hid o0.len; have HL1 := Lib.hid o1.len
  have HM := Lib.hid (mine_any A0 n0 c0 l0 w o0 z0)
  clear hE o0 o1 g0 nn
  go_enter Tryz.func3, Tryz.ntmps3
  go_wp2_with fail
  refine HM.out.mono ?_
  rintro e w1 ⟨⟨A, c, rfl, hr1⟩, hb1⟩
  have HR1 := Lib.hid hr1; have HB1 := Lib.hid hb1; clear hr1 hb1 HM
  have HAL := Lib.hid (show Below w1.heap.size w1 (w1.alloc (.cells #[] 3)) from (Below.refl _ w1).alloc (Nat.le_refl _) _)
  have HSL := Lib.hid ((HO1.out.belowMore HB1.out HB1.out.size).belowMore HAL.out HAL.out.size)
  go_wp2_with (at_builtin; refine wpList_appG elemN rfl _ _ rfl w1.heap.size (some ⟨w1.heap.size, 0, none⟩) 0 0 [] rfl (own_empty w1) A1 n1 c1 l1 ?hy1 HSL.out HN.out (by omega) HAL.out.size ?hk1)
  (try case hy1 => rfl)
  case hk1 =>
    intro A2 c2 w2 hv2 hb2
    have HV2 := Lib.hid (show w2.ownsRow w1.heap.size 3 1 (.slice A2 n1 c2) n1 (l1.flatMap encN) from by simpa using hv2)
    have HB2 := Lib.hid (show Below w1.heap.size w1 w2 from HAL.out.trans hb2)
    clear hv2 hb2
    have HC := Lib.hid (quorum_any A n0 c l0 A2 n1 c2 l1 w2 ((vt_sl HR1.out HL0.out).belowMore HB2.out HB2.out.size) HG.out (n_sl HV2.out HL1.out) (by omega))
    go_wp2_with fail
    refine HC.out.mono ?_
    rintro e w3 ⟨rfl, hb3⟩
    have HB3 := Lib.hid (HB1.out.trans ((HB2.out.trans (hb3.mono HB2.out.size)).mono HB1.out.size)); clear hb3 HC
    have HT := Lib.hid (theirs_any A0 n0 c0 l0 w3 (HO0.out.belowMore HB3.out HB3.out.size) z0)
    go_wp2_with fail
    refine HT.out.mono ?_
    rintro e w4 ⟨⟨A4, c4, rfl, hr4⟩, hb4⟩
    have HB4 := Lib.hid (HB3.out.trans (hb4.mono HB3.out.size)); have HR4 := Lib.hid hr4; clear hb4 hr4 HT
    have HC := Lib.hid (refQuorum_any A4 n0 c4 l0 A1 n1 c1 l1 w4 (vt_sl HR4.out HL0.out) (HO1.out.belowMore HB4.out HB4.out.size) z0 z1)
    generalize quorumB l0 l1 = qb at *
    go_wp2_with fail
    refine HC.out.mono ?_
    rintro e w5 ⟨rfl, hb5⟩
    have HB5 := Lib.hid (HB4.out.trans (hb5.mono HB4.out.size)); clear hb5 HC
    have HLV := Lib.hid (liveQuorum_any w5 (HE.out.below (Nat.le_refl _) HB5.out))
    have hqq : (qb == qb) = true := by simp
    go_wp2_with fail
    refine HLV.out.mono ?_
    rintro e w6 ⟨rfl, hb6⟩
    have HB6 := Lib.hid (HB5.out.trans (hb6.mono HB5.out.size)); clear hb6 HLV
    go_wp2_with fail
    go_ret
    exact RetB.mk HB6.out rfl
end Go.Proofs.YtbpmmmnphpkdjaaGreatDoor
