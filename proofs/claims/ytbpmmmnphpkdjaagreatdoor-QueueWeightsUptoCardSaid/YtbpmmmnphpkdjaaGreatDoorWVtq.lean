/- The walks of the document's among, Fit, Quorum. Condition: at most 2^20 voters and numbers. -/
import Derived.Test.YtbpmmmnphpkdjaaGreatDoorWVtr
namespace Go.Proofs.YtbpmmmnphpkdjaaGreatDoor
set_option linter.unusedSimpArgs false
set_option maxRecDepth 100000
set_option maxHeartbeats 20000000
open Go.RowKit Go.MapKept Go.Maps
theorem qku (A : Option Addr) (n c : Nat) (l : List Int) (v : Int) (w : World) (hz : Sl w w.heap.size encN 1 A n l) (hn : n ≤ 1048576) : Calls Tryz.prog 61 #[.slice A n c, .int .i64 v] w (CtnB (decide (v ∈ l)) w) := by
 have HZ := Lib.hid hz; have HL := Lib.hid hz.len
 clear hz
 go_enter Tryz.func61, Tryz.ntmps61
 go_wp2_with fail
 go_loop [5] (fun i => ∃ k : Nat, i = .int .i64 ↑k ∧ k ≤ n ∧ v ∉ l.take k) (fun i => n - (intOf i).toNat)
 case atStart => exact ⟨0, rfl, Nat.zero_le _, by simp⟩
 case round =>
  obtain ⟨k, rfl, hk, hnm⟩ := hrel
  have HM := Lib.hid hnm; clear hnm
  by_cases hlt : k < n
  ·obtain ⟨b, off, rfl, _, hc⟩ := HZ.out.cells hlt
   have c0 : w.cell? ⟨b, off + k, none⟩ = some (.int .i64 l[k]!) := by have := hc 0 _ rfl; simpa using this
   have HT := Lib.hid (show l.take (k + 1) = l.take k ++ [l[k]!] from qbi l k (by rw [HL.out]; exact hlt))
   have HI := Lib.hid (show l[k]! ∈ l by rw [getElem!_pos l k (by rw [HL.out]; exact hlt)]; exact List.getElem_mem _)
   clear hc
   generalize l[k]! = y at *
   by_cases hy : y = v
   ·subst hy
    go_wp2_with fail
    go_ret
    exact CtnB.mk (decide_eq_true HI.out).symm
   ·have hb : (y == v) = false := by simpa using hy
    have HY := Lib.hid hy; clear hy
    go_wp2_with fail
    go_round
    case rel => exact ⟨k + 1, by go_num, by omega, by rw [HT.out, List.mem_append, List.mem_singleton]; exact fun h => h.elim HM.out (fun h => HY.out h.symm)⟩
    case measure => simp [intOf]; omega
  ·obtain rfl : k = n := by omega
   have HN := Lib.hid (show decide (v ∈ l) = false from decide_eq_false (by have := HM.out; rwa [← HL.out, List.take_length] at this))
   go_wp2_with fail
   go_ret
   exact CtnB.mk HN.out.symm
def okW (l : List VtV) : Bool := l.all (fun v => decide (0 ≤ v.2 ∧ v.2 ≤ 4294967296))
def posW (l : List VtV) : Bool := l.any (fun v => decide (0 < v.2))
theorem qmm (l : List VtV) (v : VtV) : okW (l ++ [v]) = (okW l && decide (0 ≤ v.2 ∧ v.2 ≤ 4294967296)) := by simp [okW, List.all_append]
theorem qkL (l : List VtV) (v : VtV) : posW (l ++ [v]) = (posW l || decide (0 < v.2)) := by simp [posW, List.any_append]
theorem qiX (l : List VtV) : fitB l = (okW l && posW l && decide (l.length ≤ 9)) := rfl
theorem qoD {l : List VtV} {k : Nat} (hk : k < l.length) (h : ¬ (0 ≤ l[k]!.2 ∧ l[k]!.2 ≤ 4294967296)) : fitB l = false := by
 refine qje (v := l[k]!) ?_ h
 rw [getElem!_pos l k hk]; exact List.getElem_mem hk
theorem qec (A : Option Addr) (n c : Nat) (l : List VtV) (w : World) (hz : Sl w w.heap.size encVt 2 A n l) (hn : n ≤ 1048576) : Calls Tryz.prog 60 #[.slice A n c] w (CtnB (fitB l) w) := by
 have HZ := Lib.hid hz; have HL := Lib.hid hz.len
 clear hz
 go_enter Tryz.func60, Tryz.ntmps60
 go_wp2_with fail
 go_loop [3, 4] (fun s i => ∃ k : Nat, i = .int .i64 ↑k ∧ k ≤ n ∧ okW (l.take k) = true ∧ s = .bool (posW (l.take k))) (fun _ i => n - (intOf i).toNat)
 case atStart => exact ⟨0, rfl, Nat.zero_le _, rfl, rfl⟩
 case round =>
  obtain ⟨k, rfl, hk, hok, rfl⟩ := hrel
  have HK := Lib.hid hok; clear hok
  by_cases hlt : k < n
  ·obtain ⟨b, off, rfl, _, hc⟩ := HZ.out.cells hlt
   have c1 : w.cell? ⟨b, off + k * 2 + 1, none⟩ = some (.int .i64 l[k]!.2) := by have := hc 1 _ rfl; exact this
   have HT := Lib.hid (show l.take (k + 1) = l.take k ++ [l[k]!] from qbi l k (by rw [HL.out]; exact hlt))
   have HNO := Lib.hid (fun h => qoD (l := l) (k := k) (by rw [HL.out]; exact hlt) h)
   have HO1 := Lib.hid (qmm (l.take k) l[k]!); have HP1 := Lib.hid (qkL (l.take k) l[k]!)
   rw [← HT.out] at HO1 HP1
   clear hc
   generalize l[k]! = v at *
   obtain ⟨g, wt⟩ := v
   dsimp only at c1 HNO HO1 HP1
   generalize posW (l.take k) = pb at *
   by_cases h0 : wt < 0
   ·have b0 : decide (wt < 0) = true := decide_eq_true h0
    have HF := Lib.hid (HNO.out (by omega))
    clear h0
    go_wp2_with fail
    go_ret
    exact CtnB.mk HF.out.symm
   ·have b0 : decide (wt < 0) = false := decide_eq_false h0
    by_cases h1 : 4294967296 < wt
    ·have b1 : decide (4294967296 < wt) = true := decide_eq_true h1
     have HF := Lib.hid (HNO.out (by omega))
     clear h0 h1
     go_wp2_with fail
     go_ret
     exact CtnB.mk HF.out.symm
    ·have b1 : decide (4294967296 < wt) = false := decide_eq_false h1
     have HK1 := Lib.hid (show okW (l.take (k + 1)) = true by rw [HO1.out, HK.out, decide_eq_true (by omega)]; rfl)
     clear h0 h1
     cases pb with
     | true =>
      go_wp2_with fail
      go_round
      case rel => exact ⟨k + 1, by go_num, by omega, HK1.out, by rw [HP1.out]; rfl⟩
      case measure => simp [intOf]; omega
     | false =>
      go_wp2_with fail
      go_round
      case rel => exact ⟨k + 1, by go_num, by omega, HK1.out, by rw [HP1.out, Bool.false_or]⟩
      case measure => simp [intOf]; omega
  ·obtain rfl : k = n := by omega
   have HA := Lib.hid (show l.take k = l by rw [← HL.out]; exact List.take_length)
   have HF := Lib.hid (qiX l)
   rw [HA.out] at HK
   rw [HA.out]
   rw [HK.out, Bool.true_and, HL.out] at HF
   cases hp : posW l with
   | true =>
    rw [hp] at HF
    by_cases h9 : k ≤ 9
    ·have b9 : decide (k ≤ 9) = true := decide_eq_true h9
     rw [b9] at HF
     have H9 := Lib.hid h9
     clear hp h9
     go_wp2_with fail
     go_ret
     exact CtnB.mk (by rw [HF.out]; have := H9.out; simp; omega)
    ·have b9 : decide (k ≤ 9) = false := decide_eq_false h9
     rw [b9] at HF
     have H9 := Lib.hid h9
     clear hp h9
     go_wp2_with fail
     go_ret
     exact CtnB.mk (by rw [HF.out]; have := H9.out; simp; omega)
   | false =>
    rw [hp] at HF
    clear hp
    go_wp2_with fail
    go_ret
    exact CtnB.mk (by rw [HF.out]; rfl)
/-- is voter i the first one of its group, as far as number k? -/
def fstR (l : List VtV) (i : Nat) : Nat → Bool
 | 0 => true
 | k + 1 => if l[k]!.1 = l[i]!.1 then fstR l i k && decide (i ≤ k) else fstR l i k
theorem qfm (l : List VtV) (i : Nat) : ∀ n, fstR l i n = true ↔ ∀ k, k < n → l[k]!.1 = l[i]!.1 → i ≤ k
 | 0 => by simp [fstR]
 | n + 1 => by
  have ih := qfm l i n
  unfold fstR
  by_cases h : l[n]!.1 = l[i]!.1
  ·rw [if_pos h, Bool.and_eq_true, ih, decide_eq_true_eq]
   constructor
   ·rintro ⟨h1, h2⟩ k hk hg
    rcases Nat.lt_succ_iff_lt_or_eq.1 hk with h3 | rfl
    ·exact h1 k h3 hg
    ·exact h2
   ·intro h1
    exact ⟨fun k hk hg => h1 k (by omega) hg, h1 n (by omega) h⟩
  ·rw [if_neg h, ih]
   constructor
   ·intro h1 k hk hg
    rcases Nat.lt_succ_iff_lt_or_eq.1 hk with h3 | rfl
    ·exact h1 k h3 hg
    ·exact absurd hg h
   ·intro h1 k hk hg
    exact h1 k (by omega) hg
/-- the groups of the first j voters, each once -/
def fkL (l : List VtV) : Nat → List Int
 | 0 => []
 | j + 1 => if fstR l j l.length = true ∧ 0 < gsum l l[j]!.1 then fkL l j ++ [l[j]!.1] else fkL l j
theorem qgk (l : List VtV) (g : Int) : ∀ j, j ≤ l.length → (g ∈ fkL l j ↔ (∃ k, k < j ∧ l[k]!.1 = g) ∧ 0 < gsum l g)
 | 0, _ => by simp [fkL]
 | j + 1, hj => by
  have ih := qgk l g j (by omega)
  unfold fkL
  by_cases hf : fstR l j l.length = true ∧ 0 < gsum l l[j]!.1
  ·rw [if_pos hf, List.mem_append, List.mem_singleton, ih]
   constructor
   ·rintro (⟨⟨k, hk, e⟩, h⟩ | rfl)
    ·exact ⟨⟨k, by omega, e⟩, h⟩
    ·exact ⟨⟨j, by omega, rfl⟩, hf.2⟩
   ·rintro ⟨⟨k, hk, e⟩, h⟩
    rcases Nat.lt_succ_iff_lt_or_eq.1 hk with h3 | rfl
    ·exact .inl ⟨⟨k, h3, e⟩, h⟩
    ·exact .inr e.symm
  ·rw [if_neg hf, ih]
   constructor
   ·rintro ⟨⟨k, hk, e⟩, h⟩; exact ⟨⟨k, by omega, e⟩, h⟩
   ·rintro ⟨⟨k, hk, e⟩, h⟩
    refine ⟨?_, h⟩
    rcases Nat.lt_succ_iff_lt_or_eq.1 hk with h3 | rfl
    ·exact ⟨k, h3, e⟩
    ·have hnf : ¬ fstR l k l.length = true := fun h4 => hf ⟨h4, by rw [e]; exact h⟩
     rw [qfm] at hnf
     apply Classical.byContradiction
     intro hno
     apply hnf
     intro m hm hg
     apply Classical.byContradiction
     intro hlt
     exact hno ⟨m, by omega, by rw [hg]; exact e⟩
theorem qgH (l : List VtV) : ∀ j, j ≤ l.length → (fkL l j).Nodup
 | 0, _ => List.nodup_nil
 | j + 1, hj => by
  have ih := qgH l j (by omega)
  unfold fkL
  by_cases hf : fstR l j l.length = true ∧ 0 < gsum l l[j]!.1
  ·rw [if_pos hf]
   refine List.nodup_append.2 ⟨ih, by simp, fun a ha b hb => ?_⟩
   rw [List.mem_singleton.1 hb]
   rintro rfl
   obtain ⟨⟨k, hk, e⟩, _⟩ := (qgk l _ j (by omega)).1 ha
   have := (qfm l j l.length).1 hf.1 k (by omega) e
   omega
  ·rw [if_neg hf]; exact ih
theorem qla (l : List VtV) (hv : List Int) : qbd l hv = (fitB l && decide ((fkL l l.length).length < 2 * (fkL l l.length).countP (wonB l hv))) := by
 refine qgv l hv _ (qgH l _ (Nat.le_refl _)) fun g => ?_
 rw [qgk l g _ (Nat.le_refl _)]
 constructor
 ·exact fun h => h.2
 ·intro h
  refine ⟨?_, h⟩
  apply Classical.byContradiction
  intro hno
  have := qdF l g (fun v hv e => by
   obtain ⟨k, hk, rfl⟩ := List.mem_iff_getElem.1 hv
   exact hno ⟨k, hk, by rw [getElem!_pos l k hk]; exact e⟩)
  omega
theorem qgn (hv : List Int) (g : Int) : ∀ (l : List VtV) (i : Nat), (∀ v ∈ l, 0 ≤ v.2) → 0 ≤ msum hv i l g ∧ msum hv i l g ≤ gsum l g
 | [], _, _ => by simp [msum, gsum]
 | v :: r, i, hw => by
  have ih := qgn hv g r (i + 1) (fun x hx => hw x (List.mem_cons_of_mem _ hx))
  have hv2 := hw v List.mem_cons_self
  unfold msum gsum
  by_cases h1 : v.1 = g
  ·by_cases h2 : (i : Int) ∈ hv
   ·rw [if_pos ⟨h1, h2⟩, if_pos h1]; omega
   ·rw [if_neg (fun h => h2 h.2), if_pos h1]; omega
  ·rw [if_neg (fun h => h1 h.1), if_neg h1]; omega
/-- what the inner loop has reckoned -/
structure VqR (l : List VtV) (hv : List Int) (i k : Nat) (f a m : Value) : Prop where
 f : f = .bool (fstR l i k)
 a : a = .int .i64 (gsum (l.take k) l[i]!.1)
 m : m = .int .i64 (msum hv 0 (l.take k) l[i]!.1)
theorem qiT {l : List VtV} (h : ∀ v ∈ l, wOk v) (k : Nat) : ∀ v ∈ l.take k, wOk v := fun v hv => h v (List.mem_of_mem_take hv)
theorem qeT (l : List VtV) : ∀ j, (fkL l j).length ≤ j
 | 0 => by simp [fkL]
 | j + 1 => by
  have := qeT l j
  unfold fkL
  split
  ·simp; omega
  ·omega
theorem qiZ (l : List VtV) (hv : List Int) (j : Nat) : (fkL l j).countP (wonB l hv) ≤ j := Nat.le_trans List.countP_le_length (qeT l j)
theorem qgQ (A : Option Addr) (n c : Nat) (l : List VtV) (A' : Option Addr) (n' c' : Nat) (hv : List Int) (w : World) (hz : Sl w w.heap.size encVt 2 A n l) (hz' : Sl w w.heap.size encN 1 A' n' hv) (hn : n ≤ 1048576) (hn' : n' ≤ 1048576) :
  Calls Tryz.prog 14 #[.slice A n c, .slice A' n' c'] w (QrmP (qbd l hv) w) := by
 have HF := Lib.hid (qec A n c l w hz hn)
 have HZ := Lib.hid hz; have HL := Lib.hid hz.len; have HH := Lib.hid hz'
 have HQ := Lib.hid (qla l hv)
 clear hz hz'
 cases hfit : fitB l with
 | false =>
  rw [hfit] at HF HQ
  clear hfit
  go_enter Tryz.func14, Tryz.ntmps14
  go_wp2_with fail
  refine HF.out.mono ?_
  rintro e w' ⟨rfl, hw⟩
  obtain rfl : w = w' := hw.symm
  go_wp2_with fail
  go_ret
  exact QrmP.mk (by rw [HQ.out]; rfl) (Below.refl _ _)
 | true =>
  have HW := Lib.hid (qhb hfit)
  have h9 : l.length ≤ 9 := by have := hfit; rw [qiX, Bool.and_eq_true, decide_eq_true_eq] at this; exact this.2
  rw [HL.out] at h9
  rw [hfit, Bool.true_and] at HQ
  rw [hfit] at HF
  clear hfit
  rw [HL.out] at HQ
  go_enter Tryz.func14, Tryz.ntmps14
  go_wp2_with fail
  refine HF.out.mono ?_
  rintro e w' ⟨rfl, hw⟩
  obtain rfl : w = w' := hw.symm
  clear HF
  go_wp2_with fail
  go_loopw [5, 6, 7] (fun g o i wr => ∃ j q : Nat, i = .int .i64 ↑j ∧ j ≤ n ∧ g = .int .i64 ↑(fkL l j).length ∧ o = .int .i64 ↑((fkL l j).countP (wonB l hv)) ∧ wr = w.drewN q) (fun _ _ i _ => n - (intOf i).toNat)
  case atStart => exact ⟨0, 0, rfl, Nat.zero_le _, rfl, rfl, rfl⟩
  case round =>
   obtain ⟨j, q, rfl, hj, rfl, rfl, rfl⟩ := hrel
   by_cases hlt : j < n
   ·obtain ⟨b, off, rfl, _, hcj⟩ := HZ.out.cells hlt
    have HCJ := Lib.hid (show w.cell? ⟨b, off + j * 2, none⟩ = some (.int .i64 l[j]!.1) from hcj 0 _ rfl)
    have HFK := Lib.hid (show fkL l (j + 1) = if fstR l j l.length = true ∧ 0 < gsum l l[j]!.1 then fkL l j ++ [l[j]!.1] else fkL l j from rfl)
    rw [HL.out] at HFK
    have HG9 := Lib.hid (qeT l j); have HO9 := Lib.hid (qiZ l hv j)
    generalize hGJ : fkL l j = fk at *
    clear hGJ hcj
    go_wp2_with fail
    obtain ⟨wo, hwo⟩ : ∃ wo : World, wo = w.drewN q := ⟨_, rfl⟩
    have HWO := Lib.hid hwo
    go_loopw [8, 9, 10, 11] (fun f a m i wr => ∃ k q' : Nat, i = .int .i64 ↑k ∧ k ≤ n ∧ VqR l hv j k f a m ∧ wr = w.drewN q') (fun _ _ _ i _ => n - (intOf i).toNat)
    case atStart => exact ⟨0, q, rfl, Nat.zero_le _, ⟨rfl, rfl, rfl⟩, rfl⟩
    case round =>
     obtain ⟨k, q', rfl, hk, ⟨rfl, rfl, rfl⟩, rfl⟩ := hrel
     by_cases hlk : k < n
     ·have hck : w.cell? ⟨b, off + k * 2, none⟩ = some (.int .i64 l[k]!.1) ∧ w.cell? ⟨b, off + k * 2 + 1, none⟩ = some (.int .i64 l[k]!.2) := by
       obtain ⟨b2, off2, e2, _, hc⟩ := HZ.out.cells hlk
       injection e2 with e2; injection e2 with e2 e3
       subst e2 e3
       exact ⟨hc 0 _ rfl, hc 1 _ rfl⟩
      obtain ⟨ck0, ck1⟩ := hck
      have cj0 := HCJ.out
      have hkl : k < l.length := by rw [HL.out]; exact hlk
      have hwk : wOk l[k]! := HW.out _ (by rw [getElem!_pos l k hkl]; exact List.getElem_mem hkl)
      have HT := Lib.hid (qbi l k hkl)
      have hgb := qcg (l.take k) l[j]!.1 (qiT HW.out k)
      have hmb := qgn hv l[j]!.1 (l.take k) 0 (fun v hv => (qiT HW.out k v hv).1)
      have hlen : (l.take k).length ≤ 9 := by rw [List.length_take]; omega
      have HS1 := Lib.hid (show fstR l j (k + 1) = if l[k]!.1 = l[j]!.1 then fstR l j k && decide (j ≤ k) else fstR l j k from rfl)
      have HS2 := Lib.hid (show gsum (l.take (k + 1)) l[j]!.1 = gsum (l.take k) l[j]!.1 + (if l[k]!.1 = l[j]!.1 then l[k]!.2 else 0) by rw [HT.out, qdI])
      have HS3 := Lib.hid (show msum hv 0 (l.take (k + 1)) l[j]!.1 = msum hv 0 (l.take k) l[j]!.1 + (if l[k]!.1 = l[j]!.1 ∧ (k : Int) ∈ hv then l[k]!.2 else 0) by rw [HT.out, qdE, List.length_take, Nat.zero_add, Nat.min_eq_left (Nat.le_of_lt hkl)])
      have HAM := Lib.hid (fun q => qku A' n' c' hv (k : Int) (w.drewN q) (HH.out.below (qbl w q)) hn')
      have hki : (k : Int) < (n : Int) := by omega
      have hk0 : (0 : Int) ≤ (k : Int) := by omega
      have hji : (j : Int) < (n : Int) := by omega
      have hj0 : (0 : Int) ≤ (j : Int) := by omega
      have hgb1 : 0 ≤ gsum (l.take k) l[j]!.1 := hgb.1
      have hgb2 : gsum (l.take k) l[j]!.1 ≤ 38654705664 := by have := hgb.2; have : ((l.take k).length : Int) * 4294967296 ≤ 9 * 4294967296 := by omega
                                                              omega
      have hmb1 : 0 ≤ msum hv 0 (l.take k) l[j]!.1 := hmb.1
      have hmb2 : msum hv 0 (l.take k) l[j]!.1 ≤ 38654705664 := Int.le_trans hmb.2 hgb2
      have hw1 : 0 ≤ l[k]!.2 := hwk.1
      have hw2 : l[k]!.2 ≤ 4294967296 := hwk.2
      clear hgb hmb hlen hwk hkl
      generalize gsum (l.take k) l[j]!.1 = ga at *
      generalize msum hv 0 (l.take k) l[j]!.1 = ma at *
      generalize hfR : fstR l j k = fr at *
      clear hfR
      generalize hvk : l[k]! = vk at *
      have HVK := Lib.hid hvk; clear hvk
      obtain ⟨gk, wk⟩ := vk
      dsimp only at ck0 ck1 HS1 HS2 HS3 hw1 hw2
      generalize hgj : l[j]!.1 = gj at *
      have HGJ := Lib.hid hgj; clear hgj
      by_cases he : gk = gj
      ·subst he
       rw [if_pos rfl] at HS1 HS2
       have hne : (gk != gk) = false := by simp
       by_cases hin : (k : Int) ∈ hv
       ·rw [if_pos ⟨rfl, hin⟩] at HS3
        rw [decide_eq_true hin] at HAM
        clear hin
        cases fr with
        | true =>
         go_wp2_with fail
         go_quiet (fail)
         go_wp2_with fail
         refine (HAM.out _).mono ?_
         rintro e w' ⟨rfl, rfl⟩
         go_wp2_with fail
         go_roundw
         case rel => exact ⟨k + 1, _, by go_num, by omega, ⟨by rw [HS1.out, Bool.true_and], by rw [HGJ.out, HS2.out], by rw [HGJ.out, HS3.out]⟩, rfl⟩
         case measure => simp [intOf]; omega
        | false =>
         go_wp2_with fail
         go_quiet (fail)
         go_wp2_with fail
         refine (HAM.out _).mono ?_
         rintro e w' ⟨rfl, rfl⟩
         go_wp2_with fail
         go_roundw
         case rel => exact ⟨k + 1, _, by go_num, by omega, ⟨by rw [HS1.out]; rfl, by rw [HGJ.out, HS2.out], by rw [HGJ.out, HS3.out]⟩, rfl⟩
         case measure => simp [intOf]; omega
       ·rw [if_neg (fun h => hin h.2), Int.add_zero] at HS3
        rw [decide_eq_false hin] at HAM
        clear hin
        cases fr with
        | true =>
         go_wp2_with fail
         go_quiet (fail)
         go_wp2_with fail
         refine (HAM.out _).mono ?_
         rintro e w' ⟨rfl, rfl⟩
         go_wp2_with fail
         go_roundw
         case rel => exact ⟨k + 1, _, by go_num, by omega, ⟨by rw [HS1.out, Bool.true_and], by rw [HGJ.out, HS2.out], by rw [HGJ.out, HS3.out]⟩, rfl⟩
         case measure => simp [intOf]; omega
        | false =>
         go_wp2_with fail
         go_quiet (fail)
         go_wp2_with fail
         refine (HAM.out _).mono ?_
         rintro e w' ⟨rfl, rfl⟩
         go_wp2_with fail
         go_roundw
         case rel => exact ⟨k + 1, _, by go_num, by omega, ⟨by rw [HS1.out]; rfl, by rw [HGJ.out, HS2.out], by rw [HGJ.out, HS3.out]⟩, rfl⟩
         case measure => simp [intOf]; omega
      ·rw [if_neg he] at HS1 HS2
       rw [if_neg (fun h => he h.1), Int.add_zero] at HS3
       rw [Int.add_zero] at HS2
       have hne : (gk != gj) = true := by simpa using he
       clear he
       go_wp2_with fail
       go_quiet (fail)
       go_wp2_with fail
       go_roundw
       case rel => exact ⟨k + 1, _, by go_num, by omega, ⟨by rw [HS1.out], by rw [HGJ.out, HS2.out], by rw [HGJ.out, HS3.out]⟩, rfl⟩
       case measure => simp [intOf]; omega
     ·obtain rfl : k = n := by omega
      have hA : l.take k = l := by rw [← HL.out]; exact List.take_length
      rw [hA]
      have HWN := Lib.hid (show wonB l hv l[j]!.1 = decide (gsum l l[j]!.1 < 2 * msum hv 0 l l[j]!.1) from rfl)
      have hgb := qcg l l[j]!.1 HW.out
      have hmb := qgn hv l[j]!.1 l 0 (fun v hv => (HW.out v hv).1)
      have hll := HL.out
      have hmb2 : msum hv 0 l l[j]!.1 ≤ 38654705664 := by
       have h1 : (l.length : Int) * 4294967296 ≤ 9 * 4294967296 := by omega
       omega
      have hmb1 : 0 ≤ msum hv 0 l l[j]!.1 := hmb.1
      have hG9 := HG9.out; have hO9 := HO9.out
      clear hgb hmb hll hA
      generalize gsum l l[j]!.1 = ga at *
      generalize msum hv 0 l l[j]!.1 = ma at *
      generalize hgj : l[j]!.1 = gj at *
      generalize hfR : fstR l j k = fr at *
      clear hfR
      have HCP := Lib.hid (show (fk ++ [gj]).countP (wonB l hv) = fk.countP (wonB l hv) + (if wonB l hv gj = true then 1 else 0) by rw [List.countP_append, List.countP_cons, List.countP_nil, Nat.zero_add])
      have HLP := Lib.hid (show (fk ++ [gj]).length = fk.length + 1 by simp)
      have HXO := Lib.hid (show fk.countP (wonB l hv) = fk.countP (wonB l hv) ∧ fk.length = fk.length from ⟨rfl, rfl⟩)
      generalize hxo : fk.countP (wonB l hv) = xo at *
      generalize hxg : fk.length = xg at *
      have HXX := Lib.hid (And.intro hxo hxg); clear hxo hxg HXO
      cases fr with
      | false =>
       rw [if_neg (by simp)] at HFK
       go_wp2_with fail
       go_roundw
       case rel => exact ⟨j + 1, q', by go_num, by omega, by rw [HFK.out, HXX.out.2], by rw [HFK.out, HXX.out.1], rfl⟩
       case measure => simp [intOf]; omega
      | true =>
       by_cases hp : 0 < ga
       ·rw [if_pos ⟨rfl, hp⟩] at HFK
        have bp : decide (0 < ga) = true := decide_eq_true hp
        by_cases hw : ga < 2 * ma
        ·have bw : decide (ga < 2 * ma) = true := decide_eq_true hw
         rw [bw] at HWN
         rw [HWN.out, if_pos rfl] at HCP
         clear hp hw
         go_wp2_with fail
         go_roundw
         case rel => exact ⟨j + 1, q', by go_num, by omega, by rw [HFK.out, HLP.out]; go_num, by rw [HFK.out, HCP.out]; go_num, rfl⟩
         case measure => simp [intOf]; omega
        ·have bw : decide (ga < 2 * ma) = false := decide_eq_false hw
         rw [bw] at HWN
         rw [HWN.out, if_neg (by simp), Nat.add_zero] at HCP
         clear hp hw
         go_wp2_with fail
         go_roundw
         case rel => exact ⟨j + 1, q', by go_num, by omega, by rw [HFK.out, HLP.out]; go_num, by rw [HFK.out, HCP.out], rfl⟩
         case measure => simp [intOf]; omega
       ·rw [if_neg (fun h => hp h.2)] at HFK
        have bp : decide (0 < ga) = false := decide_eq_false hp
        clear hp
        go_wp2_with fail
        go_roundw
        case rel => exact ⟨j + 1, q', by go_num, by omega, by rw [HFK.out, HXX.out.2], by rw [HFK.out, HXX.out.1], rfl⟩
        case measure => simp [intOf]; omega
   ·obtain rfl : j = n := by omega
    have hc1 := qiZ l hv j
    have hc2 := qeT l j
    generalize (fkL l j).countP (wonB l hv) = x at *
    generalize (fkL l j).length = y at *
    go_wp2_with fail
    go_ret
    exact QrmP.mk (by rw [HQ.out]; simp; omega) (qbl w q)
end Go.Proofs.YtbpmmmnphpkdjaaGreatDoor
