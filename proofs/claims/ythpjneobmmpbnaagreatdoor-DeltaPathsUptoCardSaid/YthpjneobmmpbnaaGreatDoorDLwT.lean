/- The walks of the law's Txns and texts at equal lists, and of DeltaSteps. Condition: a delta's lists have at most 2^20. -/
import Derived.Test.YthpjneobmmpbnaaGreatDoorDLwS
import Derived.Test.YthpjneobmmpbnaaGreatDoorDDlF
namespace Go.Proofs.YthpjneobmmpbnaaGreatDoor
open Go.RowKit Go.MapKept Go.Maps
/-- a list of transactions in memory -/
def TxL (w : World) (A : Option Addr) (c : Nat) (l : List TxT) : Prop := ∃ Hs : List TxH, SlR w (fun _ => True) encTx 16 (A, l.length, c) Hs ∧ ∀ j, j < l.length → TxAt w (fun _ => True) Hs[j]! l[j]!
theorem LsR.txl {RR : World → Nat → Nat → Prop} {B : Nat} {xs : List TxT} {A : Option Addr} {c : Nat} {wr : World} (H : LsR RR B xs A c wr) : TxL wr A c xs := by
  obtain ⟨Hs, h1, h2, h3⟩ := H.r
  have h4 := own_slr h1 (fun _ => rfl) h2
  exact ⟨Hs, SlR.fr h4 (Fr.refl [] wr) (fun b _ _ => ⟨by simp, trivial⟩) (fun _ => by simp [encTx]), fun j hj => TxAt.tru (h3 j hj) (Below.refl _ _)⟩
theorem TxL.below {w w' : World} {A : Option Addr} {c : Nat} {l : List TxT} (H : TxL w A c l) (hb : Below w.heap.size w w') : TxL w' A c l := by
  obtain ⟨Hs, h1, h2⟩ := H
  exact ⟨Hs, SlR.fr h1 (Fr.of_below (own := []) hb) (fun b _ _ => ⟨by simp, trivial⟩) (fun _ => by simp [encTx]), fun j hj => TxAt.tru (h2 j hj) hb⟩
set_option linter.unusedSimpArgs false in
set_option maxRecDepth 100000 in
set_option maxHeartbeats 8000000 in
theorem txns_any (A B : Option Addr) (ca cb : Nat) (l : List TxT) (w : World) (ha : TxL w A ca l) (hb : TxL w B cb l) (hok : ∀ t ∈ l, TxOk 1048576 t) (hn : l.length ≤ 1048576) : Calls Tryz.prog 22 #[.slice A l.length ca, .slice B l.length cb] w (RetB w true) := by
  obtain ⟨Ha, sa, ta⟩ := ha
  obtain ⟨Hb, sb, tb⟩ := hb
  have HSA := Lib.hid sa; have HSB := Lib.hid sb; have HTA := Lib.hid ta; have HTB := Lib.hid tb; have HOK := Lib.hid hok
  clear sa sb ta tb hok
  go_enter Tryz.func22, Tryz.ntmps22
  go_wp2_with fail
  go_loopw [5] (fun i wr => ∃ k : Nat, i = .int .i64 ↑k ∧ k ≤ l.length ∧ Below w.heap.size w wr) (fun i _ => l.length - (RowKit.intOf i).toNat)
  case atStart => exact ⟨0, rfl, Nat.zero_le _, Below.refl _ _⟩
  case round =>
  obtain ⟨k, rfl, hk, hbr⟩ := hrel
  have HB := Lib.hid hbr
  by_cases hlt : k < l.length
  · have hlt2 : (k : Int) < (l.length : Int) := by omega
    have hk0 : (0 : Int) ≤ (k : Int) := by omega
    obtain ⟨b1, o1, e1, -, c1⟩ := HSA.out.2.2 (Nat.lt_of_le_of_lt (Nat.zero_le _) hlt)
    obtain ⟨b2, o2, e2, -, c2⟩ := HSB.out.2.2 (Nat.lt_of_le_of_lt (Nat.zero_le _) hlt)
    have e1 : A = some ⟨b1, o1, none⟩ := e1
    have e2 : B = some ⟨b2, o2, none⟩ := e2
    subst e1 e2
    have r1 : wr.rangeAt b1 (o1 + k * 16) (encTx Ha[k]!) := fun i u hu => (hbr.cell (World.block_lt_of_cell? w _ (c1 k hlt i u hu))).trans (c1 k hlt i u hu)
    have r2 : wr.rangeAt b2 (o2 + k * 16) (encTx Hb[k]!) := fun i u hu => (hbr.cell (World.block_lt_of_cell? w _ (c2 k hlt i u hu))).trans (c2 k hlt i u hu)
    have hm : l[k]! ∈ l := by rw [getElem!_pos l k hlt]; exact List.getElem_mem hlt
    have CL := Lib.hid (fun (n : Nat) (os : Array Obj) => by
      have g := below_regrown wr n os
      have gw := hbr.trans (g.mono hbr.size)
      have h9 := sameTxG l[k]! l[k]! Ha[k]! Hb[k]! (Go.Sort.grow (redrawn wr n) os) _ _ (TxAt.tru (HTA.out k hlt) gw) (TxAt.tru (HTB.out k hlt) gw) (HOK.out _ hm) (HOK.out _ hm)
      rw [show sameT l[k]! l[k]! = true from sameT_eq rfl] at h9
      exact Calls.regrown_of h9)
    generalize Ha[k]! = h1 at *
    generalize Hb[k]! = h2 at *
    have HL1 := Lib.hid (fun (w' : World) (hw : ∃ p : Regrown, w' = Go.Sort.grow (redrawn wr p.d) p.os) => (show w'.rangeAt b1 (o1 + k * 16) [.int .i32 h1.n.ty, .string h1.n.path, slV h1.d, slV h1.a, .int .i64 h1.n.ow, .int .i32 h1.n.ve, .int .i32 h1.n.cr, .bool h1.n.qh, .int .i64 h1.n.qc, .int .i64 h1.n.qb, .int .i64 h1.n.si, .int .i32 h1.n.st, slV h1.i, slV h1.p, .int .i32 h1.n.co, slV h1.s] from by
      obtain ⟨p, rfl⟩ := hw
      exact fun i u hu => cell_regrown (r1 i u hu) p.d p.os))
    have HL2 := Lib.hid (fun (w' : World) (hw : ∃ p : Regrown, w' = Go.Sort.grow (redrawn wr p.d) p.os) => (show w'.rangeAt b2 (o2 + k * 16) [.int .i32 h2.n.ty, .string h2.n.path, slV h2.d, slV h2.a, .int .i64 h2.n.ow, .int .i32 h2.n.ve, .int .i32 h2.n.cr, .bool h2.n.qh, .int .i64 h2.n.qc, .int .i64 h2.n.qb, .int .i64 h2.n.si, .int .i32 h2.n.st, slV h2.i, slV h2.p, .int .i32 h2.n.co, slV h2.s] from by
      obtain ⟨p, rfl⟩ := hw
      exact fun i u hu => cell_regrown (r2 i u hu) p.d p.os))
    clear c1 c2 r1 r2 hbr
    go_wp2_with fail
    refine wp_region_quiet_below (by kernel_rfl) (by kernel_rfl) ?_
    repeat (first | (refine wpQuiet_load 33 HL1.out (by rfl) rfl rfl undTx rfl infTx ?_; simp only [Act.put, List.setIfInBounds_toArray, List.set_cons_zero, List.set_cons_succ]) | (refine wpQuiet_load 33 HL2.out (by rfl) rfl rfl undTx rfl infTx ?_; simp only [Act.put, List.setIfInBounds_toArray, List.set_cons_zero, List.set_cons_succ]) | go_big_quiet_step ((exact CL.out _ _)))
    refine wpQuiet_nil ?_
    intro _ hw'
    obtain ⟨⟨dq, osq⟩, hw''⟩ := hw'
    subst hw''
    have HBF := Lib.hid (HB.out.trans ((below_regrown wr dq osq).mono HB.out.size))
    clear HL1 HL2 CL
    go_wp2_with fail
    go_roundw
    case rel => exact ⟨k + 1, by go_num, by omega, HBF.out⟩
    case measure => simp [RowKit.intOf]; omega
  obtain rfl : k = l.length := by omega
  have hlt2 : ¬ ((l.length : Int) < (l.length : Int)) := by omega
  clear hbr
  go_wp2_with fail
  go_ret
  exact RetB.mk HB.out rfl
set_option linter.unusedSimpArgs false in
set_option maxRecDepth 100000 in
set_option maxHeartbeats 8000000 in
theorem texts_any (A B : Option Addr) (ca cb : Nat) (l : List ByteArray) (w : World) (ha : Sl w w.heap.size encStr 1 A l.length l) (hb : Sl w w.heap.size encStr 1 B l.length l) (hn : l.length ≤ 4194304) : Calls Tryz.prog 25 #[.slice A l.length ca, .slice B l.length cb] w (RetB w true) := by
  have HSA := Lib.hid ha; have HSB := Lib.hid hb
  clear ha hb
  go_enter Tryz.func25, Tryz.ntmps25
  go_wp2_with fail
  go_loopw [5] (fun i wr => ∃ k q : Nat, i = .int .i64 ↑k ∧ k ≤ l.length ∧ wr = w.drewN q) (fun i _ => l.length - (RowKit.intOf i).toNat)
  case atStart => exact ⟨0, 0, rfl, Nat.zero_le _, rfl⟩
  case round =>
  obtain ⟨k, q, rfl, hk, rfl⟩ := hrel
  by_cases hlt : k < l.length
  · have hlt2 : (k : Int) < (l.length : Int) := by omega
    have hk0 : (0 : Int) ≤ (k : Int) := by omega
    obtain ⟨b1, o1, e1, -, c1⟩ := HSA.out.2 (Nat.lt_of_le_of_lt (Nat.zero_le _) hlt)
    obtain ⟨b2, o2, e2, -, c2⟩ := HSB.out.2 (Nat.lt_of_le_of_lt (Nat.zero_le _) hlt)
    subst e1 e2
    have x0 : w.cell? ⟨b1, o1 + k, none⟩ = some (.string l[k]!) := by have := c1 k hlt 0 (.string l[k]!) rfl; simpa using this
    have x1 : w.cell? ⟨b2, o2 + k, none⟩ = some (.string l[k]!) := by have := c2 k hlt 0 (.string l[k]!) rfl; simpa using this
    have s1 := str_eq (rfl : l[k]! = l[k]!)
    clear c1 c2
    generalize l[k]! = x at *
    go_wp2_with fail
    go_quiet (fail)
    go_wp2_with fail
    go_roundw
    case rel => exact ⟨k + 1, _, by go_num, by omega, by (try simp only [World.drewN_drewN]); rfl⟩
    case measure => simp [RowKit.intOf]; omega
  obtain rfl : k = l.length := by omega
  have hlt2 : ¬ ((l.length : Int) < (l.length : Int)) := by omega
  go_wp2_with fail
  go_ret
  exact RetB.mk (drewN_self _ _) rfl
theorem steps_ok {d : DlT} (h : DlSm 1048576 d) : ∀ t ∈ stepsD d, TxOk 1048576 t := by
  intro t ht
  unfold stepsD at ht
  split at ht
  · cases ht
  have ht := (List.mem_filter.1 ht).1
  have htop := h.2.top
  unfold stepsL at ht
  split at ht
  · obtain ⟨j, hj, rfl⟩ := List.getElem_of_mem ht
    have := h.2.subAt (j := j) hj
    rwa [getElem!_pos d.t.subs j hj] at this
  split at ht
  · obtain ⟨p, hp, rfl⟩ := List.mem_map.1 ht
    obtain ⟨j, hj, rfl⟩ := List.getElem_of_mem hp
    have hs := htop.2.2.2.2.2.2.2.2.2 j hj
    rw [getElem!_pos d.t.v.paths j hj] at hs
    have t32 : in32 2 := ⟨by decide, by decide⟩
    have z32 : in32 0 := ⟨by decide, by decide⟩
    have z64 : in64 0 := ⟨by decide, by decide⟩
    exact TrAll.mk _ _ ⟨⟨t32, z64, z32, z32, z64, z64, z64, z32, z32⟩, hs, Nat.zero_le _, Nat.zero_le _, Nat.zero_le _, Nat.zero_le _, Nat.zero_le _, fun j hj => absurd hj (by simp), fun j hj => absurd hj (by simp), fun j hj => absurd hj (by simp)⟩ fun j hj => absurd hj (by simp)
  split at ht
  · cases ht
  · obtain rfl := List.mem_singleton.1 ht
    exact h.2
theorem touch_le {d : DlT} (h : DlSm 1048576 d) : (touchD d).length ≤ 4194304 := by
  have htop := h.2.top
  rw [touch_eq]
  have h1 := touchR_le (tKeys (stepsD d)); have h2 := tKeys_le (stepsD d); have h3 := stepsD_le htop.2.2.2.2.2.2.1 htop.2.2.2.2.2.1
  omega
set_option linter.unusedSimpArgs false in
set_option maxRecDepth 100000 in
set_option maxHeartbeats 20000000 in
theorem deltaSteps_any (h : DlH) (d : DlT) (w : World) (R : Nat → Prop) (hd : DlAt w R h d) (hE : Env w) (hsm : DlSm 1048576 d) : Calls Tryz.prog 5 #[dlV h] w (RetB w true) := by
  have hb1 : Below w.heap.size w (w.alloc (.cells #[.int .i64 h.se, .int .i32 h.xi, .int .i64 h.zx, .int .i64 h.ti, .int .i32 h.t.n.ty, .string h.t.n.path, slV h.t.d, slV h.t.a, .int .i64 h.t.n.ow, .int .i32 h.t.n.ve, .int .i32 h.t.n.cr, .bool h.t.n.qh, .int .i64 h.t.n.qc, .int .i64 h.t.n.qb, .int .i64 h.t.n.si, .int .i32 h.t.n.st, slV h.t.i, slV h.t.p, .int .i32 h.t.n.co, slV h.t.s] 35)) := (Below.refl _ w).alloc (Nat.le_refl _) _
  have HB1 := Lib.hid hb1
  have HE := Lib.hid hE
  have g0 := heap_s0 w (.cells #[.int .i64 h.se, .int .i32 h.xi, .int .i64 h.zx, .int .i64 h.ti, .int .i32 h.t.n.ty, .string h.t.n.path, slV h.t.d, slV h.t.a, .int .i64 h.t.n.ow, .int .i32 h.t.n.ve, .int .i32 h.t.n.cr, .bool h.t.n.qh, .int .i64 h.t.n.qc, .int .i64 h.t.n.qb, .int .i64 h.t.n.si, .int .i32 h.t.n.st, slV h.t.i, slV h.t.p, .int .i32 h.t.n.co, slV h.t.s] 35)
  have HZ := Lib.hid (sz1 w (.cells #[.int .i64 h.se, .int .i32 h.xi, .int .i64 h.zx, .int .i64 h.ti, .int .i32 h.t.n.ty, .string h.t.n.path, slV h.t.d, slV h.t.a, .int .i64 h.t.n.ow, .int .i32 h.t.n.ve, .int .i32 h.t.n.cr, .bool h.t.n.qh, .int .i64 h.t.n.qc, .int .i64 h.t.n.qb, .int .i64 h.t.n.si, .int .i32 h.t.n.st, slV h.t.i, slV h.t.p, .int .i32 h.t.n.co, slV h.t.s] 35))
  have HSM := Lib.hid hsm
  have HD := Lib.hid (show DlAt w (· < w.heap.size) h d from ⟨hd.1, hd.2.more fun b hb _ => hb⟩)
  have HDW := Lib.hid (fun (V : World) (hV : Below w.heap.size w V) => (show DlAt V (· < w.heap.size) h d from ⟨HD.out.1, TxAt.keep HD.out.2 fun p hp => hV.cell hp⟩))
  have HBG := Lib.hid (bigDl_any d h (w.alloc (.cells #[.int .i64 h.se, .int .i32 h.xi, .int .i64 h.zx, .int .i64 h.ti, .int .i32 h.t.n.ty, .string h.t.n.path, slV h.t.d, slV h.t.a, .int .i64 h.t.n.ow, .int .i32 h.t.n.ve, .int .i32 h.t.n.cr, .bool h.t.n.qh, .int .i64 h.t.n.qc, .int .i64 h.t.n.qb, .int .i64 h.t.n.si, .int .i32 h.t.n.st, slV h.t.i, slV h.t.p, .int .i32 h.t.n.co, slV h.t.s] 35)) (· < w.heap.size) (HDW.out _ hb1) hsm)
  clear hb1 hd hE hsm
  go_enter Tryz.func5, Tryz.ntmps5
  go_upto_region 1 with fail
  change Code.wp _ _ _ _ (w.alloc (.cells #[.int .i64 h.se, .int .i32 h.xi, .int .i64 h.zx, .int .i64 h.ti, .int .i32 h.t.n.ty, .string h.t.n.path, slV h.t.d, slV h.t.a, .int .i64 h.t.n.ow, .int .i32 h.t.n.ve, .int .i32 h.t.n.cr, .bool h.t.n.qh, .int .i64 h.t.n.qc, .int .i64 h.t.n.qb, .int .i64 h.t.n.si, .int .i32 h.t.n.st, slV h.t.i, slV h.t.p, .int .i32 h.t.n.co, slV h.t.s] 35))
  generalize w.alloc (.cells #[.int .i64 h.se, .int .i32 h.xi, .int .i64 h.zx, .int .i64 h.ti, .int .i32 h.t.n.ty, .string h.t.n.path, slV h.t.d, slV h.t.a, .int .i64 h.t.n.ow, .int .i32 h.t.n.ve, .int .i32 h.t.n.cr, .bool h.t.n.qh, .int .i64 h.t.n.qc, .int .i64 h.t.n.qb, .int .i64 h.t.n.si, .int .i32 h.t.n.st, slV h.t.i, slV h.t.p, .int .i32 h.t.n.co, slV h.t.s] 35) = W at *
  go_wp2_with (first | (apply wpList_loadRow 35 35; exact rfl; exact rfl; exact rfl; assumption; exact undDl; exact rfl; exact infDl) | fail)
  refine HBG.out.mono ?_
  rintro e w1 ⟨⟨b, rfl⟩, hb2⟩
  have HB2 := Lib.hid (HB1.out.trans (hb2.mono HB1.out.size))
  have g1 := (hb2.block w.heap.size (by have := HZ.out; omega)).trans g0
  have HZ2 := Lib.hid (show w.heap.size + 1 ≤ w1.heap.size by have := HZ.out; have := hb2.size; omega)
  clear hb2 g0 HBG HB1
  cases b
  case true =>
    have HAL := Lib.hid (alive13_any w1 (HE.out.below (Nat.le_refl _) HB2.out))
    go_wp2_with fail
    refine HAL.out.mono ?_
    rintro e w2 ⟨rfl, hb3⟩
    have HB3 := Lib.hid (HB2.out.trans (hb3.mono HB2.out.size))
    clear hb3
    go_wp2_with fail
    go_ret
    exact RetB.mk HB3.out rfl
  have HCL := Lib.hid (refCloneDl_any h d w1 _ (HDW.out w1 HB2.out) HSM.out)
  go_wp2_with (first | (apply wpList_loadRow 35 35; exact rfl; exact rfl; exact rfl; assumption; exact undDl; exact rfl; exact infDl) | fail)
  refine HCL.out.mono ?_
  rintro e w2 ⟨⟨h3, rfl, hd3⟩, hb3⟩
  have hb4 : Below w2.heap.size w2 (w2.alloc (.cells #[.int .i64 h3.se, .int .i32 h3.xi, .int .i64 h3.zx, .int .i64 h3.ti, .int .i32 h3.t.n.ty, .string h3.t.n.path, slV h3.t.d, slV h3.t.a, .int .i64 h3.t.n.ow, .int .i32 h3.t.n.ve, .int .i32 h3.t.n.cr, .bool h3.t.n.qh, .int .i64 h3.t.n.qc, .int .i64 h3.t.n.qb, .int .i64 h3.t.n.si, .int .i32 h3.t.n.st, slV h3.t.i, slV h3.t.p, .int .i32 h3.t.n.co, slV h3.t.s] 35)) := (Below.refl _ w2).alloc (Nat.le_refl _) _
  have HB3 := Lib.hid (HB2.out.trans (hb3.mono HB2.out.size))
  have HB4 := Lib.hid (HB3.out.trans (hb4.mono HB3.out.size))
  have g2 := (hb3.block w.heap.size (Array.getElem?_eq_some_iff.1 g1).1).trans g1
  have g4 := (hb4.block _ (Array.getElem?_eq_some_iff.1 g2).1).trans g2
  have g5 := heap_s0 w2 (.cells #[.int .i64 h3.se, .int .i32 h3.xi, .int .i64 h3.zx, .int .i64 h3.ti, .int .i32 h3.t.n.ty, .string h3.t.n.path, slV h3.t.d, slV h3.t.a, .int .i64 h3.t.n.ow, .int .i32 h3.t.n.ve, .int .i32 h3.t.n.cr, .bool h3.t.n.qh, .int .i64 h3.t.n.qc, .int .i64 h3.t.n.qb, .int .i64 h3.t.n.si, .int .i32 h3.t.n.st, slV h3.t.i, slV h3.t.p, .int .i32 h3.t.n.co, slV h3.t.s] 35)
  have HD3 := Lib.hid (show DlAt (w2.alloc (.cells #[.int .i64 h3.se, .int .i32 h3.xi, .int .i64 h3.zx, .int .i64 h3.ti, .int .i32 h3.t.n.ty, .string h3.t.n.path, slV h3.t.d, slV h3.t.a, .int .i64 h3.t.n.ow, .int .i32 h3.t.n.ve, .int .i32 h3.t.n.cr, .bool h3.t.n.qh, .int .i64 h3.t.n.qc, .int .i64 h3.t.n.qb, .int .i64 h3.t.n.si, .int .i32 h3.t.n.st, slV h3.t.i, slV h3.t.p, .int .i32 h3.t.n.co, slV h3.t.s] 35)) (· < (w2.alloc (.cells #[.int .i64 h3.se, .int .i32 h3.xi, .int .i64 h3.zx, .int .i64 h3.ti, .int .i32 h3.t.n.ty, .string h3.t.n.path, slV h3.t.d, slV h3.t.a, .int .i64 h3.t.n.ow, .int .i32 h3.t.n.ve, .int .i32 h3.t.n.cr, .bool h3.t.n.qh, .int .i64 h3.t.n.qc, .int .i64 h3.t.n.qb, .int .i64 h3.t.n.si, .int .i32 h3.t.n.st, slV h3.t.i, slV h3.t.p, .int .i32 h3.t.n.co, slV h3.t.s] 35)).heap.size) h3 d from ⟨hd3.1, TrAt.fr kTxOk hd3.2 (Fr.of_below (own := []) hb4) fun b hb _ => ⟨by simp, Nat.lt_of_lt_of_le hb hb4.size⟩⟩)
  clear hb3 hb4 g1 g2 hd3 HCL
  go_upto_region 4 with (first | (apply wpList_storeTop 35 35; exact rfl; exact rfl; exact rfl; (first | (with_reducible rfl) | (exact sz1 _ _) | (exact sz2 _ _ _)); exact rfl; exact infDl; exact rfl; (first | exact oneDl _ | simp [Value.oneCell'])) | fail)
  change Code.wp _ _ _ _ (w2.alloc (.cells #[.int .i64 h3.se, .int .i32 h3.xi, .int .i64 h3.zx, .int .i64 h3.ti, .int .i32 h3.t.n.ty, .string h3.t.n.path, slV h3.t.d, slV h3.t.a, .int .i64 h3.t.n.ow, .int .i32 h3.t.n.ve, .int .i32 h3.t.n.cr, .bool h3.t.n.qh, .int .i64 h3.t.n.qc, .int .i64 h3.t.n.qb, .int .i64 h3.t.n.si, .int .i32 h3.t.n.st, slV h3.t.i, slV h3.t.p, .int .i32 h3.t.n.co, slV h3.t.s] 35))
  generalize w2.alloc (.cells #[.int .i64 h3.se, .int .i32 h3.xi, .int .i64 h3.zx, .int .i64 h3.ti, .int .i32 h3.t.n.ty, .string h3.t.n.path, slV h3.t.d, slV h3.t.a, .int .i64 h3.t.n.ow, .int .i32 h3.t.n.ve, .int .i32 h3.t.n.cr, .bool h3.t.n.qh, .int .i64 h3.t.n.qc, .int .i64 h3.t.n.qb, .int .i64 h3.t.n.si, .int .i32 h3.t.n.st, slV h3.t.i, slV h3.t.p, .int .i32 h3.t.n.co, slV h3.t.s] 35) = V at *
  have HDK := Lib.hid (fun (V9 : World) (hV : Below V.heap.size V V9) => (show DlAt V9 (fun _ => True) h3 d from ⟨HD3.out.1, TxAt.tru HD3.out.2 hV⟩))
  have HDK := Lib.hid (fun (V9 : World) (hV : Below V.drew.heap.size V.drew V9) => HDK.out V9 ((drew_self V).trans hV))
  have HST := Lib.hid (And.intro (steps_ok HSM.out) (stepsD_le HSM.out.2.top.2.2.2.2.2.2.1 HSM.out.2.top.2.2.2.2.2.1))
  have HTL := Lib.hid (touch_le HSM.out)
  have HSO := Lib.hid (fun (V9 : World) (hV : Below V.drew.heap.size V.drew V9) => (show (fun V => V.rangeAt (w.heap.size) 0 [.int .i64 h.se, .int .i32 h.xi, .int .i64 h.zx, .int .i64 h.ti, .int .i32 h.t.n.ty, .string h.t.n.path, slV h.t.d, slV h.t.a, .int .i64 h.t.n.ow, .int .i32 h.t.n.ve, .int .i32 h.t.n.cr, .bool h.t.n.qh, .int .i64 h.t.n.qc, .int .i64 h.t.n.qb, .int .i64 h.t.n.si, .int .i32 h.t.n.st, slV h.t.i, slV h.t.p, .int .i32 h.t.n.co, slV h.t.s] ∧ V.rangeAt (w2.heap.size) 0 [.int .i64 h3.se, .int .i32 h3.xi, .int .i64 h3.zx, .int .i64 h3.ti, .int .i32 h3.t.n.ty, .string h3.t.n.path, slV h3.t.d, slV h3.t.a, .int .i64 h3.t.n.ow, .int .i32 h3.t.n.ve, .int .i32 h3.t.n.cr, .bool h3.t.n.qh, .int .i64 h3.t.n.qc, .int .i64 h3.t.n.qb, .int .i64 h3.t.n.si, .int .i32 h3.t.n.st, slV h3.t.i, slV h3.t.p, .int .i32 h3.t.n.co, slV h3.t.s]) V9 from ⟨rangeAt_heapC (pre := []) (mid := [.int .i64 h.se, .int .i32 h.xi, .int .i64 h.zx, .int .i64 h.ti, .int .i32 h.t.n.ty, .string h.t.n.path, slV h.t.d, slV h.t.a, .int .i64 h.t.n.ow, .int .i32 h.t.n.ve, .int .i32 h.t.n.cr, .bool h.t.n.qh, .int .i64 h.t.n.qc, .int .i64 h.t.n.qb, .int .i64 h.t.n.si, .int .i32 h.t.n.st, slV h.t.i, slV h.t.p, .int .i32 h.t.n.co, slV h.t.s]) (post := []) ((hV.block _ (by have h8 := (Array.getElem?_eq_some_iff.1 g4).1; have h9 := (drew_self V).size; omega)).trans (((drew_self V).block _ (Array.getElem?_eq_some_iff.1 g4).1).trans g4)) rfl rfl, rangeAt_heapC (pre := []) (mid := [.int .i64 h3.se, .int .i32 h3.xi, .int .i64 h3.zx, .int .i64 h3.ti, .int .i32 h3.t.n.ty, .string h3.t.n.path, slV h3.t.d, slV h3.t.a, .int .i64 h3.t.n.ow, .int .i32 h3.t.n.ve, .int .i32 h3.t.n.cr, .bool h3.t.n.qh, .int .i64 h3.t.n.qc, .int .i64 h3.t.n.qb, .int .i64 h3.t.n.si, .int .i32 h3.t.n.st, slV h3.t.i, slV h3.t.p, .int .i32 h3.t.n.co, slV h3.t.s]) (post := []) ((hV.block _ (by have h8 := (Array.getElem?_eq_some_iff.1 g5).1; have h9 := (drew_self V).size; omega)).trans (((drew_self V).block _ (Array.getElem?_eq_some_iff.1 g5).1).trans g5)) rfl rfl⟩))
  have HB0 := Lib.hid (HB4.out.trans ((drew_self V).mono HB4.out.size))
  refine wp_region_M (S := fun V => V.rangeAt (w.heap.size) 0 [.int .i64 h.se, .int .i32 h.xi, .int .i64 h.zx, .int .i64 h.ti, .int .i32 h.t.n.ty, .string h.t.n.path, slV h.t.d, slV h.t.a, .int .i64 h.t.n.ow, .int .i32 h.t.n.ve, .int .i32 h.t.n.cr, .bool h.t.n.qh, .int .i64 h.t.n.qc, .int .i64 h.t.n.qb, .int .i64 h.t.n.si, .int .i32 h.t.n.st, slV h.t.i, slV h.t.p, .int .i32 h.t.n.co, slV h.t.s] ∧ V.rangeAt (w2.heap.size) 0 [.int .i64 h3.se, .int .i32 h3.xi, .int .i64 h3.zx, .int .i64 h3.ti, .int .i32 h3.t.n.ty, .string h3.t.n.path, slV h3.t.d, slV h3.t.a, .int .i64 h3.t.n.ow, .int .i32 h3.t.n.ve, .int .i32 h3.t.n.cr, .bool h3.t.n.qh, .int .i64 h3.t.n.qc, .int .i64 h3.t.n.qb, .int .i64 h3.t.n.si, .int .i32 h3.t.n.st, slV h3.t.i, slV h3.t.p, .int .i32 h3.t.n.co, slV h3.t.s]) 20 (by kernel_rfl) (HSO.out _ (Below.refl _ _)) (fun hHeld => ?_)
  clear g4 g5
  generalize V.drew = W0 at *
  refine wpAnyM_take (i := 0) (v := .agg #[.int .i64 h3.se, .int .i32 h3.xi, .int .i64 h3.zx, .int .i64 h3.ti, .int .i32 h3.t.n.ty, .string h3.t.n.path, slV h3.t.d, slV h3.t.a, .int .i64 h3.t.n.ow, .int .i32 h3.t.n.ve, .int .i32 h3.t.n.cr, .bool h3.t.n.qh, .int .i64 h3.t.n.qc, .int .i64 h3.t.n.qb, .int .i64 h3.t.n.si, .int .i32 h3.t.n.st, slV h3.t.i, slV h3.t.p, .int .i32 h3.t.n.co, slV h3.t.s]) rfl (by kernel_rfl) (fun _ _ _ h => h) (yieldsIf_load_mid (by rfl) 35 _ rfl (w2.heap.size) 0 rfl [.int .i64 h3.se, .int .i32 h3.xi, .int .i64 h3.zx, .int .i64 h3.ti, .int .i32 h3.t.n.ty, .string h3.t.n.path, slV h3.t.d, slV h3.t.a, .int .i64 h3.t.n.ow, .int .i32 h3.t.n.ve, .int .i32 h3.t.n.cr, .bool h3.t.n.qh, .int .i64 h3.t.n.qc, .int .i64 h3.t.n.qb, .int .i64 h3.t.n.si, .int .i32 h3.t.n.st, slV h3.t.i, slV h3.t.p, .int .i32 h3.t.n.co, slV h3.t.s] _ (fun _ h => h.2) undDl rfl infDl) (by assumption) ?_
  (try simp only [List.getElem_toArray, List.getElem_cons_succ, List.getElem_cons_zero, Act.put, List.setIfInBounds_toArray, List.set_cons_zero, List.set_cons_succ])
  refine wpAnyM_take (i := 2) (v := .agg #[.int .i64 h.se, .int .i32 h.xi, .int .i64 h.zx, .int .i64 h.ti, .int .i32 h.t.n.ty, .string h.t.n.path, slV h.t.d, slV h.t.a, .int .i64 h.t.n.ow, .int .i32 h.t.n.ve, .int .i32 h.t.n.cr, .bool h.t.n.qh, .int .i64 h.t.n.qc, .int .i64 h.t.n.qb, .int .i64 h.t.n.si, .int .i32 h.t.n.st, slV h.t.i, slV h.t.p, .int .i32 h.t.n.co, slV h.t.s]) rfl (by kernel_rfl) (fun _ _ _ h => h) (yieldsIf_load_mid (by rfl) 35 _ rfl (w.heap.size) 0 rfl [.int .i64 h.se, .int .i32 h.xi, .int .i64 h.zx, .int .i64 h.ti, .int .i32 h.t.n.ty, .string h.t.n.path, slV h.t.d, slV h.t.a, .int .i64 h.t.n.ow, .int .i32 h.t.n.ve, .int .i32 h.t.n.cr, .bool h.t.n.qh, .int .i64 h.t.n.qc, .int .i64 h.t.n.qb, .int .i64 h.t.n.si, .int .i32 h.t.n.st, slV h.t.i, slV h.t.p, .int .i32 h.t.n.co, slV h.t.s] _ (fun _ h => h.1) undDl rfl infDl) (by assumption) ?_
  (try simp only [List.getElem_toArray, List.getElem_cons_succ, List.getElem_cons_zero, Act.put, List.setIfInBounds_toArray, List.set_cons_zero, List.set_cons_succ])
  refine wpAnyM_one (i := 1) rfl (by kernel_rfl) (fun K hK => ?_)
  go_simp
  refine (steps_any h3 d W0 _ (HDK.out _ (Below.refl _ _)) (HE.out.below (Nat.le_refl _) HB0.out) HSM.out).mono ?_
  rintro e W1 ⟨⟨A1, c1, rfl, hq⟩, hb⟩
  dsimp only
  have HB1 := Lib.hid (HB0.out.trans (hb.mono HB0.out.size))
  replace HSO := Lib.hid (fun (V9 : World) (hV : Below W1.heap.size W1 V9) => HSO.out V9 (hb.trans (hV.mono hb.size)))
  replace HDK := Lib.hid (fun (V9 : World) (hV : Below W1.heap.size W1 V9) => HDK.out V9 (hb.trans (hV.mono hb.size)))
  have HT1 := Lib.hid (fun (V9 : World) (hV : Below W1.heap.size W1 V9) => hq.txl.below hV)
  clear hq
  replace hHeld := HSO.out _ (Below.refl _ _)
  refine hK.out _ _ hHeld ?_
  clear hK K hb
  (try simp only [List.getElem_toArray, List.getElem_cons_succ, List.getElem_cons_zero, Act.put, List.setIfInBounds_toArray, List.set_cons_zero, List.set_cons_succ])
  refine wpAnyM_one (i := 3) rfl (by kernel_rfl) (fun K hK => ?_)
  go_simp
  refine (refSteps_any h d W1 _ (HDW.out _ HB1.out) HSM.out).mono ?_
  rintro e W2 ⟨⟨A2, c2, rfl, hq⟩, hb⟩
  dsimp only
  have HB2 := Lib.hid (HB1.out.trans (hb.mono HB1.out.size))
  replace HSO := Lib.hid (fun (V9 : World) (hV : Below W2.heap.size W2 V9) => HSO.out V9 (hb.trans (hV.mono hb.size)))
  replace HDK := Lib.hid (fun (V9 : World) (hV : Below W2.heap.size W2 V9) => HDK.out V9 (hb.trans (hV.mono hb.size)))
  replace HT1 := Lib.hid (fun (V9 : World) (hV : Below W2.heap.size W2 V9) => HT1.out V9 (hb.trans (hV.mono hb.size)))
  have HT2 := Lib.hid hq.txl
  clear hq
  replace hHeld := HSO.out _ (Below.refl _ _)
  refine hK.out _ _ hHeld ?_
  clear hK K hb
  (try simp only [List.getElem_toArray, List.getElem_cons_succ, List.getElem_cons_zero, Act.put, List.setIfInBounds_toArray, List.set_cons_zero, List.set_cons_succ])
  refine wpAnyM_one (i := 4) rfl (by kernel_rfl) (fun K hK => ?_)
  go_simp
  refine (txns_any A1 A2 c1 c2 (stepsD d) W2 (HT1.out _ (Below.refl _ _)) HT2.out HST.out.1 HST.out.2).mono ?_
  rintro e W3 ⟨rfl, hb⟩
  dsimp only
  have HB3 := Lib.hid (HB2.out.trans (hb.mono HB2.out.size))
  replace HSO := Lib.hid (fun (V9 : World) (hV : Below W3.heap.size W3 V9) => HSO.out V9 (hb.trans (hV.mono hb.size)))
  replace HDK := Lib.hid (fun (V9 : World) (hV : Below W3.heap.size W3 V9) => HDK.out V9 (hb.trans (hV.mono hb.size)))
  clear HT1 HT2 HST
  replace hHeld := HSO.out _ (Below.refl _ _)
  refine hK.out _ _ hHeld ?_
  clear hK K hb
  (try simp only [List.getElem_toArray, List.getElem_cons_succ, List.getElem_cons_zero, Act.put, List.setIfInBounds_toArray, List.set_cons_zero, List.set_cons_succ])
  refine wpAnyM_take (i := 5) (v := .bool true) rfl (by kernel_rfl) (fun _ _ _ h => h) (Or.inl ⟨by rfl, by intro w hSw; clear hSw; go_simp⟩) (by assumption) ?_
  (try simp only [List.getElem_toArray, List.getElem_cons_succ, List.getElem_cons_zero, Act.put, List.setIfInBounds_toArray, List.set_cons_zero, List.set_cons_succ])
  refine wpAnyM_take (i := 6) (v := .agg #[.int .i64 h3.se, .int .i32 h3.xi, .int .i64 h3.zx, .int .i64 h3.ti, .int .i32 h3.t.n.ty, .string h3.t.n.path, slV h3.t.d, slV h3.t.a, .int .i64 h3.t.n.ow, .int .i32 h3.t.n.ve, .int .i32 h3.t.n.cr, .bool h3.t.n.qh, .int .i64 h3.t.n.qc, .int .i64 h3.t.n.qb, .int .i64 h3.t.n.si, .int .i32 h3.t.n.st, slV h3.t.i, slV h3.t.p, .int .i32 h3.t.n.co, slV h3.t.s]) rfl (by kernel_rfl) (fun _ _ _ h => h) (yieldsIf_load_mid (by rfl) 35 _ rfl (w2.heap.size) 0 rfl [.int .i64 h3.se, .int .i32 h3.xi, .int .i64 h3.zx, .int .i64 h3.ti, .int .i32 h3.t.n.ty, .string h3.t.n.path, slV h3.t.d, slV h3.t.a, .int .i64 h3.t.n.ow, .int .i32 h3.t.n.ve, .int .i32 h3.t.n.cr, .bool h3.t.n.qh, .int .i64 h3.t.n.qc, .int .i64 h3.t.n.qb, .int .i64 h3.t.n.si, .int .i32 h3.t.n.st, slV h3.t.i, slV h3.t.p, .int .i32 h3.t.n.co, slV h3.t.s] _ (fun _ h => h.2) undDl rfl infDl) (by assumption) ?_
  (try simp only [List.getElem_toArray, List.getElem_cons_succ, List.getElem_cons_zero, Act.put, List.setIfInBounds_toArray, List.set_cons_zero, List.set_cons_succ])
  refine wpAnyM_take (i := 8) (v := .agg #[.int .i64 h.se, .int .i32 h.xi, .int .i64 h.zx, .int .i64 h.ti, .int .i32 h.t.n.ty, .string h.t.n.path, slV h.t.d, slV h.t.a, .int .i64 h.t.n.ow, .int .i32 h.t.n.ve, .int .i32 h.t.n.cr, .bool h.t.n.qh, .int .i64 h.t.n.qc, .int .i64 h.t.n.qb, .int .i64 h.t.n.si, .int .i32 h.t.n.st, slV h.t.i, slV h.t.p, .int .i32 h.t.n.co, slV h.t.s]) rfl (by kernel_rfl) (fun _ _ _ h => h) (yieldsIf_load_mid (by rfl) 35 _ rfl (w.heap.size) 0 rfl [.int .i64 h.se, .int .i32 h.xi, .int .i64 h.zx, .int .i64 h.ti, .int .i32 h.t.n.ty, .string h.t.n.path, slV h.t.d, slV h.t.a, .int .i64 h.t.n.ow, .int .i32 h.t.n.ve, .int .i32 h.t.n.cr, .bool h.t.n.qh, .int .i64 h.t.n.qc, .int .i64 h.t.n.qb, .int .i64 h.t.n.si, .int .i32 h.t.n.st, slV h.t.i, slV h.t.p, .int .i32 h.t.n.co, slV h.t.s] _ (fun _ h => h.1) undDl rfl infDl) (by assumption) ?_
  (try simp only [List.getElem_toArray, List.getElem_cons_succ, List.getElem_cons_zero, Act.put, List.setIfInBounds_toArray, List.set_cons_zero, List.set_cons_succ])
  refine wpAnyM_one (i := 7) rfl (by kernel_rfl) (fun K hK => ?_)
  go_simp
  refine (touched_any h3 d W3 _ (HDK.out _ (Below.refl _ _)) (HE.out.below (Nat.le_refl _) HB3.out) HSM.out).mono ?_
  rintro e W4 ⟨A3, c3, rfl, hq, hb⟩
  dsimp only
  have HB4 := Lib.hid (HB3.out.trans (hb.mono HB3.out.size))
  replace HSO := Lib.hid (fun (V9 : World) (hV : Below W4.heap.size W4 V9) => HSO.out V9 (hb.trans (hV.mono hb.size)))
  replace HDK := Lib.hid (fun (V9 : World) (hV : Below W4.heap.size W4 V9) => HDK.out V9 (hb.trans (hV.mono hb.size)))
  have HT3 := Lib.hid (fun (V9 : World) (hV : Below W4.heap.size W4 V9) => (show Sl V9 V9.heap.size encStr 1 A3 (touchD d).length (touchD d) from Sl.of_own (fun _ => rfl) (own_later hq hV) rfl))
  clear hq
  replace hHeld := HSO.out _ (Below.refl _ _)
  refine hK.out _ _ hHeld ?_
  clear hK K hb
  (try simp only [List.getElem_toArray, List.getElem_cons_succ, List.getElem_cons_zero, Act.put, List.setIfInBounds_toArray, List.set_cons_zero, List.set_cons_succ])
  refine wpAnyM_one (i := 9) rfl (by kernel_rfl) (fun K hK => ?_)
  go_simp
  refine (refTouched_any h d W4 _ (HDW.out _ HB4.out) HSM.out).mono ?_
  rintro e W5 ⟨A4, c4, rfl, hq, hb⟩
  dsimp only
  have HB5 := Lib.hid (HB4.out.trans (hb.mono HB4.out.size))
  replace HSO := Lib.hid (fun (V9 : World) (hV : Below W5.heap.size W5 V9) => HSO.out V9 (hb.trans (hV.mono hb.size)))
  replace HDK := Lib.hid (fun (V9 : World) (hV : Below W5.heap.size W5 V9) => HDK.out V9 (hb.trans (hV.mono hb.size)))
  replace HT3 := Lib.hid (fun (V9 : World) (hV : Below W5.heap.size W5 V9) => HT3.out V9 (hb.trans (hV.mono hb.size)))
  have HT4 := Lib.hid (show Sl W5 W5.heap.size encStr 1 A4 (touchD d).length (touchD d) from Sl.of_own (fun _ => rfl) hq rfl)
  clear hq
  replace hHeld := HSO.out _ (Below.refl _ _)
  refine hK.out _ _ hHeld ?_
  clear hK K hb
  (try simp only [List.getElem_toArray, List.getElem_cons_succ, List.getElem_cons_zero, Act.put, List.setIfInBounds_toArray, List.set_cons_zero, List.set_cons_succ])
  refine wpAnyM_one (i := 10) rfl (by kernel_rfl) (fun K hK => ?_)
  go_simp
  refine (texts_any A3 A4 c3 c4 (touchD d) W5 (HT3.out _ (Below.refl _ _)) HT4.out HTL.out).mono ?_
  rintro e W6 ⟨rfl, hb⟩
  dsimp only
  have HB6 := Lib.hid (HB5.out.trans (hb.mono HB5.out.size))
  replace HSO := Lib.hid (fun (V9 : World) (hV : Below W6.heap.size W6 V9) => HSO.out V9 (hb.trans (hV.mono hb.size)))
  replace HDK := Lib.hid (fun (V9 : World) (hV : Below W6.heap.size W6 V9) => HDK.out V9 (hb.trans (hV.mono hb.size)))
  clear HT3 HT4
  replace hHeld := HSO.out _ (Below.refl _ _)
  refine hK.out _ _ hHeld ?_
  clear hK K hb
  (try simp only [List.getElem_toArray, List.getElem_cons_succ, List.getElem_cons_zero, Act.put, List.setIfInBounds_toArray, List.set_cons_zero, List.set_cons_succ])
  refine wpAnyM_take (i := 11) (v := .bool true) rfl (by kernel_rfl) (fun _ _ _ h => h) (Or.inl ⟨by rfl, by intro w hSw; clear hSw; go_simp⟩) (by assumption) ?_
  (try simp only [List.getElem_toArray, List.getElem_cons_succ, List.getElem_cons_zero, Act.put, List.setIfInBounds_toArray, List.set_cons_zero, List.set_cons_succ])
  refine wpAnyM_take (i := 12) (v := .bool true) rfl (by kernel_rfl) (fun _ _ _ h => h) (Or.inl ⟨by rfl, by intro w hSw; clear hSw; go_simp⟩) (by assumption) ?_
  (try simp only [List.getElem_toArray, List.getElem_cons_succ, List.getElem_cons_zero, Act.put, List.setIfInBounds_toArray, List.set_cons_zero, List.set_cons_succ])
  refine wpAnyM_take (i := 13) (v := .agg #[.int .i64 h3.se, .int .i32 h3.xi, .int .i64 h3.zx, .int .i64 h3.ti, .int .i32 h3.t.n.ty, .string h3.t.n.path, slV h3.t.d, slV h3.t.a, .int .i64 h3.t.n.ow, .int .i32 h3.t.n.ve, .int .i32 h3.t.n.cr, .bool h3.t.n.qh, .int .i64 h3.t.n.qc, .int .i64 h3.t.n.qb, .int .i64 h3.t.n.si, .int .i32 h3.t.n.st, slV h3.t.i, slV h3.t.p, .int .i32 h3.t.n.co, slV h3.t.s]) rfl (by kernel_rfl) (fun _ _ _ h => h) (yieldsIf_load_mid (by rfl) 35 _ rfl (w2.heap.size) 0 rfl [.int .i64 h3.se, .int .i32 h3.xi, .int .i64 h3.zx, .int .i64 h3.ti, .int .i32 h3.t.n.ty, .string h3.t.n.path, slV h3.t.d, slV h3.t.a, .int .i64 h3.t.n.ow, .int .i32 h3.t.n.ve, .int .i32 h3.t.n.cr, .bool h3.t.n.qh, .int .i64 h3.t.n.qc, .int .i64 h3.t.n.qb, .int .i64 h3.t.n.si, .int .i32 h3.t.n.st, slV h3.t.i, slV h3.t.p, .int .i32 h3.t.n.co, slV h3.t.s] _ (fun _ h => h.2) undDl rfl infDl) (by assumption) ?_
  (try simp only [List.getElem_toArray, List.getElem_cons_succ, List.getElem_cons_zero, Act.put, List.setIfInBounds_toArray, List.set_cons_zero, List.set_cons_succ])
  refine wpAnyM_take (i := 14) (v := .agg #[.int .i64 h.se, .int .i32 h.xi, .int .i64 h.zx, .int .i64 h.ti, .int .i32 h.t.n.ty, .string h.t.n.path, slV h.t.d, slV h.t.a, .int .i64 h.t.n.ow, .int .i32 h.t.n.ve, .int .i32 h.t.n.cr, .bool h.t.n.qh, .int .i64 h.t.n.qc, .int .i64 h.t.n.qb, .int .i64 h.t.n.si, .int .i32 h.t.n.st, slV h.t.i, slV h.t.p, .int .i32 h.t.n.co, slV h.t.s]) rfl (by kernel_rfl) (fun _ _ _ h => h) (yieldsIf_load_mid (by rfl) 35 _ rfl (w.heap.size) 0 rfl [.int .i64 h.se, .int .i32 h.xi, .int .i64 h.zx, .int .i64 h.ti, .int .i32 h.t.n.ty, .string h.t.n.path, slV h.t.d, slV h.t.a, .int .i64 h.t.n.ow, .int .i32 h.t.n.ve, .int .i32 h.t.n.cr, .bool h.t.n.qh, .int .i64 h.t.n.qc, .int .i64 h.t.n.qb, .int .i64 h.t.n.si, .int .i32 h.t.n.st, slV h.t.i, slV h.t.p, .int .i32 h.t.n.co, slV h.t.s] _ (fun _ h => h.1) undDl rfl infDl) (by assumption) ?_
  (try simp only [List.getElem_toArray, List.getElem_cons_succ, List.getElem_cons_zero, Act.put, List.setIfInBounds_toArray, List.set_cons_zero, List.set_cons_succ])
  refine wpAnyM_one (i := 15) rfl (by kernel_rfl) (fun K hK => ?_)
  go_simp
  refine (sameDlG d d h3 h W6 _ _ (HDK.out _ (Below.refl _ _)) (HDW.out _ HB6.out) HSM.out HSM.out).mono ?_
  rintro e W7 ⟨rfl, hb⟩
  dsimp only
  have HB7 := Lib.hid (HB6.out.trans (hb.mono HB6.out.size))
  replace HSO := Lib.hid (fun (V9 : World) (hV : Below W7.heap.size W7 V9) => HSO.out V9 (hb.trans (hV.mono hb.size)))
  replace HDK := Lib.hid (fun (V9 : World) (hV : Below W7.heap.size W7 V9) => HDK.out V9 (hb.trans (hV.mono hb.size)))
  rw [show sameD d d = true from sameD_eq rfl]
  replace hHeld := HSO.out _ (Below.refl _ _)
  refine hK.out _ _ hHeld ?_
  clear hK K hb
  (try simp only [List.getElem_toArray, List.getElem_cons_succ, List.getElem_cons_zero, Act.put, List.setIfInBounds_toArray, List.set_cons_zero, List.set_cons_succ])
  refine wpAnyM_take (i := 16) (v := .bool true) rfl (by kernel_rfl) (fun _ _ _ h => h) (Or.inl ⟨by rfl, by intro w hSw; clear hSw; go_simp⟩) (by assumption) ?_
  (try simp only [List.getElem_toArray, List.getElem_cons_succ, List.getElem_cons_zero, Act.put, List.setIfInBounds_toArray, List.set_cons_zero, List.set_cons_succ])
  refine wpAnyM_take (i := 17) (v := .bool true) rfl (by kernel_rfl) (fun _ _ _ h => h) (Or.inl ⟨by rfl, by intro w hSw; clear hSw; go_simp⟩) (by assumption) ?_
  (try simp only [List.getElem_toArray, List.getElem_cons_succ, List.getElem_cons_zero, Act.put, List.setIfInBounds_toArray, List.set_cons_zero, List.set_cons_succ])
  refine wpAnyM_one (i := 18) rfl (by kernel_rfl) (fun K hK => ?_)
  go_simp
  refine (alive13_any W7 (HE.out.below (Nat.le_refl _) HB7.out)).mono ?_
  rintro e W8 ⟨rfl, hb⟩
  dsimp only
  have HB8 := Lib.hid (HB7.out.trans (hb.mono HB7.out.size))
  replace HSO := Lib.hid (fun (V9 : World) (hV : Below W8.heap.size W8 V9) => HSO.out V9 (hb.trans (hV.mono hb.size)))
  replace hHeld := HSO.out _ (Below.refl _ _)
  refine hK.out _ _ hHeld ?_
  clear hK K hb
  (try simp only [List.getElem_toArray, List.getElem_cons_succ, List.getElem_cons_zero, Act.put, List.setIfInBounds_toArray, List.set_cons_zero, List.set_cons_succ])
  refine wpAnyM_take (i := 19) (v := .bool true) rfl (by kernel_rfl) (fun _ _ _ h => h) (Or.inl ⟨by rfl, by intro w hSw; clear hSw; go_simp⟩) (by assumption) ?_
  (try simp only [List.getElem_toArray, List.getElem_cons_succ, List.getElem_cons_zero, Act.put, List.setIfInBounds_toArray, List.set_cons_zero, List.set_cons_succ])
  refine wpAnyM_tail (n := 20) (by kernel_rfl) ?_
  simp only [List.drop_succ_cons, List.drop_zero]
  go_wp2_with fail
  go_ret
  exact RetB.mk HB8.out rfl
end Go.Proofs.YthpjneobmmpbnaaGreatDoor
