/- The walks of the program's put of any transaction that may be, and of its Encode. -/
import Derived.Test.YthpjneobmmpbnaaGreatDoorDQuoG
import Derived.Test.YthpjneobmmpbnaaGreatDoorDRfF
import Derived.Test.YthpjneobmmpbnaaGreatDoorDDltF
import Derived.Test.YthpjneobmmpbnaaGreatDoorDJutG
import Derived.Test.YthpjneobmmpbnaaGreatDoorDDltG
import Derived.Test.YthpjneobmmpbnaaGreatDoorDClkE
import Derived.Maps.Range
import Derived.Maps.RangeRun
import Derived.Laws.IdiomRangeMap
import Derived.Test.YthpjneobmmpbnaaGreatDoorDIter3
import Derived.Test.YthpjneobmmpbnaaGreatDoorDRows2
import Derived.Test.YthpjneobmmpbnaaGreatDoorDTreC
import Derived.Test.YthpjneobmmpbnaaGreatDoorDOpenS
import Derived.Lib.BufferRead
import Derived.Test.YthpjneobmmpbnaaGreatDoorDHeld
namespace Go.Proofs.YthpjneobmmpbnaaGreatDoor
open Go.RowKit Go.MapKept Go.Maps
theorem putLeaf_any (wb base : Nat) (l : Bs) (h : TxH) (v : TxF) (w : World) (H : WrB w wb base l) (hx : locTx w (PutR wb base) h v) (hz : LfSm v) (hl : l.length ≤ 4398046511104) (hk : knownB h.n.ty = true) (h14 : h.n.ty ≠ 14) :
    Calls Tryz.prog 39 #[.pointer (some ⟨wb, 0, none⟩), txV h] w (WrPost (l ++ leafB v) wb base w) := by
  rcases ty_cases h.n.ty with e | e | e | e | e | e | e | e | e | e | e | ⟨h1, h2, h3, h4, h5, h6, h7, h8, h9, h10, h11⟩
  · exact put1_any wb base l h v w H hx hz hl e
  · exact put2_any wb base l h v w H hx hz hl e
  · exact put121_any wb base l h v w H hx hz hl e
  · exact put5_any wb base l h v w H hx hz hl e
  · exact put7_any wb base l h v w H hx hz hl e
  · exact put13_any wb base l h v w H hx hz hl e
  · exact put120_any wb base l h v w H hx hz hl e
  · exact absurd e h14
  · exact putM10_any wb base l h v w H hx hz hl e
  · exact putM11_any wb base l h v w H hx hz hl e
  · exact putM1_any wb base l h v w H hx hz hl e
  · exfalso
    unfold knownB partB at hk
    simp [h1, h2, h3, h4, h5, h6, h7, h8, h9, h10, h11] at hk
theorem part_knownX {ty : Int} (h : partB ty = true) : knownB ty = true ∧ ty ≠ 14 := by
  refine ⟨by unfold knownB; rw [h]; rfl, ?_⟩
  rintro rfl
  exact absurd h (by decide)
theorem leafB_len {v : TxF} (h : LfSm v) (hp : partB v.n.ty = true) : (leafB v).length ≤ 40000000 := by
  have h1 := pathB_len h rfl
  have h2 := bufB_le h
  have h3 := aclsB_len h
  unfold partB at hp
  have hp := of_decide_eq_true hp
  unfold leafB
  split
  · simp only [List.length_append, beB_len]; omega
  split
  · omega
  split
  · simp only [List.length_append, beB_len]; omega
  split
  · simp only [List.length_append, beB_len]; omega
  split
  · simp only [List.length_append, beB_len]; omega
  split
  · simp only [List.length_append, beB_len]; omega
  · exfalso; omega
theorem partBs_len {t : TxT} (h : LfSm t.v) (hp : partB t.v.n.ty = true) : (partBs t).length ≤ 40000004 := by
  have := leafB_len h hp
  unfold partBs; rw [List.length_append, beB_len]; omega
set_option maxRecDepth 100000 in
set_option maxHeartbeats 4000000 in
theorem putP_any (wb base : Nat) (l : Bs) (h : TxH) (t : TxT) (w : World) (H : WrB w wb base l) (hx : locTx w (PutR wb base) h t.v) (hz : LfSm t.v) (hl : l.length ≤ 4398046511000) (hp : partB h.n.ty = true) :
    Calls Tryz.prog 80 #[.pointer (some ⟨wb, 0, none⟩), txV h] w (WrPost (l ++ partBs t) wb base w) := by
  have hb1 : Below w.heap.size w (w.alloc (.cells #[.int .i32 h.n.ty, .string h.n.path, slV h.d, slV h.a, .int .i64 h.n.ow, .int .i32 h.n.ve, .int .i32 h.n.cr, .bool h.n.qh, .int .i64 h.n.qc, .int .i64 h.n.qb, .int .i64 h.n.si, .int .i32 h.n.st, slV h.i, slV h.p, .int .i32 h.n.co, slV h.s] 33)) := (Below.refl _ w).alloc (Nat.le_refl _) _
  have hk1 : Kw wb base w (w.alloc (.cells #[.int .i32 h.n.ty, .string h.n.path, slV h.d, slV h.a, .int .i64 h.n.ow, .int .i32 h.n.ve, .int .i32 h.n.cr, .bool h.n.qh, .int .i64 h.n.qc, .int .i64 h.n.qb, .int .i64 h.n.si, .int .i32 h.n.st, slV h.i, slV h.p, .int .i32 h.n.co, slV h.s] 33)) := Kw.of_below hb1
  have hlt : w.heap.size ≠ wb := by have := H.lt; have := H.size; omega
  have HLT := Lib.hid hlt
  have HW0 := Lib.hid (H.below hb1); have HK0 := Lib.hid hk1; have HX0 := Lib.hid (hx.kw hk1 H.size)
  have HG0 := Lib.hid (heap_alloc_new w (.cells #[.int .i32 h.n.ty, .string h.n.path, slV h.d, slV h.a, .int .i64 h.n.ow, .int .i32 h.n.ve, .int .i32 h.n.cr, .bool h.n.qh, .int .i64 h.n.qc, .int .i64 h.n.qb, .int .i64 h.n.si, .int .i32 h.n.st, slV h.i, slV h.p, .int .i32 h.n.co, slV h.s] 33))
  have HN0 := Lib.hid hl
  have HP2 := Lib.hid (fun (W : World) (l' : Bs) (hw : WrB W wb base l') (hx : locTx W (PutR wb base) h t.v) (hl : l'.length ≤ 4398046511104) => putLeaf_any wb base l' h t.v W hw hx hz hl (part_knownX hp).1 (part_knownX hp).2)
  have HV := Lib.hid (show partBs t = beB (m32 h.n.ty) 4 ++ leafB t.v by unfold partBs; rw [hx.1])
  clear H hx hz hl hb1 hk1 hlt hp
  go_enter Tryz.func80, Tryz.ntmps80
  go_upto_region 1 with fail
  generalize w.alloc (.cells #[.int .i32 h.n.ty, .string h.n.path, slV h.d, slV h.a, .int .i64 h.n.ow, .int .i32 h.n.ve, .int .i32 h.n.cr, .bool h.n.qh, .int .i64 h.n.qc, .int .i64 h.n.qb, .int .i64 h.n.si, .int .i32 h.n.st, slV h.i, slV h.p, .int .i32 h.n.co, slV h.s] 33) = W0 at *
  have x0 : W0.cell? ⟨w.heap.size, 0, none⟩ = some (.int .i32 h.n.ty) := by rw [cellH HG0.out]; rfl
  go_wp2_with fail
  refine (wInt_any wb base l h.n.ty W0 HW0.out (Nat.le_trans HN0.out (by decide))).mono ?_
  rintro e W1 ⟨rfl, hw, hk⟩
  have g1 := hk.heap HG0.out (by decide) HLT.out
  have HK1 := Lib.hid (HK0.out.trans hk)
  have hp2 := HP2.out W1 _ hw (HX0.out.kw hk HW0.out.size) (by rw [List.length_append, beB_len]; have := HN0.out; omega)
  clear hw hk x0 HP2
  go_wp2_with (first | (apply wpList_loadRow 33 33; exact rfl; exact rfl; exact rfl; assumption; exact undTx; exact rfl; exact infTx) | fail)
  refine hp2.mono ?_
  rintro e W2 ⟨rfl, hw, hk⟩
  have HW2 := Lib.hid (show WrB W2 wb base (l ++ partBs t) by rw [HV.out, ← List.append_assoc]; exact hw)
  have HK2 := Lib.hid (HK1.out.trans hk)
  clear hw hk hp2 g1
  go_wp2_with fail
  refine bodyPost_ret (results_none rfl _ _ _) rfl ?_
  exact ⟨rfl, HW2.out, HK2.out⟩
/-- a list of parts, some of it written -/
def LPX (wb base n : Nat) (l : Bs) (zs : List TxT) (w : World) (i : Value) (wr : World) : Prop := ∃ k : Nat, i = .int .i64 ↑k ∧ k ≤ n ∧ WrB wr wb base (l ++ beB n 4 ++ (zs.take k).flatMap partBs) ∧ Kw wb base w wr
set_option maxRecDepth 100000 in
set_option maxHeartbeats 4000000 in
theorem listX_any (wb base : Nat) (l : Bs) (sl : SlC) (Hs : List TxH) (zs : List TxT) (w : World) (h : WrB w wb base l) (hs : SlR w (PutR wb base) encTx 16 sl Hs) (hz : ∀ j, j < sl.2.1 → locTx w (PutR wb base) Hs[j]! zs[j]!.v ∧ LfSm zs[j]!.v ∧ partB Hs[j]!.n.ty = true) (hlen : zs.length = sl.2.1) (hl : l.length ≤ 1073741824) (hn : sl.2.1 ≤ 1024) :
    Calls Tryz.prog 79 #[.pointer (some ⟨wb, 0, none⟩), .slice sl.1 sl.2.1 sl.2.2, .func (.func 80) #[] #[]] w (WrPost (l ++ (beB sl.2.1 4 ++ zs.flatMap partBs)) wb base w) := by
  obtain ⟨A, n, c⟩ := sl
  dsimp only at hs hz hlen hn ⊢
  have HS := Lib.hid hs; have HZ := Lib.hid hz
  have HL := Lib.hid hlen
  have HBS := Lib.hid h.size
  have HC := Lib.hid (wCount_any wb base l n w h (by omega) (by omega))
  have HF := Lib.hid (flat_small partBs zs 40000004 (fun j hj => by
    have h1 := hz j (by rw [hlen] at hj; exact hj)
    exact partBs_len h1.2.1 (by rw [h1.1.1]; exact h1.2.2)))
  have hq : ∀ w : World, (binOp .eql 72 (.func (.func 80) #[] #[]) .nilFunc).run Tryz.prog w = .ok (.bool false) w := fun w => by kernel_rfl
  clear h hs hz hlen
  go_enter Tryz.func79, Tryz.ntmps79
  go_wp2_with fail
  refine HC.out.mono ?_
  rintro e w1 ⟨rfl, hw, hk⟩
  have HW1 := Lib.hid hw; have HK1 := Lib.hid hk
  clear hw hk
  go_wp2_with fail
  go_loopw [7, 16] (fun _ i wr => LPX wb base n l zs w i wr) (fun _ i _ => n - (RowKit.intOf i).toNat)
  case atStart => exact ⟨0, rfl, Nat.zero_le _, by rw [List.take_zero, List.flatMap_nil, List.append_nil]; exact HW1.out, HK1.out⟩
  case round =>
    obtain ⟨k, rfl, hk, hw, hkw⟩ := hrel
    have HW := Lib.hid hw; have HK := Lib.hid hkw
    by_cases hkn : k < n
    · have hkn2 : (k : Int) < (n : Int) := by omega
      obtain ⟨b, off, hA, hb, hc⟩ := HS.out.2.2 (Nat.lt_of_le_of_lt (Nat.zero_le _) hkn)
      have hA : A = some ⟨b, off, none⟩ := hA
      subst hA
      have y6 : wr.rangeAt b (off + k * 16) (encTx Hs[k]!) := fun i u hu => by
        have h1 := hc k hkn i u hu
        exact (hkw.cellR HBS.out ⟨b, off + k * 16 + i, none⟩ hb).trans h1
      have HSJ := Lib.hid (HZ.out k hkn)
      have HST := Lib.hid (flat_step partBs zs (k := k) (by rw [HL.out]; exact hkn))
      have hfl := HF.out k (by rw [HL.out]; exact hk)
      have HLN := Lib.hid (show (l ++ beB n 4 ++ (zs.take k).flatMap partBs).length ≤ 4398046511000 by
        rw [List.length_append, List.length_append, beB_len]
        have : k * 40000004 ≤ 1024 * 40000004 := Nat.mul_le_mul_right _ (by omega)
        omega)
      have HX := Lib.hid (HSJ.out.1.kw hkw HBS.out)
      generalize Hs[k]! = hj at *
      generalize zs[k]! = z at *
      have hb1 : Below wr.heap.size wr (wr.alloc (.cells #[.int .i32 hj.n.ty, .string hj.n.path, slV hj.d, slV hj.a, .int .i64 hj.n.ow, .int .i32 hj.n.ve, .int .i32 hj.n.cr, .bool hj.n.qh, .int .i64 hj.n.qc, .int .i64 hj.n.qb, .int .i64 hj.n.si, .int .i32 hj.n.st, slV hj.i, slV hj.p, .int .i32 hj.n.co, slV hj.s] 33)) := (Below.refl _ wr).alloc (Nat.le_refl _) _
      have HW2 := Lib.hid (HW.out.below hb1)
      have hk2 : Kw wb base wr (wr.alloc (.cells #[.int .i32 hj.n.ty, .string hj.n.path, slV hj.d, slV hj.a, .int .i64 hj.n.ow, .int .i32 hj.n.ve, .int .i32 hj.n.cr, .bool hj.n.qh, .int .i64 hj.n.qc, .int .i64 hj.n.qb, .int .i64 hj.n.si, .int .i32 hj.n.st, slV hj.i, slV hj.p, .int .i32 hj.n.co, slV hj.s] 33)) := Kw.of_below hb1
      have HX2 := Lib.hid (HX.out.kw hk2 HW.out.size)
      have HK2 := Lib.hid (HK.out.trans hk2)
      have g7 := heap_s0 wr (.cells #[.int .i32 hj.n.ty, .string hj.n.path, slV hj.d, slV hj.a, .int .i64 hj.n.ow, .int .i32 hj.n.ve, .int .i32 hj.n.cr, .bool hj.n.qh, .int .i64 hj.n.qc, .int .i64 hj.n.qb, .int .i64 hj.n.si, .int .i32 hj.n.st, slV hj.i, slV hj.p, .int .i32 hj.n.co, slV hj.s] 33)
      clear hw hkw hb1 hc hb hfl hk2
      go_upto_region 5 with (first | (apply wpList_loadMid 33; exact rfl; exact rfl; exact rfl; exact (by assumption); exact undTx; exact rfl; exact infTx) | (apply wpList_storeTop 33 33; exact rfl; exact rfl; exact rfl; (first | (with_reducible rfl) | (exact sz1 _ _) | (exact sz2 _ _ _)); exact rfl; exact infTx; exact rfl; (first | exact oneTx _ | simp [Value.oneCell'])) | fail)
      change Code.wp _ _ _ _ (wr.alloc (.cells #[.int .i32 hj.n.ty, .string hj.n.path, slV hj.d, slV hj.a, .int .i64 hj.n.ow, .int .i32 hj.n.ve, .int .i32 hj.n.cr, .bool hj.n.qh, .int .i64 hj.n.qc, .int .i64 hj.n.qb, .int .i64 hj.n.si, .int .i32 hj.n.st, slV hj.i, slV hj.p, .int .i32 hj.n.co, slV hj.s] 33))
      generalize wr.alloc (.cells #[.int .i32 hj.n.ty, .string hj.n.path, slV hj.d, slV hj.a, .int .i64 hj.n.ow, .int .i32 hj.n.ve, .int .i32 hj.n.cr, .bool hj.n.qh, .int .i64 hj.n.qc, .int .i64 hj.n.qb, .int .i64 hj.n.si, .int .i32 hj.n.st, slV hj.i, slV hj.p, .int .i32 hj.n.co, slV hj.s] 33) = W at *
      clear y6
      go_wp2_with (first | (apply wpList_loadRow 33 33; exact rfl; exact rfl; exact rfl; assumption; exact undTx; exact rfl; exact infTx) | fail)
      refine (putP_any wb base _ hj z W HW2.out HX2.out HSJ.out.2.1 HLN.out HSJ.out.2.2).mono ?_
      rintro e w3 ⟨rfl, hw, hkw⟩
      have HW3 := Lib.hid (show WrB w3 wb base (l ++ beB n 4 ++ (zs.take (k + 1)).flatMap partBs) by rw [HST.out, ← List.append_assoc]; exact hw)
      have HK3 := Lib.hid (HK2.out.trans hkw)
      clear hw hkw g7
      go_wp2_with fail
      go_roundw
      case rel => exact ⟨k + 1, by go_num, by omega, HW3.out, HK3.out⟩
      case measure => simp [RowKit.intOf]; omega
    · have hkn2 : ¬ (k : Int) < (n : Int) := by omega
      have hkk : k = n := by omega
      subst hkk
      have HW3 := Lib.hid (show WrB wr wb base (l ++ (beB k 4 ++ zs.flatMap partBs)) by
        have h9 := HW.out
        rw [List.take_of_length_le (by rw [HL.out]; exact Nat.le_refl _), List.append_assoc] at h9
        exact h9)
      clear hw hkw
      go_wp2_with fail
      refine bodyPost_ret (results_none rfl _ _ _) rfl ?_
      exact ⟨rfl, HW3.out, HK.out⟩
/-- what of a transaction is wanted to write it -/
structure PutOk (t : TxT) : Prop where
  k : knownB t.v.n.ty = true
  z : LfSm t.v
  n : t.subs.length ≤ 1024
  s : ∀ j, j < t.subs.length → LfSm t.subs[j]!.v ∧ partB t.subs[j]!.v.n.ty = true
set_option maxRecDepth 100000 in
set_option maxHeartbeats 4000000 in
theorem put14_any (wb base : Nat) (l : Bs) (h : TxH) (t : TxT) (w : World) (H : WrB w wb base l) (hx : TxAt w (PutR wb base) h t) (hz : PutOk t) (hl : l.length ≤ 1073741824) (hty : h.n.ty = 14) :
    Calls Tryz.prog 39 #[.pointer (some ⟨wb, 0, none⟩), txV h] w (WrPost (l ++ bodyB t) wb base w) := by
  have hb1 : Below w.heap.size w (w.alloc (.cells #[.int .i32 h.n.ty, .string h.n.path, slV h.d, slV h.a, .int .i64 h.n.ow, .int .i32 h.n.ve, .int .i32 h.n.cr, .bool h.n.qh, .int .i64 h.n.qc, .int .i64 h.n.qb, .int .i64 h.n.si, .int .i32 h.n.st, slV h.i, slV h.p, .int .i32 h.n.co, slV h.s] 33)) := (Below.refl _ w).alloc (Nat.le_refl _) _
  have hk1 : Kw wb base w (w.alloc (.cells #[.int .i32 h.n.ty, .string h.n.path, slV h.d, slV h.a, .int .i64 h.n.ow, .int .i32 h.n.ve, .int .i32 h.n.cr, .bool h.n.qh, .int .i64 h.n.qc, .int .i64 h.n.qb, .int .i64 h.n.si, .int .i32 h.n.st, slV h.i, slV h.p, .int .i32 h.n.co, slV h.s] 33)) := Kw.of_below hb1
  have HV := Lib.hid (show bodyB t = beB h.s.2.1 4 ++ t.subs.flatMap partBs by
    have e := hx.loc.1
    unfold bodyB
    rw [e, if_pos hty, hx.len])
  have hx1 := hx.kw hk1 H.size
  obtain ⟨Hs, hsl, hss⟩ := hx1.subs_at
  have hlen := hx.len
  have hp := listX_any wb base l h.s Hs t.subs (w.alloc (.cells #[.int .i32 h.n.ty, .string h.n.path, slV h.d, slV h.a, .int .i64 h.n.ow, .int .i32 h.n.ve, .int .i32 h.n.cr, .bool h.n.qh, .int .i64 h.n.qc, .int .i64 h.n.qb, .int .i64 h.n.si, .int .i32 h.n.st, slV h.i, slV h.p, .int .i32 h.n.co, slV h.s] 33)) (H.below hb1) hsl (fun j hj => ⟨(hss j hj).loc, (hz.s j (by rw [hlen]; exact hj)).1, by
    rw [← (hss j hj).loc.1]; exact (hz.s j (by rw [hlen]; exact hj)).2⟩) hlen hl (by have := hz.n; rw [hlen] at this; exact this)
  rw [← HV.out] at hp
  have HP := Lib.hid hp
  have HK0 := Lib.hid hk1
  have HG0 := Lib.hid (heap_alloc_new w (.cells #[.int .i32 h.n.ty, .string h.n.path, slV h.d, slV h.a, .int .i64 h.n.ow, .int .i32 h.n.ve, .int .i32 h.n.cr, .bool h.n.qh, .int .i64 h.n.qc, .int .i64 h.n.qb, .int .i64 h.n.si, .int .i32 h.n.st, slV h.i, slV h.p, .int .i32 h.n.co, slV h.s] 33))
  have t1 : (h.n.ty == 1) = false := by rw [hty]; rfl
  have t2 : (h.n.ty == 2) = false := by rw [hty]; rfl
  have t121 : (h.n.ty == 121) = false := by rw [hty]; rfl
  have t5 : (h.n.ty == 5) = false := by rw [hty]; rfl
  have t7 : (h.n.ty == 7) = false := by rw [hty]; rfl
  have t13 : (h.n.ty == 13) = false := by rw [hty]; rfl
  have t120 : (h.n.ty == 120) = false := by rw [hty]; rfl
  have t14 : (h.n.ty == 14) = true := by rw [hty]; rfl
  have tm10 : (h.n.ty == -10) = false := by rw [hty]; rfl
  have tm11 : (h.n.ty == -11) = false := by rw [hty]; rfl
  have tm1 : (h.n.ty == -1) = false := by rw [hty]; rfl
  clear H hx hz hl hb1 hk1 hty hx1 hsl hss hlen hp
  go_enter Tryz.func39, Tryz.ntmps39
  go_upto_region 1 with fail
  generalize w.alloc (.cells #[.int .i32 h.n.ty, .string h.n.path, slV h.d, slV h.a, .int .i64 h.n.ow, .int .i32 h.n.ve, .int .i32 h.n.cr, .bool h.n.qh, .int .i64 h.n.qc, .int .i64 h.n.qb, .int .i64 h.n.si, .int .i32 h.n.st, slV h.i, slV h.p, .int .i32 h.n.co, slV h.s] 33) = W0 at *
  have x0 : W0.cell? ⟨w.heap.size, 0, none⟩ = some (.int .i32 h.n.ty) := by rw [cellH HG0.out]; rfl
  have y0 : W0.cell? ⟨w.heap.size, 15, none⟩ = some (.slice h.s.1 h.s.2.1 h.s.2.2) := by rw [cellH HG0.out]; rfl
  go_wp2_with fail
  refine HP.out.mono ?_
  rintro e W1 ⟨rfl, hw, hk⟩
  have HW1 := Lib.hid hw; have HK1 := Lib.hid (HK0.out.trans hk)
  clear hw hk x0 y0
  go_wp2_with fail
  refine bodyPost_ret (results_none rfl _ _ _) rfl ?_
  exact ⟨rfl, HW1.out, HK1.out⟩
theorem put_any (wb base : Nat) (l : Bs) (h : TxH) (t : TxT) (w : World) (H : WrB w wb base l) (hx : TxAt w (PutR wb base) h t) (hz : PutOk t) (hl : l.length ≤ 1073741824) :
    Calls Tryz.prog 39 #[.pointer (some ⟨wb, 0, none⟩), txV h] w (WrPost (l ++ bodyB t) wb base w) := by
  by_cases h14 : h.n.ty = 14
  · exact put14_any wb base l h t w H hx hz hl h14
  · have e := hx.loc.1
    have : bodyB t = leafB t.v := by unfold bodyB; rw [e, if_neg h14]
    rw [this]
    exact putLeaf_any wb base l h t.v w H hx.loc hz.z (Nat.le_trans hl (by decide)) (by rw [← e]; exact hz.k) h14
theorem subs_own {z : Int} : ∀ {l : List TxT}, subsE z l = 0 → ∀ t ∈ l, partB t.v.n.ty = true ∧ ownE z t.v t.subs.length = 0
  | [], _, t, ht => by cases ht
  | x :: l, h, t, ht => by
    unfold subsE at h
    split at h
    · cases h
    rename_i hp
    split at h
    · rename_i h2; exact absurd h h2
    rename_i h2
    rcases List.mem_cons.1 ht with rfl | ht
    · exact ⟨by simpa using hp, by omega⟩
    · exact subs_own h t ht
theorem own_great {z : Int} {v : TxF} {k : Nat} (h : ownE z v k = 0) : greatB v k = false := by
  unfold ownE at h
  split at h
  · cases h
  split at h
  · cases h
  · rename_i h2; simpa using h2
theorem right_put {d : DlT} (h : rightE d = 0) (hs : DlSm 1048576 d) : PutOk d.t := by
  unfold rightE at h
  split at h
  · cases h
  rename_i h1
  split at h
  · cases h
  split at h
  · rename_i h2; exact absurd h h2
  rename_i h2
  have h2 : ownE d.zx d.t.v d.t.subs.length = 0 := by omega
  have hg := own_great h2
  refine ⟨by simpa using h1, LfSm.of hs.2.top hg, ?_, fun j hj => ?_⟩
  · unfold greatB at hg
    simp only [Bool.or_eq_false_iff, decide_eq_false_iff_not] at hg
    omega
  · have hm : d.t.subs[j]! ∈ d.t.subs := by rw [getElem!_pos d.t.subs j hj]; exact List.getElem_mem hj
    obtain ⟨h3, h4⟩ := subs_own h _ hm
    exact ⟨LfSm.of (hs.2.subAt hj).top (own_great h4), h3⟩
theorem WrB.start {w w' : World} (hb : Below (w.alloc (.cells #[.slice none 0 0] 69)).heap.size (w.alloc (.cells #[.slice none 0 0] 69)) w') : WrB w' w.heap.size w'.heap.size [] := by
  have hs : (w.alloc (.cells #[.slice none 0 0] 69)).heap.size = w.heap.size + 1 := by simp
  have h1 := hb.size
  exact ⟨by omega, Nat.le_refl _, none, 0, (hb.block w.heap.size (by omega)).trans (heap_alloc_new w _), World.ownsRow_nil _ _ _ _⟩
/-- what Encode answers -/
def EncP (w : World) (d : DlT) (e : Ending) (w' : World) : Prop := Below w.heap.size w w' ∧
  ((rightE d ≠ 0 ∧ e = .returned (.tuple #[.slice none 0 0, .int .i64 (rightE d)])) ∨ (rightE d = 0 ∧ ∃ A c, e = .returned (.tuple #[.slice A (encB d).length c, .int .i64 0]) ∧ Row8 w' w.heap.size A (encB d).length c (encB d)))
theorem bodyB_len {d : DlT} (h : PutOk d.t) : (bodyB d.t).length ≤ 4398046511104 := by
  unfold bodyB
  split
  · have h1 := flatLen partBs 40000004 d.t.subs fun x hx => by
      obtain ⟨j, hj, rfl⟩ := List.getElem_of_mem hx
      have := h.s j hj; rw [getElem!_pos d.t.subs j hj] at this
      exact partBs_len this.1 this.2
    have h2 := Nat.mul_le_mul_right 40000004 h.n
    rw [List.length_append, beB_len]; omega
  · have h1 := pathB_len h.z rfl
    have h2 := bufB_le h.z
    have h3 := aclsB_len h.z
    have h4 := idsB_len h.z
    have h5 := txtsB_len h.z
    unfold leafB
    split
    · simp only [List.length_append, beB_len]; omega
    split
    · omega
    split
    · simp only [List.length_append, beB_len]; omega
    split
    · simp only [List.length_append, beB_len]; omega
    split
    · simp only [List.length_append, beB_len]; omega
    split
    · simp only [List.length_append, beB_len]; omega
    split
    · simp only [List.length_append, beB_len]; omega
    split
    · omega
    split
    · simp only [beB_len]; omega
    · simp
set_option linter.unusedSimpArgs false in
set_option maxRecDepth 100000 in
set_option maxHeartbeats 8000000 in
theorem encode_any (h : DlH) (d : DlT) (w : World) (R : Nat → Prop) (hd : DlAt w R h d) (hE : Env w) (hsm : DlSm 1048576 d) : Calls Tryz.prog 15 #[dlV h] w (EncP w d) := by
  have hb0 : Below w.heap.size w (w.alloc (.cells #[.int .i64 h.se, .int .i32 h.xi, .int .i64 h.zx, .int .i64 h.ti, .int .i32 h.t.n.ty, .string h.t.n.path, slV h.t.d, slV h.t.a, .int .i64 h.t.n.ow, .int .i32 h.t.n.ve, .int .i32 h.t.n.cr, .bool h.t.n.qh, .int .i64 h.t.n.qc, .int .i64 h.t.n.qb, .int .i64 h.t.n.si, .int .i32 h.t.n.st, slV h.t.i, slV h.t.p, .int .i32 h.t.n.co, slV h.t.s] 35)) := (Below.refl _ w).alloc (Nat.le_refl _) _
  have HG0 := Lib.hid (heap_s0 w (.cells #[.int .i64 h.se, .int .i32 h.xi, .int .i64 h.zx, .int .i64 h.ti, .int .i32 h.t.n.ty, .string h.t.n.path, slV h.t.d, slV h.t.a, .int .i64 h.t.n.ow, .int .i32 h.t.n.ve, .int .i32 h.t.n.cr, .bool h.t.n.qh, .int .i64 h.t.n.qc, .int .i64 h.t.n.qb, .int .i64 h.t.n.si, .int .i32 h.t.n.st, slV h.t.i, slV h.t.p, .int .i32 h.t.n.co, slV h.t.s] 35))
  have HZ0 := Lib.hid (sz1 w (.cells #[.int .i64 h.se, .int .i32 h.xi, .int .i64 h.zx, .int .i64 h.ti, .int .i32 h.t.n.ty, .string h.t.n.path, slV h.t.d, slV h.t.a, .int .i64 h.t.n.ow, .int .i32 h.t.n.ve, .int .i32 h.t.n.cr, .bool h.t.n.qh, .int .i64 h.t.n.qc, .int .i64 h.t.n.qb, .int .i64 h.t.n.si, .int .i32 h.t.n.st, slV h.t.i, slV h.t.p, .int .i32 h.t.n.co, slV h.t.s] 35))
  have HB0 := Lib.hid hb0
  have hd1 : DlAt w (· < w.heap.size) h d := ⟨hd.1, hd.2.more fun b hb _ => hb⟩
  have HRI := Lib.hid (right13_any h d (w.alloc (.cells #[.int .i64 h.se, .int .i32 h.xi, .int .i64 h.zx, .int .i64 h.ti, .int .i32 h.t.n.ty, .string h.t.n.path, slV h.t.d, slV h.t.a, .int .i64 h.t.n.ow, .int .i32 h.t.n.ve, .int .i32 h.t.n.cr, .bool h.t.n.qh, .int .i64 h.t.n.qc, .int .i64 h.t.n.qb, .int .i64 h.t.n.si, .int .i32 h.t.n.st, slV h.t.i, slV h.t.p, .int .i32 h.t.n.co, slV h.t.s] 35)) (· < w.heap.size) ⟨hd1.1, TxAt.keep hd1.2 fun p hp => hb0.cell hp⟩ (hE.below (Nat.le_refl _) hb0) hsm)
  have HDA := Lib.hid hd1.2
  obtain ⟨e0, e1, e2, e3⟩ := hd.1
  have HV := Lib.hid (show encB d = beB (m64 h.se) 8 ++ beB (m32 h.xi) 4 ++ beB (m64 h.zx) 8 ++ beB (m64 h.ti) 8 ++ beB (m32 h.t.n.ty) 4 ++ bodyB d.t by
    unfold encB headB; rw [e0, e1, e2, e3, hd.2.loc.1])
  have HPO := Lib.hid (fun (hr : rightE d = 0) => right_put hr hsm)
  have hbu : ∀ w : World, True := fun _ => trivial
  clear hb0 hd1 e0 e1 e2 e3 hd hE hsm hbu
  go_enter Tryz.func15, Tryz.ntmps15
  go_upto_region 1 with fail
  generalize w.alloc (.cells #[.int .i64 h.se, .int .i32 h.xi, .int .i64 h.zx, .int .i64 h.ti, .int .i32 h.t.n.ty, .string h.t.n.path, slV h.t.d, slV h.t.a, .int .i64 h.t.n.ow, .int .i32 h.t.n.ve, .int .i32 h.t.n.cr, .bool h.t.n.qh, .int .i64 h.t.n.qc, .int .i64 h.t.n.qb, .int .i64 h.t.n.si, .int .i32 h.t.n.st, slV h.t.i, slV h.t.p, .int .i32 h.t.n.co, slV h.t.s] 35) = W at *
  have g0 := HG0.out
  go_wp2_with (first | (apply wpList_loadRow 35 35; exact rfl; exact rfl; exact rfl; assumption; exact undDl; exact rfl; exact infDl) | fail)
  refine HRI.out.mono ?_
  rintro e w1 ⟨rfl, hb1⟩
  have HB1 := Lib.hid (HB0.out.trans (hb1.mono HB0.out.size))
  have HG1 := Lib.hid ((hb1.block w.heap.size (by have := HZ0.out; omega)).trans g0)
  have HZ1 := Lib.hid (show w.heap.size + 1 ≤ w1.heap.size by have := HZ0.out; have := hb1.size; omega)
  clear hb1 g0 HRI HG0
  by_cases hr0 : rightE d = 0
  case neg =>
    have HEND := Lib.hid (show EncP w d (.returned (.tuple #[.slice none 0 0, .int .i64 (rightE d)])) w1 from ⟨HB1.out, .inl ⟨hr0, rfl⟩⟩)
    generalize rightE d = x at *
    have d1 : (x != 0) = true := bne_iff_ne.2 hr0
    clear hr0 HPO
    go_wp2_with fail
    go_ret2
    exact HEND.out
  have HPU := Lib.hid (HPO.out hr0)
  have HR0 := Lib.hid hr0
  rw [hr0]
  clear HPO hr0
  have hb2 : Below w1.heap.size w1 (w1.alloc (.cells #[.slice none 0 0] 69)) := (Below.refl _ w1).alloc (Nat.le_refl _) _
  have HW0 := Lib.hid (WrB.start (w := w1) (Below.refl _ _))
  have HB2 := Lib.hid (HB1.out.trans (hb2.mono HB1.out.size))
  have HG2 := Lib.hid ((hb2.block w.heap.size (by have := HZ1.out; omega)).trans HG1.out)
  have HNE := Lib.hid (show w.heap.size ≠ w1.heap.size by have := HZ1.out; omega)
  have HBA := Lib.hid (show w.heap.size ≤ w1.heap.size ∧ w.heap.size ≤ (w1.alloc (.cells #[.slice none 0 0] 69)).heap.size from ⟨by have := HZ1.out; omega, HB2.out.size⟩)
  have HX0 := Lib.hid (show TxAt (w1.alloc (.cells #[.slice none 0 0] 69)) (PutR w1.heap.size (w1.alloc (.cells #[.slice none 0 0] 69)).heap.size) h.t d.t from
    TxAt.more (TxAt.keep HDA.out fun p hp => HB2.out.cell hp) fun b _ hb => ⟨Nat.lt_of_lt_of_le hb HB2.out.size, by have := HZ1.out; omega⟩)
  clear hb2 HG1
  go_upto_region 5 with fail
  generalize w1.alloc (.cells #[.slice none 0 0] 69) = V0 at *
  generalize V0.heap.size = base at *
  generalize w1.heap.size = wb at *
  have HK0 := Lib.hid (show Kw wb base V0 V0 from Kw.refl)
  have HN0 := Lib.hid (show ([] : Bs).length ≤ 0 from Nat.le_refl _)
  have HGV0 := HG2
  clear HG2
  have y0 : V0.cell? ⟨w.heap.size, 0, none⟩ = some (.int .i64 h.se) := by rw [cellH HGV0.out]; rfl
  go_wp2_with fail
  refine (wLong_any wb base [] h.se V0 HW0.out (Nat.le_trans HN0.out (by decide))).mono ?_
  rintro e V1 ⟨rfl, hw, hk⟩
  obtain ⟨L1, hL⟩ : ∃ L1, L1 = [] ++ beB (m64 h.se) 8 := ⟨_, rfl⟩
  have HLE1 := Lib.hid hL
  have HN1 := Lib.hid (show L1.length ≤ 8 by rw [hL, List.length_append, beB_len]; have := HN0.out; omega)
  have HW1 := Lib.hid (show WrB V1 wb base L1 by rw [hL]; exact hw)
  have HK1 := Lib.hid (HK0.out.trans hk)
  have HX1 := Lib.hid (HX0.out.kw hk HW0.out.size)
  have HGV1 := Lib.hid (hk.heap HGV0.out (by decide) HNE.out)
  clear hw hk hL y0
  have y1 : V1.cell? ⟨w.heap.size, 1, none⟩ = some (.int .i32 h.xi) := by rw [cellH HGV1.out]; rfl
  go_wp2_with fail
  refine (wInt_any wb base L1 h.xi V1 HW1.out (Nat.le_trans HN1.out (by decide))).mono ?_
  rintro e V2 ⟨rfl, hw, hk⟩
  obtain ⟨L2, hL⟩ : ∃ L2, L2 = L1 ++ beB (m32 h.xi) 4 := ⟨_, rfl⟩
  have HLE2 := Lib.hid hL
  have HN2 := Lib.hid (show L2.length ≤ 12 by rw [hL, List.length_append, beB_len]; have := HN1.out; omega)
  have HW2 := Lib.hid (show WrB V2 wb base L2 by rw [hL]; exact hw)
  have HK2 := Lib.hid (HK1.out.trans hk)
  have HX2 := Lib.hid (HX1.out.kw hk HW1.out.size)
  have HGV2 := Lib.hid (hk.heap HGV1.out (by decide) HNE.out)
  clear hw hk hL y1
  have y2 : V2.cell? ⟨w.heap.size, 2, none⟩ = some (.int .i64 h.zx) := by rw [cellH HGV2.out]; rfl
  go_wp2_with fail
  refine (wLong_any wb base L2 h.zx V2 HW2.out (Nat.le_trans HN2.out (by decide))).mono ?_
  rintro e V3 ⟨rfl, hw, hk⟩
  obtain ⟨L3, hL⟩ : ∃ L3, L3 = L2 ++ beB (m64 h.zx) 8 := ⟨_, rfl⟩
  have HLE3 := Lib.hid hL
  have HN3 := Lib.hid (show L3.length ≤ 20 by rw [hL, List.length_append, beB_len]; have := HN2.out; omega)
  have HW3 := Lib.hid (show WrB V3 wb base L3 by rw [hL]; exact hw)
  have HK3 := Lib.hid (HK2.out.trans hk)
  have HX3 := Lib.hid (HX2.out.kw hk HW2.out.size)
  have HGV3 := Lib.hid (hk.heap HGV2.out (by decide) HNE.out)
  clear hw hk hL y2
  have y3 : V3.cell? ⟨w.heap.size, 3, none⟩ = some (.int .i64 h.ti) := by rw [cellH HGV3.out]; rfl
  go_wp2_with fail
  refine (wLong_any wb base L3 h.ti V3 HW3.out (Nat.le_trans HN3.out (by decide))).mono ?_
  rintro e V4 ⟨rfl, hw, hk⟩
  obtain ⟨L4, hL⟩ : ∃ L4, L4 = L3 ++ beB (m64 h.ti) 8 := ⟨_, rfl⟩
  have HLE4 := Lib.hid hL
  have HN4 := Lib.hid (show L4.length ≤ 28 by rw [hL, List.length_append, beB_len]; have := HN3.out; omega)
  have HW4 := Lib.hid (show WrB V4 wb base L4 by rw [hL]; exact hw)
  have HK4 := Lib.hid (HK3.out.trans hk)
  have HX4 := Lib.hid (HX3.out.kw hk HW3.out.size)
  have HGV4 := Lib.hid (hk.heap HGV3.out (by decide) HNE.out)
  clear hw hk hL y3
  have y4 : V4.cell? ⟨w.heap.size, 4, none⟩ = some (.int .i32 h.t.n.ty) := by rw [cellH HGV4.out]; rfl
  go_wp2_with fail
  refine (wInt_any wb base L4 h.t.n.ty V4 HW4.out (Nat.le_trans HN4.out (by decide))).mono ?_
  rintro e V5 ⟨rfl, hw, hk⟩
  obtain ⟨L5, hL⟩ : ∃ L5, L5 = L4 ++ beB (m32 h.t.n.ty) 4 := ⟨_, rfl⟩
  have HLE5 := Lib.hid hL
  have HN5 := Lib.hid (show L5.length ≤ 32 by rw [hL, List.length_append, beB_len]; have := HN4.out; omega)
  have HW5 := Lib.hid (show WrB V5 wb base L5 by rw [hL]; exact hw)
  have HK5 := Lib.hid (HK4.out.trans hk)
  have HX5 := Lib.hid (HX4.out.kw hk HW4.out.size)
  have HGV5 := Lib.hid (hk.heap HGV4.out (by decide) HNE.out)
  clear hw hk hL y4
  have hpu := put_any wb base L5 h.t d.t V5 HW5.out HX5.out HPU.out (Nat.le_trans HN5.out (by decide))
  have y9 : V5.rangeAt w.heap.size 4 (encTx h.t) := rangeAt_heapC (pre := [.int .i64 h.se, .int .i32 h.xi, .int .i64 h.zx, .int .i64 h.ti]) (mid := encTx h.t) (post := []) HGV5.out rfl rfl
  go_wp2_with (first | (apply wpList_loadMid 33; exact rfl; exact rfl; exact rfl; exact (by assumption); exact undTx; exact rfl; exact infTx) | fail)
  refine hpu.mono ?_
  rintro e V6 ⟨rfl, hw, hk⟩
  have HLL := Lib.hid (show L5 ++ bodyB d.t = encB d by rw [HV.out, HLE5.out, HLE4.out, HLE3.out, HLE2.out, HLE1.out]; rfl)
  have HW6 := Lib.hid (show WrB V6 wb base (encB d) by rw [← HLL.out]; exact hw)
  have HK6 := Lib.hid (HK5.out.trans hk)
  have HNN := Lib.hid (show (encB d).length ≤ 70368744177664 by rw [← HLL.out, List.length_append]; have := bodyB_len HPU.out; have := HN5.out; omega)
  clear hw hk hpu y9
  go_wp2_with fail
  refine (wBytes_any wb base (encB d) V6 HW6.out HNN.out).mono ?_
  rintro e V7 ⟨⟨A, c, rfl, hr⟩, hb⟩
  have hk9 := HK6.out.below HBA.out.1 HBA.out.2 HB2.out.size
  have HEND := Lib.hid (show EncP w d (.returned (.tuple #[.slice A (encB d).length c, .int .i64 0])) V7 from
    ⟨(HB2.out.trans hk9).trans (hb.mono (Nat.le_trans HB2.out.size hk9.size)), .inr ⟨HR0.out, A, c, rfl, own_mono hr (Nat.le_trans HB2.out.size hk9.size)⟩⟩)
  clear hr hb hk9
  go_wp2_with fail
  go_ret2
  exact HEND.out
end Go.Proofs.YthpjneobmmpbnaaGreatDoor
namespace Go.Proofs.YthpjneobmmpbnaaGreatDoor
open Go.RowKit Go.MapKept Go.Maps
theorem thenErr {α β : Type} (e : Nat × Int) (f : α → Nat → PR β) : PR.then (.error e) f = .error e := rfl
theorem thenOk2 {α β : Type} (a : α) (q : Nat) (f : α → Nat → PR β) : PR.then (.ok (a, q)) f = f a q := rfl
theorem TabsR.set {rb : Nat} {w : World} (h : TabsR rb w) {g : Nat} (hg : rb < g) (o : Nat) (v : Value) : TabsR rb (w.setCell ⟨g, o, none⟩ v) := by
  obtain ⟨t, n1, n2⟩ := h
  have hk : ∀ (p : Addr) u, p.block < rb → w.cell? p = some u → (w.setCell ⟨g, o, none⟩ v).cell? p = some u := fun p u hp hu => by
    rw [← hu]; exact (fr_setJ w g o v).cellJ (World.block_lt_of_cell? w _ hu) (by simp; omega)
  exact ⟨⟨fun c hc => hk _ _ n1 (t.1 c hc), fun i hi => ⟨hk _ _ n2 (t.2 i hi).1, hk _ _ n2 (t.2 i hi).2⟩⟩, n1, n2⟩
theorem Fr.rb {rb : Nat} {w w' : World} (h : Fr [] w w') : Fr [rb] w w' := ⟨h.os, h.tape, h.output, h.size, fun g hg _ => h.block g hg (by simp)⟩
/-- a transaction without parts that was read -/
def GetL (w0 : World) (v : TxF) (u : Value) (w' : World) : Prop := ∃ h : TxH, u = txV h ∧ locTx w' (NfR w' w0.heap.size) h v ∧ h.s = (none, 0, 0)
set_option linter.unusedSimpArgs false in
set_option maxRecDepth 100000 in
set_option maxHeartbeats 4000000 in
theorem get2_any {w : World} {rb n c p : Nat} {A : Option Addr} {l : Bs} (h : Rd w rb A n c l p) (hT : TabsR rb w) :
    Calls Tryz.prog 66 #[.pointer (some ⟨rb, 0, none⟩), .int .i32 2] w (RdOut rb A n c l w (leafP l 2 p) (GetL w)) := by
  have hlt := h.lt
  have hb1 : Below w.heap.size w (w.alloc (.cells #[.int .i32 0, .string ⟨#[]⟩, .slice none 0 0, .slice none 0 0, .int .i64 0, .int .i32 0, .int .i32 0, .bool false, .int .i64 0, .int .i64 0, .int .i64 0, .int .i32 0, .slice none 0 0, .slice none 0 0, .int .i32 0, .slice none 0 0] 33)) := (Below.refl _ w).alloc (Nat.le_refl _) _
  have hb2 : Below w.heap.size w ((w.alloc (.cells #[.int .i32 0, .string ⟨#[]⟩, .slice none 0 0, .slice none 0 0, .int .i64 0, .int .i32 0, .int .i32 0, .bool false, .int .i64 0, .int .i64 0, .int .i64 0, .int .i32 0, .slice none 0 0, .slice none 0 0, .int .i32 0, .slice none 0 0] 33)).alloc (.cells #[.int .i32 2, .string ⟨#[]⟩, .slice none 0 0, .slice none 0 0, .int .i64 0, .int .i32 0, .int .i32 0, .bool false, .int .i64 0, .int .i64 0, .int .i64 0, .int .i32 0, .slice none 0 0, .slice none 0 0, .int .i32 0, .slice none 0 0] 33)) := hb1.alloc hb1.size _
  have HR0 := Lib.hid (h.below hb2)
  have HF0 := Lib.hid (Fr.of_below (own := [rb]) hb2)
  have HT0 := Lib.hid (hT.fr (Fr.of_below hb2))
  have HG0 := Lib.hid (heap_s1 w (.cells #[.int .i32 0, .string ⟨#[]⟩, .slice none 0 0, .slice none 0 0, .int .i64 0, .int .i32 0, .int .i32 0, .bool false, .int .i64 0, .int .i64 0, .int .i64 0, .int .i32 0, .slice none 0 0, .slice none 0 0, .int .i32 0, .slice none 0 0] 33) (.cells #[.int .i32 2, .string ⟨#[]⟩, .slice none 0 0, .slice none 0 0, .int .i64 0, .int .i32 0, .int .i32 0, .bool false, .int .i64 0, .int .i64 0, .int .i64 0, .int .i32 0, .slice none 0 0, .slice none 0 0, .int .i32 0, .slice none 0 0] 33))
  have HZ0 := Lib.hid (heap_under (o := (.cells #[.int .i32 2, .string ⟨#[]⟩, .slice none 0 0, .slice none 0 0, .int .i64 0, .int .i32 0, .int .i32 0, .bool false, .int .i64 0, .int .i64 0, .int .i64 0, .int .i32 0, .slice none 0 0, .slice none 0 0, .int .i32 0, .slice none 0 0] 33)) (heap_s0 w (.cells #[.int .i32 0, .string ⟨#[]⟩, .slice none 0 0, .slice none 0 0, .int .i64 0, .int .i32 0, .int .i32 0, .bool false, .int .i64 0, .int .i64 0, .int .i64 0, .int .i32 0, .slice none 0 0, .slice none 0 0, .int .i32 0, .slice none 0 0] 33)))
  have HLZ := Lib.hid (sz2 w (.cells #[.int .i32 0, .string ⟨#[]⟩, .slice none 0 0, .slice none 0 0, .int .i64 0, .int .i32 0, .int .i32 0, .bool false, .int .i64 0, .int .i64 0, .int .i64 0, .int .i32 0, .slice none 0 0, .slice none 0 0, .int .i32 0, .slice none 0 0] 33) (.cells #[.int .i32 2, .string ⟨#[]⟩, .slice none 0 0, .slice none 0 0, .int .i64 0, .int .i32 0, .int .i32 0, .bool false, .int .i64 0, .int .i64 0, .int .i64 0, .int .i32 0, .slice none 0 0, .slice none 0 0, .int .i32 0, .slice none 0 0] 33))
  have HLF := Lib.hid (show leafP l 2 p = (textP l 4096 p).then fun v0 p0 => .ok (⟨⟨2, toBA v0, 0, 0, 0, false, 0, 0, 0, 0, 0⟩, [], [], [], []⟩, p0) from rfl)
  clear h hT hb1 hb2
  go_enter Tryz.func66, Tryz.ntmps66
  go_upto_region 2 with (first | (apply wpList_storeTop 33 33; exact rfl; exact rfl; exact rfl; (first | (with_reducible rfl) | (exact sz1 _ _) | (exact sz2 _ _ _)); exact rfl; exact infTx; exact rfl; (first | exact oneTx _ | simp [Value.oneCell'])) | fail)
  change Code.wp _ _ _ _ ((w.alloc (.cells #[.int .i32 0, .string ⟨#[]⟩, .slice none 0 0, .slice none 0 0, .int .i64 0, .int .i32 0, .int .i32 0, .bool false, .int .i64 0, .int .i64 0, .int .i64 0, .int .i32 0, .slice none 0 0, .slice none 0 0, .int .i32 0, .slice none 0 0] 33)).alloc (.cells #[.int .i32 2, .string ⟨#[]⟩, .slice none 0 0, .slice none 0 0, .int .i64 0, .int .i32 0, .int .i32 0, .bool false, .int .i64 0, .int .i64 0, .int .i64 0, .int .i32 0, .slice none 0 0, .slice none 0 0, .int .i32 0, .slice none 0 0] 33))
  generalize ((w.alloc (.cells #[.int .i32 0, .string ⟨#[]⟩, .slice none 0 0, .slice none 0 0, .int .i64 0, .int .i32 0, .int .i32 0, .bool false, .int .i64 0, .int .i64 0, .int .i64 0, .int .i32 0, .slice none 0 0, .slice none 0 0, .int .i32 0, .slice none 0 0] 33)).alloc (.cells #[.int .i32 2, .string ⟨#[]⟩, .slice none 0 0, .slice none 0 0, .int .i64 0, .int .i32 0, .int .i32 0, .bool false, .int .i64 0, .int .i64 0, .int .i64 0, .int .i32 0, .slice none 0 0, .slice none 0 0, .int .i32 0, .slice none 0 0] 33)) = W0 at *
  go_wp2_with fail
  refine (part_any 2 W0).mono ?_
  rintro e wq ⟨rfl, rfl⟩
  rename World => W0
  rw [show partB 2 = true from rfl]
  go_wp2_with fail
  have hN := rText_any 4096 4096 rfl HR0.out (by decide) HT0.out
  rcases hX0 : textP l 4096 p with ⟨q, k⟩ | ⟨v0, p0⟩
  · have HG := Lib.hid (show leafP l 2 p = .error (q, k) by rw [HLF.out]; simp only [thenOk2, thenErr, hX0])
    rw [hX0] at hN
    refine hN.mono ?_
    rintro e w9 ⟨rfl, hr, hf⟩
    refine ⟨rfl, ?_⟩
    rw [HG.out]
    exact ⟨rfl, hr, HF0.out.transJ hf⟩
  rw [hX0] at hN
  have HX0 := Lib.hid hX0
  clear hX0
  refine hN.mono ?_
  rintro e w1 ⟨⟨u, rfl, rfl⟩, hr, hf⟩
  have hg := (hf.block _ (Array.getElem?_eq_some_iff.1 HG0.out).1 (by simp; omega)).trans HG0.out
  have z : w1.frozen? ⟨w.heap.size + 1, 1, none⟩ = false := by simp [World.frozen?, hg]
  have y : w1.cell? ⟨w.heap.size + 1, 1, none⟩ = some (.string ⟨#[]⟩) := by rw [cellH hg]; rfl
  have HG1 := Lib.hid (show (w1.setCell ⟨w.heap.size + 1, 1, none⟩ (.string (toBA v0))).heap[w.heap.size + 1]? = some (.cells #[.int .i32 2, .string (toBA v0), .slice none 0 0, .slice none 0 0, .int .i64 0, .int .i32 0, .int .i32 0, .bool false, .int .i64 0, .int .i64 0, .int .i64 0, .int .i32 0, .slice none 0 0, .slice none 0 0, .int .i32 0, .slice none 0 0] 33 (0, 0)) from heap_setJ (o := 1) hg _)
  have HZ1 := Lib.hid ((heap_otherJ w1 (w.heap.size + 1) 1 (.string (toBA v0)) (by omega)).trans ((hf.block _ (Array.getElem?_eq_some_iff.1 HZ0.out).1 (by simp; omega)).trans HZ0.out))
  have HR1 := Lib.hid (hr.fr (fr_setJ w1 (w.heap.size + 1) 1 (.string (toBA v0))) (by simp; omega))
  have HF1 := Lib.hid ((HF0.out.transJ hf).trans (fr_setJ w1 (w.heap.size + 1) 1 (.string (toBA v0))) (by simp))
  have HT1 := Lib.hid ((HT0.out.fr hf).set (show rb < w.heap.size + 1 by omega) 1 (.string (toBA v0)))
  clear hr hf hN hg
  go_upto_region 31 with fail
  clear z y
  generalize (w1.setCell ⟨w.heap.size + 1, 1, none⟩ (.string (toBA v0))) = V at *
  have gX := HG1.out
  have gZ := HZ1.out
  go_wp2_with (first | (apply wpList_loadRow 33 33; exact rfl; exact rfl; exact rfl; assumption; exact undTx; exact rfl; exact infTx) | (apply wpList_storeRow 33 33; exact rfl; exact rfl; exact rfl; exact rfl; assumption; exact infTx; exact rfl; simp [Value.oneCell']) | fail)
  have hfz := fr_setRow9 V w.heap.size #[.int .i32 2, .string (toBA v0), .slice none 0 0, .slice none 0 0, .int .i64 0, .int .i32 0, .int .i32 0, .bool false, .int .i64 0, .int .i64 0, .int .i64 0, .int .i32 0, .slice none 0 0, .slice none 0 0, .int .i32 0, .slice none 0 0]
  have HEND := Lib.hid (show RdOut rb A n c l w (leafP l 2 p) (GetL w) (.returned (txV ⟨⟨2, toBA v0, 0, 0, 0, false, 0, 0, 0, 0, 0⟩, (none, 0, 0), (none, 0, 0), (none, 0, 0), (none, 0, 0), (none, 0, 0)⟩)) (V.setRow w.heap.size #[.int .i32 2, .string (toBA v0), .slice none 0 0, .slice none 0 0, .int .i64 0, .int .i32 0, .int .i32 0, .bool false, .int .i64 0, .int .i64 0, .int .i64 0, .int .i32 0, .slice none 0 0, .slice none 0 0, .int .i32 0, .slice none 0 0]) by
    have hlf : leafP l 2 p = .ok (⟨⟨2, toBA v0, 0, 0, 0, false, 0, 0, 0, 0, 0⟩, [], [], [], []⟩, p0) := by rw [HLF.out]; simp only [thenOk2, HX0.out]
    rw [hlf]
    exact ⟨⟨_, rfl, _, rfl, ⟨rfl, SlR.nil_, SlR.nil_, SlR.nil_, SlR.nil_⟩, rfl⟩, HR1.out.fr hfz (by simp; omega), HF1.out.trans hfz (by simp)⟩)
  exact bodyPost_cell rfl rfl (setRow_heap _ _ _ _ _ _ gZ) undTx rfl infTx rfl HEND.out
end Go.Proofs.YthpjneobmmpbnaaGreatDoor
namespace Go.Proofs.YthpjneobmmpbnaaGreatDoor
open Go.RowKit Go.MapKept Go.Maps
/-- a transaction that was read -/
def GetT (w0 : World) (t : TxT) (u : Value) (w' : World) : Prop := ∃ h : TxH, u = txV h ∧ TxAt w' (NfR w' w0.heap.size) h t
theorem GetL.tree {w0 w' : World} {v : TxF} {u : Value} (H : GetL w0 v u w') : GetT w0 (leafT v) u w' := by
  obtain ⟨h, rfl, hl, hs⟩ := H
  refine ⟨h, rfl, TrAt.of_subs (L := []) hl ?_ ?_ ?_⟩
  · show ([] : List TxT).length = h.s.2.1
    rw [hs]; rfl
  · show SlR w' _ encTx 16 h.s []
    rw [hs]; exact SlR.nil_
  · intro j hj
    have hj : j < h.s.2.1 := hj
    rw [hs] at hj; exact absurd hj (by simp)
theorem RdOut.map {α β : Type} {rb n c : Nat} {A : Option Addr} {l : Bs} {w w' : World} {e : Ending} {x : PR α} {R : α → Value → World → Prop} {R' : β → Value → World → Prop} (f : α → β) (H : RdOut rb A n c l w x R e w') (hR : ∀ v u w', R v u w' → R' (f v) u w') : RdOut rb A n c l w (x.then fun v a => .ok (f v, a)) R' e w' := by
  rcases x with ⟨q, k⟩ | ⟨v, q⟩
  · exact H
  · obtain ⟨⟨u, h1, h2⟩, h3⟩ := H
    exact ⟨⟨u, h1, hR _ _ _ h2⟩, h3⟩
/-- what get answers at this place -/
def GetsP (l : Bs) (ty : Int) (p : Nat) : Prop := ∀ (w : World) (rb n c : Nat) (A : Option Addr), Rd w rb A n c l p → TabsR rb w → Calls Tryz.prog 66 #[.pointer (some ⟨rb, 0, none⟩), .int .i32 ty] w (RdOut rb A n c l w (bodyP l ty p) (GetT w))
theorem gets_leaf {l : Bs} {ty : Int} {p : Nat} (h14 : ty ≠ 14) (h : ∀ (w : World) (rb n c : Nat) (A : Option Addr), Rd w rb A n c l p → TabsR rb w → Calls Tryz.prog 66 #[.pointer (some ⟨rb, 0, none⟩), .int .i32 ty] w (RdOut rb A n c l w (leafP l ty p) (GetL w))) : GetsP l ty p := fun w rb n c A hr hT => by
  have hb : bodyP l ty p = (leafP l ty p).then fun v a => .ok (leafT v, a) := by unfold bodyP; rw [if_neg h14]
  rw [hb]
  exact (h w rb n c A hr hT).mono fun e w' H => RdOut.map leafT H fun v u w' H => H.tree
/-- what is read ahead of the transaction's fields -/
def headP (l : Bs) : PR (Int × Int × Int × Int × Int) := (longP l 0).then fun se a => (intP l a).then fun xi a => (longP l a).then fun zx a => (longP l a).then fun ti a => (intP l a).then fun ty a => .ok ((se, xi, zx, ti, ty), a)
/-- what the closure holds -/
def DlC (xb B : Nat) (v : DlT) (w' : World) : Prop := ∃ h : DlH, w'.rangeAt xb 0 (encDl h) ∧ DlAt w' (NfR w' B) h v
theorem DlC.fr {xb B : Nat} {v : DlT} {w w' : World} {own : List Nat} (H : DlC xb B v w) (hf : Fr own w w') (hx : xb ∉ own) (ho : ∀ g ∈ own, g < B) : DlC xb B v w' := by
  obtain ⟨h, h1, h2, h3⟩ := H
  refine ⟨h, fun i u hu => ?_, h2, TrAt.fr kTxOk h3 hf fun b _ hb => ⟨fun hm => ?_, hb.fr hf (fun hm => ?_) (Nat.le_refl _)⟩⟩
  · have h4 := h1 i u hu
    exact (hf.cell (p := ⟨xb, 0 + i, none⟩) (World.block_lt_of_cell? w _ h4) hx).trans h4
  · have := ho b hm; have := hb.1; omega
  · have := ho b hm; have := hb.1; omega
/-- how the closure ends -/
def ClOut (rb xb : Nat) (A : Option Addr) (n c : Nat) (x : PR DlT) (W : World) (e : Ending) (w' : World) : Prop := Fr (rb :: [xb]) W w' ∧ match x with
  | .ok (v, q) => e = .returned (.tuple #[]) ∧ DlC xb W.heap.size v w' ∧ w'.heap[rb]? = some (.cells #[.slice A n c, .int .i64 (q : Int), .bool false] 187 (0, 0))
  | .error (q, k) => e = .panicked [failV rb k] ∧ True ∧ w'.heap[rb]? = some (.cells #[.slice A n c, .int .i64 (q : Int), .bool false] 187 (0, 0))
theorem fr_cons {rb xb : Nat} {w w' : World} (h : Fr [rb] w w') : Fr (rb :: [xb]) w w' := ⟨h.os, h.tape, h.output, h.size, fun g hg hn => h.block g hg (fun hm => hn (by simp at hm ⊢; exact .inl hm))⟩
theorem fr_cons2 {rb xb : Nat} {w w' : World} (h : Fr [xb] w w') : Fr (rb :: [xb]) w w' := ⟨h.os, h.tape, h.output, h.size, fun g hg hn => h.block g hg (fun hm => hn (by simp at hm ⊢; exact .inr hm))⟩
theorem rd_setlow {w : World} {rb n c p xb : Nat} {A : Option Addr} {l : Bs} (h : Rd w rb A n c l p) (hx : xb < rb) (hz : ∀ a, A = some a → 0 < n → a.block ≠ xb) (o : Nat) (v : Value) : Rd (w.setCell ⟨xb, o, none⟩ v) rb A n c l p :=
  ⟨(heap_otherJ w xb o v (by omega)).trans h.cell, ⟨h.sl.1, fun h0 => by
    obtain ⟨b, off, e, hb, hc⟩ := h.sl.2 h0
    exact ⟨b, off, e, hb, fun j hj i u hu => by
      have h1 := hc j hj i u hu
      exact ((fr_setJ w xb o v).cellJ (World.block_lt_of_cell? w _ h1) (by have := hz _ e h0; simpa using this)).trans h1⟩⟩, h.at_, h.small, h.cap, h.nil⟩
theorem tabs_setlow {rb xb : Nat} {w : World} (h : TabsR rb w) (h1 : 1 ≠ xb) (h2 : 2 ≠ xb) (o : Nat) (v : Value) : TabsR rb (w.setCell ⟨xb, o, none⟩ v) := by
  obtain ⟨t, n1, n2⟩ := h
  have hk : ∀ (p : Addr) u, p.block ≠ xb → w.cell? p = some u → (w.setCell ⟨xb, o, none⟩ v).cell? p = some u := fun p u hp hu => by
    rw [← hu]; exact (fr_setJ w xb o v).cellJ (World.block_lt_of_cell? w _ hu) (by simpa using hp)
  exact ⟨⟨fun c hc => hk _ _ h1 (t.1 c hc), fun i hi => ⟨hk _ _ h2 (t.2 i hi).1, hk _ _ h2 (t.2 i hi).2⟩⟩, n1, n2⟩
set_option linter.unusedSimpArgs false in
set_option maxRecDepth 100000 in
set_option maxHeartbeats 4000000 in
theorem decode1_any {w : World} {rb xb n c : Nat} {A : Option Addr} {l : Bs} (h : Rd w rb A n c l 0) (hT : TabsR rb w) (hx : w.heap[xb]? = some (.cells #[.int .i64 0, .int .i32 0, .int .i64 0, .int .i64 0, .int .i32 0, .string ⟨#[]⟩, .slice none 0 0, .slice none 0 0, .int .i64 0, .int .i32 0, .int .i32 0, .bool false, .int .i64 0, .int .i64 0, .int .i64 0, .int .i32 0, .slice none 0 0, .slice none 0 0, .int .i32 0, .slice none 0 0] 35 (0, 0))) (hlt : xb < rb) (hA : ∀ a, A = some a → 0 < n → a.block ≠ xb) (ht1 : 1 ≠ xb) (ht2 : 2 ≠ xb) (hg : ∀ z p, headP l = .ok (z, p) → knownB z.2.2.2.2 = true → GetsP l z.2.2.2.2 p) :
    Calls Tryz.prog 62 #[.pointer (some ⟨rb, 0, none⟩), .pointer (some ⟨xb, 0, none⟩)] w (ClOut rb xb A n c (readP l) w) := by
  have hlr := h.lt
  have HR0 := Lib.hid h; have HT0 := Lib.hid hT; have HC0 := Lib.hid hx; have HGT := Lib.hid hg
  have HF0 := Lib.hid (Fr.refl (rb :: [xb]) w)
  have HLF := Lib.hid (show readP l = (longP l 0).then fun v0 p0 => (intP l p0).then fun v1 p1 => (longP l p1).then fun v2 p2 => (longP l p2).then fun v3 p3 => (intP l p3).then fun v4 p4 => if knownB v4 then (bodyP l v4 p4).then fun t a => .ok (⟨v0, v1, v2, v3, t⟩, a) else .error (p4, 110) from rfl)
  have HHF := Lib.hid (show headP l = (longP l 0).then fun v0 p0 => (intP l p0).then fun v1 p1 => (longP l p1).then fun v2 p2 => (longP l p2).then fun v3 p3 => (intP l p3).then fun v4 p4 => .ok ((v0, v1, v2, v3, v4), p4) from rfl)
  clear h hT hx hg
  go_enter Tryz.func62, Tryz.ntmps62
  go_wp2_with fail
  have hN := rLong_any HR0.out
  rcases hX0 : longP l 0 with ⟨q, k⟩ | ⟨v0, p0⟩
  · have HG := Lib.hid (show readP l = .error (q, k) by rw [HLF.out]; simp only [thenOk2, thenErr, hX0])
    rw [hX0] at hN
    refine hN.mono ?_
    rintro e w9 ⟨rfl, hr, hf⟩
    refine ⟨rfl, ?_⟩
    rw [HG.out]
    exact ⟨HF0.out.trans (fr_cons hf) (fun g hg => .inl hg), rfl, trivial, hr.cell⟩
  rw [hX0] at hN
  have HX0 := Lib.hid hX0
  clear hX0
  refine hN.mono ?_
  rintro e w1 ⟨⟨u, rfl, rfl⟩, hr, hf⟩
  have hg := (hf.block _ (Array.getElem?_eq_some_iff.1 HC0.out).1 (by simp; omega)).trans HC0.out
  have z : w1.frozen? ⟨xb, 0, none⟩ = false := by simp [World.frozen?, hg]
  have y : w1.cell? ⟨xb, 0, none⟩ = some (.int .i64 0) := by rw [cellH hg]; rfl
  have HC1 := Lib.hid (show (w1.setCell ⟨xb, 0, none⟩ (.int .i64 v0)).heap[xb]? = some (.cells #[.int .i64 v0, .int .i32 0, .int .i64 0, .int .i64 0, .int .i32 0, .string ⟨#[]⟩, .slice none 0 0, .slice none 0 0, .int .i64 0, .int .i32 0, .int .i32 0, .bool false, .int .i64 0, .int .i64 0, .int .i64 0, .int .i32 0, .slice none 0 0, .slice none 0 0, .int .i32 0, .slice none 0 0] 35 (0, 0)) from heap_setJ (o := 0) hg _)
  have HR1 := Lib.hid (rd_setlow hr hlt hA 0 (.int .i64 v0))
  have HF1 := Lib.hid ((HF0.out.trans (fr_cons hf) (fun g hg => .inl hg)).trans (fr_cons2 (fr_setJ w1 xb 0 (.int .i64 v0))) (fun g hg => .inl hg))
  have HT1 := Lib.hid (tabs_setlow (HT0.out.fr hf) ht1 ht2 0 (.int .i64 v0))
  clear hr hf hN hg
  go_upto_region 1 with fail
  clear z y
  generalize (w1.setCell ⟨xb, 0, none⟩ (.int .i64 v0)) = W1 at *
  go_wp2_with fail
  have hN := rInt_any HR1.out
  rcases hX1 : intP l p0 with ⟨q, k⟩ | ⟨v1, p1⟩
  · have HG := Lib.hid (show readP l = .error (q, k) by rw [HLF.out]; simp only [thenOk2, thenErr, HX0.out, hX1])
    rw [hX1] at hN
    refine hN.mono ?_
    rintro e w9 ⟨rfl, hr, hf⟩
    refine ⟨rfl, ?_⟩
    rw [HG.out]
    exact ⟨HF1.out.trans (fr_cons hf) (fun g hg => .inl hg), rfl, trivial, hr.cell⟩
  rw [hX1] at hN
  have HX1 := Lib.hid hX1
  clear hX1
  refine hN.mono ?_
  rintro e w2 ⟨⟨u, rfl, rfl⟩, hr, hf⟩
  have hg := (hf.block _ (Array.getElem?_eq_some_iff.1 HC1.out).1 (by simp; omega)).trans HC1.out
  have z : w2.frozen? ⟨xb, 1, none⟩ = false := by simp [World.frozen?, hg]
  have y : w2.cell? ⟨xb, 1, none⟩ = some (.int .i32 0) := by rw [cellH hg]; rfl
  have HC2 := Lib.hid (show (w2.setCell ⟨xb, 1, none⟩ (.int .i32 v1)).heap[xb]? = some (.cells #[.int .i64 v0, .int .i32 v1, .int .i64 0, .int .i64 0, .int .i32 0, .string ⟨#[]⟩, .slice none 0 0, .slice none 0 0, .int .i64 0, .int .i32 0, .int .i32 0, .bool false, .int .i64 0, .int .i64 0, .int .i64 0, .int .i32 0, .slice none 0 0, .slice none 0 0, .int .i32 0, .slice none 0 0] 35 (0, 0)) from heap_setJ (o := 1) hg _)
  have HR2 := Lib.hid (rd_setlow hr hlt hA 1 (.int .i32 v1))
  have HF2 := Lib.hid ((HF1.out.trans (fr_cons hf) (fun g hg => .inl hg)).trans (fr_cons2 (fr_setJ w2 xb 1 (.int .i32 v1))) (fun g hg => .inl hg))
  have HT2 := Lib.hid (tabs_setlow (HT1.out.fr hf) ht1 ht2 1 (.int .i32 v1))
  clear hr hf hN hg
  go_upto_region 2 with fail
  clear z y
  generalize (w2.setCell ⟨xb, 1, none⟩ (.int .i32 v1)) = W2 at *
  go_wp2_with fail
  have hN := rLong_any HR2.out
  rcases hX2 : longP l p1 with ⟨q, k⟩ | ⟨v2, p2⟩
  · have HG := Lib.hid (show readP l = .error (q, k) by rw [HLF.out]; simp only [thenOk2, thenErr, HX0.out, HX1.out, hX2])
    rw [hX2] at hN
    refine hN.mono ?_
    rintro e w9 ⟨rfl, hr, hf⟩
    refine ⟨rfl, ?_⟩
    rw [HG.out]
    exact ⟨HF2.out.trans (fr_cons hf) (fun g hg => .inl hg), rfl, trivial, hr.cell⟩
  rw [hX2] at hN
  have HX2 := Lib.hid hX2
  clear hX2
  refine hN.mono ?_
  rintro e w3 ⟨⟨u, rfl, rfl⟩, hr, hf⟩
  have hg := (hf.block _ (Array.getElem?_eq_some_iff.1 HC2.out).1 (by simp; omega)).trans HC2.out
  have z : w3.frozen? ⟨xb, 2, none⟩ = false := by simp [World.frozen?, hg]
  have y : w3.cell? ⟨xb, 2, none⟩ = some (.int .i64 0) := by rw [cellH hg]; rfl
  have HC3 := Lib.hid (show (w3.setCell ⟨xb, 2, none⟩ (.int .i64 v2)).heap[xb]? = some (.cells #[.int .i64 v0, .int .i32 v1, .int .i64 v2, .int .i64 0, .int .i32 0, .string ⟨#[]⟩, .slice none 0 0, .slice none 0 0, .int .i64 0, .int .i32 0, .int .i32 0, .bool false, .int .i64 0, .int .i64 0, .int .i64 0, .int .i32 0, .slice none 0 0, .slice none 0 0, .int .i32 0, .slice none 0 0] 35 (0, 0)) from heap_setJ (o := 2) hg _)
  have HR3 := Lib.hid (rd_setlow hr hlt hA 2 (.int .i64 v2))
  have HF3 := Lib.hid ((HF2.out.trans (fr_cons hf) (fun g hg => .inl hg)).trans (fr_cons2 (fr_setJ w3 xb 2 (.int .i64 v2))) (fun g hg => .inl hg))
  have HT3 := Lib.hid (tabs_setlow (HT2.out.fr hf) ht1 ht2 2 (.int .i64 v2))
  clear hr hf hN hg
  go_upto_region 3 with fail
  clear z y
  generalize (w3.setCell ⟨xb, 2, none⟩ (.int .i64 v2)) = W3 at *
  go_wp2_with fail
  have hN := rLong_any HR3.out
  rcases hX3 : longP l p2 with ⟨q, k⟩ | ⟨v3, p3⟩
  · have HG := Lib.hid (show readP l = .error (q, k) by rw [HLF.out]; simp only [thenOk2, thenErr, HX0.out, HX1.out, HX2.out, hX3])
    rw [hX3] at hN
    refine hN.mono ?_
    rintro e w9 ⟨rfl, hr, hf⟩
    refine ⟨rfl, ?_⟩
    rw [HG.out]
    exact ⟨HF3.out.trans (fr_cons hf) (fun g hg => .inl hg), rfl, trivial, hr.cell⟩
  rw [hX3] at hN
  have HX3 := Lib.hid hX3
  clear hX3
  refine hN.mono ?_
  rintro e w4 ⟨⟨u, rfl, rfl⟩, hr, hf⟩
  have hg := (hf.block _ (Array.getElem?_eq_some_iff.1 HC3.out).1 (by simp; omega)).trans HC3.out
  have z : w4.frozen? ⟨xb, 3, none⟩ = false := by simp [World.frozen?, hg]
  have y : w4.cell? ⟨xb, 3, none⟩ = some (.int .i64 0) := by rw [cellH hg]; rfl
  have HC4 := Lib.hid (show (w4.setCell ⟨xb, 3, none⟩ (.int .i64 v3)).heap[xb]? = some (.cells #[.int .i64 v0, .int .i32 v1, .int .i64 v2, .int .i64 v3, .int .i32 0, .string ⟨#[]⟩, .slice none 0 0, .slice none 0 0, .int .i64 0, .int .i32 0, .int .i32 0, .bool false, .int .i64 0, .int .i64 0, .int .i64 0, .int .i32 0, .slice none 0 0, .slice none 0 0, .int .i32 0, .slice none 0 0] 35 (0, 0)) from heap_setJ (o := 3) hg _)
  have HR4 := Lib.hid (rd_setlow hr hlt hA 3 (.int .i64 v3))
  have HF4 := Lib.hid ((HF3.out.trans (fr_cons hf) (fun g hg => .inl hg)).trans (fr_cons2 (fr_setJ w4 xb 3 (.int .i64 v3))) (fun g hg => .inl hg))
  have HT4 := Lib.hid (tabs_setlow (HT3.out.fr hf) ht1 ht2 3 (.int .i64 v3))
  clear hr hf hN hg
  go_upto_region 4 with fail
  clear z y
  generalize (w4.setCell ⟨xb, 3, none⟩ (.int .i64 v3)) = W4 at *
  go_wp2_with fail
  have hN := rInt_any HR4.out
  rcases hX4 : intP l p3 with ⟨q, k⟩ | ⟨v4, p4⟩
  · have HG := Lib.hid (show readP l = .error (q, k) by rw [HLF.out]; simp only [thenOk2, thenErr, HX0.out, HX1.out, HX2.out, HX3.out, hX4])
    rw [hX4] at hN
    refine hN.mono ?_
    rintro e w9 ⟨rfl, hr, hf⟩
    refine ⟨rfl, ?_⟩
    rw [HG.out]
    exact ⟨HF4.out.trans (fr_cons hf) (fun g hg => .inl hg), rfl, trivial, hr.cell⟩
  rw [hX4] at hN
  have HX4 := Lib.hid hX4
  clear hX4
  refine hN.mono ?_
  rintro e w5 ⟨⟨u, rfl, rfl⟩, hr, hf⟩
  have HC5 := Lib.hid ((hf.block _ (Array.getElem?_eq_some_iff.1 HC4.out).1 (by simp; omega)).trans HC4.out)
  have HR5 := Lib.hid hr
  have HF5 := Lib.hid (HF4.out.trans (fr_cons hf) (fun g hg => .inl hg))
  have HT5 := Lib.hid (HT4.out.fr hf)
  clear hr hf hN
  go_wp2_with fail
  refine (known_any v4 w5).mono ?_
  rintro e wq ⟨rfl, hwq⟩
  subst hwq
  by_cases hk : knownB v4 = true
  case neg =>
    have hk : knownB v4 = false := by simpa using hk
    have HG := Lib.hid (show readP l = .error (p4, 110) by rw [HLF.out]; simp only [thenOk2, HX0.out, HX1.out, HX2.out, HX3.out, HX4.out, hk]; rfl)
    rw [hk]
    go_wp2_with fail
    refine (fail_any 110 HR5.out (by decide)).mono ?_
    rintro e w9 ⟨rfl, rfl⟩
    refine ⟨rfl, ?_⟩
    rw [HG.out]
    exact ⟨HF5.out, rfl, trivial, HR5.out.cell⟩
  have HLE := Lib.hid (show readP l = (bodyP l v4 p4).then fun t a => .ok (⟨v0, v1, v2, v3, t⟩, a) by rw [HLF.out]; simp only [thenOk2, HX0.out, HX1.out, HX2.out, HX3.out, HX4.out, hk]; rfl)
  have hN := HGT.out (v0, v1, v2, v3, v4) p4 (by rw [HHF.out]; simp only [thenOk2, HX0.out, HX1.out, HX2.out, HX3.out, HX4.out]) hk wq rb n c A HR5.out HT5.out
  rw [hk]
  clear hk
  go_wp2_with fail
  rcases hX5 : bodyP l v4 p4 with ⟨q, k⟩ | ⟨t, p5⟩
  · rw [hX5] at hN
    have HG := Lib.hid (show readP l = .error (q, k) by rw [HLE.out, hX5]; rfl)
    refine hN.mono ?_
    rintro e w9 ⟨rfl, hr, hf⟩
    refine ⟨rfl, ?_⟩
    rw [HG.out]
    exact ⟨HF5.out.trans (fr_cons hf) (fun g hg => .inl hg), rfl, trivial, hr.cell⟩
  rw [hX5] at hN
  have HG := Lib.hid (show readP l = .ok (⟨v0, v1, v2, v3, t⟩, p5) by rw [HLE.out, hX5]; rfl)
  refine hN.mono ?_
  rintro e w6 ⟨⟨u, rfl, ht, rfl, hta⟩, hr, hf⟩
  have hg := (hf.block _ (Array.getElem?_eq_some_iff.1 HC5.out).1 (by simp; omega)).trans HC5.out
  have hth : w6.there xb 4 16 := fun j hj => ⟨by
    rw [cellH hg, Array.getElem?_eq_getElem (by show 4 + j < 20; omega)]; rfl, by simp [World.frozen?, hg]⟩
  have hfs := fr_setCells w6 xb 4 (encTx ht)
  have HB5 := Lib.hid (HF5.out.size)
  have hsz := hf.size
  have hlo : xb < w.heap.size := by omega
  have hDC : DlC xb w.heap.size ⟨v0, v1, v2, v3, t⟩ (w6.setCells xb 4 (encTx ht)) := by
    refine ⟨⟨v0, v1, v2, v3, ht⟩, ?_, ⟨rfl, rfl, rfl, rfl⟩, TrAt.fr kTxOk hta hfs fun b _ hb => ⟨?_, hb.fr hfs ?_ (HB5.out)⟩⟩
    · have h1 : (w6.setCells xb 4 (encTx ht)).rangeAt xb 4 (encTx ht) := World.rangeAt_setCells_same w6 xb 4 (encTx ht) hth
      have h0 : (w6.setCells xb 4 (encTx ht)).rangeAt xb 0 [.int .i64 v0, .int .i32 v1, .int .i64 v2, .int .i64 v3] := World.rangeAt_setCells_apart (rangeAt_heapC (pre := []) (mid := [.int .i64 v0, .int .i32 v1, .int .i64 v2, .int .i64 v3]) (post := [.int .i32 0, .string ⟨#[]⟩, .slice none 0 0, .slice none 0 0, .int .i64 0, .int .i32 0, .int .i32 0, .bool false, .int .i64 0, .int .i64 0, .int .i64 0, .int .i32 0, .slice none 0 0, .slice none 0 0, .int .i32 0, .slice none 0 0]) hg rfl rfl) _ _ _ (.inr (.inl (by simp)))
      intro i u hu
      by_cases hi : i < 4
      · exact h0 i u (by rw [← hu]; show _ = (_ ++ _)[i]?; rw [List.getElem?_append_left (by simpa using hi)])
      · have h2 : (encDl ⟨v0, v1, v2, v3, ht⟩)[i]? = (encTx ht)[i - 4]? := by show (_ ++ _)[i]? = _; rw [List.getElem?_append_right (by simp; omega)]; rfl
        rw [h2] at hu
        have := h1 (i - 4) u hu
        rw [show 4 + (i - 4) = 0 + i by omega] at this
        exact this
    · have := hb.1; have := HB5.out; simp; omega
    · have := hb.1; have := HB5.out; simp; omega
  have HFE := Lib.hid ((HF5.out.trans (fr_cons hf) (fun g hg => .inl hg)).trans (fr_cons2 (rb := rb) hfs) (fun g hg => .inl hg))
  have HDC := Lib.hid hDC
  have HRE := Lib.hid ((hfs.block rb (Nat.lt_of_lt_of_le hlr (Nat.le_trans HB5.out hsz)) (by simp; omega)).trans hr.cell)
  clear hDC hfs hr hf hN hta hg
  go_wp2_with (first
    | (apply wpList_storeMid 33; exact rfl; exact rfl; exact rfl; exact rfl; exact hth; exact infTx; exact oneTx ht)
    | fail)
  refine bodyPost_ret (results_none rfl _ _ _) rfl ?_
  show ClOut rb xb A n c (readP l) w _ _
  rw [HG.out]
  exact ⟨HFE.out, rfl, HDC.out, HRE.out⟩
end Go.Proofs.YthpjneobmmpbnaaGreatDoor
namespace Go.Proofs.YthpjneobmmpbnaaGreatDoor
open Go.RowKit Go.MapKept Go.Maps
theorem leafP_in {l : Bs} {ty : Int} {p : Nat} (hp : p ≤ l.length) : (leafP l ty p).within l := by
  have ok : ∀ {α : Type} (v : α) (a : Nat), a ≤ l.length → PR.within l (.ok (v, a)) := fun _ _ h => h
  have ha : ∀ p, p ≤ l.length → (aclP l p).within l := fun p h => (intP_in h).bind fun _ _ _ h => (idP_in h).bind fun _ _ _ h => h
  unfold leafP
  split
  · exact (textP_in _ hp).bind fun _ _ _ h => (bytesP_in _ h).bind fun _ _ _ h => (listP_in _ _ ha h).bind fun _ _ _ h => (longP_in h).bind fun _ _ _ h => (intP_in h).bind fun _ _ _ h => h
  split
  · exact (textP_in _ hp).bind fun _ _ _ h => h
  split
  · exact (textP_in _ hp).bind fun _ _ _ h => (bytesP_in _ h).bind fun _ _ _ h => (intP_in h).bind fun _ _ _ h => h
  split
  · exact (textP_in _ hp).bind fun _ _ _ h => (listP_in _ _ ha h).bind fun _ _ _ h => (intP_in h).bind fun _ _ _ h => h
  split
  · exact (textP_in _ hp).bind fun _ _ _ h => (intP_in h).bind fun _ _ _ h => h
  split
  · exact (textP_in _ hp).bind fun _ _ _ h => (longP_in h).bind fun _ _ _ h => (longP_in h).bind fun _ _ _ h => h
  split
  · exact (intP_in hp).bind fun _ _ _ h => (listP_in _ _ (fun p h => idP_in h) h).bind fun _ _ _ h => h
  split
  · exact (listP_in _ _ (fun p h => textP_in _ h) hp).bind fun _ _ _ h => h
  split
  · exact (intP_in hp).bind fun _ _ _ h => h
  · exact ok _ _ hp
theorem partP_in {l : Bs} {p : Nat} (hp : p ≤ l.length) : (partP l p).within l := (intP_in hp).bind fun ty a _ h => by
  show PR.within l (if _ then _ else _)
  split
  · exact leafP_in h
  · exact ⟨h, by decide⟩
theorem bodyP_in {l : Bs} {ty : Int} {p : Nat} (hp : p ≤ l.length) : (bodyP l ty p).within l := by
  unfold bodyP
  split
  · exact (listP_in _ _ (fun p h => partP_in h) hp).bind fun _ _ _ h => h
  · exact (leafP_in hp).bind fun _ _ _ h => h
theorem readP_in (l : Bs) : (readP l).within l := (longP_in (Nat.zero_le _)).bind fun _ _ _ h => (intP_in h).bind fun _ _ _ h => (longP_in h).bind fun _ _ _ h => (longP_in h).bind fun _ _ _ h => (intP_in h).bind fun ty a _ h => by
  show PR.within l (if _ then _ else _)
  split
  · exact (bodyP_in h).bind fun _ _ _ h => h
  · exact ⟨h, by decide⟩
/-- all of the bytes -/
def allP (l : Bs) : PR DlT := match readP l with
  | .error e => .error e
  | .ok (d, p) => if p < l.length then .error (p, 21) else .ok (d, p)
theorem decD_all (l : Bs) : decD l = match allP l with
    | .error (p, k) => (noDl, p, k)
    | .ok (d, _) => if rightE d ≠ 0 then (noDl, l.length, rightE d) else (d, 0, 0) := by
  unfold decD allP
  rcases readP l with ⟨p, k⟩ | ⟨d, p⟩
  · rfl
  · dsimp only
    by_cases h : p < l.length
    · rw [if_pos h, if_pos h]
    · rw [if_neg h, if_neg h]
theorem TabsR.ofE {w W : World} {rb : Nat} (hE : Env w) (hb : Below w.heap.size w W) (hle : w.heap.size ≤ rb) : TabsR rb W :=
  ⟨(hE.below (Nat.le_refl _) hb).tabs, Nat.lt_of_lt_of_le (World.block_lt_of_cell? w _ (hE.tabs.1 0 (by decide))) hle, Nat.lt_of_lt_of_le (World.block_lt_of_cell? w _ (hE.tabs.2 0 (by decide)).1) hle⟩
/-- what is known of get at these bytes -/
def GetsAll (l : Bs) : Prop := ∀ z p, headP l = .ok (z, p) → knownB z.2.2.2.2 = true → GetsP l z.2.2.2.2 p
/-- bytes of an argument -/
def ArgC (w : World) (A : Option Addr) (n c : Nat) (l : Bs) : Prop := Sl w w.heap.size enc8 1 A n l ∧ (A = none → n = 0 ∧ c = 0) ∧ n ≤ 1099511627776 ∧ n ≤ c
theorem ArgC.below {w w' : World} {A : Option Addr} {n c : Nat} {l : Bs} (h : ArgC w A n c l) (hb : Below w.heap.size w w') : ArgC w' A n c l := ⟨h.1.belowMore hb hb.size, h.2⟩
theorem readDl_any {w w0 : World} {xb n c : Nat} {A : Option Addr} {l : Bs} (hB : ArgC w0 A n c l) (hE : Env w0) (hg : GetsAll l) (hb : Below w0.heap.size w0 w) (hx : w.heap[xb]? = some (.cells #[.int .i64 0, .int .i32 0, .int .i64 0, .int .i64 0, .int .i32 0, .string ⟨#[]⟩, .slice none 0 0, .slice none 0 0, .int .i64 0, .int .i32 0, .int .i32 0, .bool false, .int .i64 0, .int .i64 0, .int .i64 0, .int .i32 0, .slice none 0 0, .slice none 0 0, .int .i32 0, .slice none 0 0] 35 (0, 0))) (hxl : w0.heap.size ≤ xb) :
    Calls Tryz.prog 111 #[.slice A n c, .func (.func 62) #[] #[.pointer (some ⟨xb, 0, none⟩)]] w (ReadOut (readP l) (fun W v w' => DlC xb W.heap.size v w') (fun _ _ => True) [xb] w) := by
  have hlt := (Array.getElem?_eq_some_iff.1 hx).1
  refine read_any (readP l) (fun W v w' => DlC xb W.heap.size v w') (fun _ _ => True) [xb] _ #[] #[.pointer (some ⟨xb, 0, none⟩)] (hB.1.belowMore hb hb.size) hB.2.2.1 hB.2.2.2 hB.2.1 (enters_of Tryz.func62 (by kernel_rfl) rfl) (by simpa using hlt) (fun W v w1 w2 own H hf ho => ?_) (fun _ _ _ _ _ _ _ => trivial) (fun W rb hW hrb hR => ?_)
  · exact H.fr hf (fun hm => by have := ho _ hm; omega) (fun g hm => by have := ho _ hm; omega)
  · have hWb : Below w0.heap.size w0 W := hb.trans (hW.mono hb.size)
    have hT := TabsR.ofE hE hWb (Nat.le_trans hb.size hrb)
    refine (decode1_any hR hT ((hW.block xb hlt).trans hx) (by omega) (fun a ha h0 => ?_) ?_ ?_ hg).mono fun e w' H => by
      unfold ClOut at H
      generalize readP l = x at H ⊢
      rcases x with ⟨q, k⟩ | ⟨v, q⟩ <;> exact H
    · obtain ⟨b, off, e, hbb, _⟩ := hB.1.2 h0
      rw [ha] at e; injection e with e
      rw [e]
      show b ≠ xb
      omega
    · have := World.block_lt_of_cell? w0 _ (hE.tabs.1 0 (by decide))
      intro e
      rw [e] at this
      exact absurd this (by show ¬ xb < _; omega)
    · have := World.block_lt_of_cell? w0 _ (hE.tabs.2 0 (by decide)).1
      intro e
      rw [e] at this
      exact absurd this (by show ¬ xb < _; omega)
/-- how All ends -/
def AllD (xb : Nat) (l : Bs) (w : World) (e : Ending) (w' : World) : Prop := Fr [xb] w w' ∧ ∃ (p : Nat) (k : Int), e = .returned (.tuple #[.int .i64 (p : Int), .int .i64 k]) ∧ ((k ≠ 0 ∧ allP l = .error (p, k)) ∨ (k = 0 ∧ ∃ v B, allP l = .ok (v, p) ∧ w.heap.size ≤ B ∧ DlC xb B v w'))
set_option linter.unusedSimpArgs false in
set_option maxRecDepth 100000 in
set_option maxHeartbeats 4000000 in
theorem allDl_any {w w0 : World} {xb n c : Nat} {A : Option Addr} {l : Bs} (hB : ArgC w0 A n c l) (hE : Env w0) (hg : GetsAll l) (hb : Below w0.heap.size w0 w) (hx : w.heap[xb]? = some (.cells #[.int .i64 0, .int .i32 0, .int .i64 0, .int .i64 0, .int .i32 0, .string ⟨#[]⟩, .slice none 0 0, .slice none 0 0, .int .i64 0, .int .i32 0, .int .i32 0, .bool false, .int .i64 0, .int .i64 0, .int .i64 0, .int .i32 0, .slice none 0 0, .slice none 0 0, .int .i32 0, .slice none 0 0] 35 (0, 0))) (hxl : w0.heap.size ≤ xb) :
    Calls Tryz.prog 61 #[.slice A n c, .func (.func 62) #[] #[.pointer (some ⟨xb, 0, none⟩)]] w (AllD xb l w) := by
  have HR := Lib.hid (readDl_any hB hE hg hb hx hxl)
  have hlen := hB.1.len
  have HIN := Lib.hid (readP_in l)
  have HB := Lib.hid hb.size
  have HAL := Lib.hid (show allP l = match readP l with | .error e => .error e | .ok (d, p) => if p < l.length then .error (p, 21) else .ok (d, p) from rfl)
  clear hB hE hg hb hx hxl
  go_enter Tryz.func61, Tryz.ntmps61
  go_wp2_with fail
  refine HR.out.mono ?_
  rintro e w' ⟨hf, W, hW, hm⟩
  rcases hX : readP l with ⟨q, k⟩ | ⟨v, q⟩
  · rw [hX] at hm
    obtain ⟨rfl, -⟩ := hm
    have hk : k ≠ 0 := by have := HIN.out; rw [hX] at this; exact this.2
    have hk1 : (k == 0) = false := beq_eq_false_iff_ne.2 hk
    have HEND := Lib.hid (show AllD xb l w (.returned (.tuple #[.int .i64 (q : Int), .int .i64 k])) w' from ⟨hf, q, k, rfl, .inl ⟨hk, by rw [HAL.out, hX]⟩⟩)
    clear hf hW hk hX
    go_wp2_with fail
    go_ret2
    exact HEND.out
  · rw [hX] at hm
    obtain ⟨rfl, hP⟩ := hm
    have HDC := Lib.hid hP
    have hWs : w.heap.size ≤ W.heap.size := hW.size
    by_cases hq : q < l.length
    · have hq1 : (q : Int) < (n : Int) := by omega
      have HEND := Lib.hid (show AllD xb l w (.returned (.tuple #[.int .i64 (q : Int), .int .i64 21])) w' from ⟨hf, q, 21, rfl, .inl ⟨by decide, by rw [HAL.out, hX]; show (if _ then _ else _) = _; rw [if_pos hq]⟩⟩)
      clear hf hW hX hP
      go_wp2_with fail
      go_ret2
      exact HEND.out
    · have hq1 : ¬ (q : Int) < (n : Int) := by omega
      have HEND := Lib.hid (show AllD xb l w (.returned (.tuple #[.int .i64 (q : Int), .int .i64 0])) w' from ⟨hf, q, 0, rfl, .inr ⟨rfl, v, W.heap.size, by rw [HAL.out, hX]; show (if _ then _ else _) = _; rw [if_neg hq], hWs, HDC.out⟩⟩)
      clear hf hW hX hP
      go_wp2_with fail
      go_ret2
      exact HEND.out
theorem wpList_bdDl {ops : Array Oper} {rest : List Oper} {o : Oper} {a : Act} {w : World} {Q : Exit → Act → World → Prop} (hg : o.guard = none) (ho : o.op = .build 35 #[]) (h : wpList Tryz.prog ops Q rest (a.put o.dst (.agg #[.int .i64 0, .int .i32 0, .int .i64 0, .int .i64 0, .int .i32 0, .string ⟨#[]⟩, .slice none 0 0, .slice none 0 0, .int .i64 0, .int .i32 0, .int .i32 0, .bool false, .int .i64 0, .int .i64 0, .int .i64 0, .int .i32 0, .slice none 0 0, .slice none 0 0, .int .i32 0, .slice none 0 0])) w) : wpList Tryz.prog ops Q (o :: rest) a w := by
  have e : Tryz.prog.built 35 ((#[] : Array (Nat × Operand)).map fun (i, x) => (i, a.eval x)).toList = some #[.int .i64 0, .int .i32 0, .int .i64 0, .int .i64 0, .int .i32 0, .string ⟨#[]⟩, .slice none 0 0, .slice none 0 0, .int .i64 0, .int .i32 0, .int .i32 0, .bool false, .int .i64 0, .int .i64 0, .int .i64 0, .int .i32 0, .slice none 0 0, .slice none 0 0, .int .i32 0, .slice none 0 0] := by
    have : Tryz.prog.built 35 [] = some #[.int .i64 0, .int .i32 0, .int .i64 0, .int .i64 0, .int .i32 0, .string ⟨#[]⟩, .slice none 0 0, .slice none 0 0, .int .i64 0, .int .i32 0, .int .i32 0, .bool false, .int .i64 0, .int .i64 0, .int .i64 0, .int .i32 0, .slice none 0 0, .slice none 0 0, .int .i32 0, .slice none 0 0] := by kernel_rfl
    simpa using this
  refine wpList_build hg 35 #[] ho (by rw [e]; rfl) ?_
  rw [e]
  exact h
theorem oneDl (h : DlH) : (encDl h).toArray.all (·.oneCell') = true := by simp [encDl, encTx, Value.oneCell']
theorem results_cellT3 {fn : Func} {p q r : Tmp} {ty : TypeId} (h : fn.results = #[.cell p ty, .tmp q, .tmp r]) (tmps : Array Value) (P : Program) (w : World) :
    (results fn tmps).run P w = ((asAddr (tmps.getD p undef)).run P w).andThen fun a w₁ => ((loadVar ty a).run P w₁).andThen fun v w₂ => .ok (.tuple #[v, tmps.getD q undef, tmps.getD r undef]) w₂ := by
  simp only [results, h]
  simp [Sem.run_bind, Result.andThen]
/-- a function's end whose results are a struct in a variable and two values -/
theorem bodyPost_cellT3 {P : Program} {fn : Func} {Q : Ending → World → Prop} {a : Act} {w : World} {p q r : Tmp} {ty t : TypeId} {g : Nat} {cs : Array Value} {d : TypeDesc} {v u : Value} (h : fn.results = #[.cell p ty, .tmp q, .tmp r]) (hx : a.tmps.getD p undef = .pointer (some ⟨g, 0, none⟩))
    (hv : a.tmps.getD q undef = v) (hv2 : a.tmps.getD r undef = u) (hg : w.heap[g]? = some (.cells cs t (0, 0))) (hu : P.underlying ty = some d) (hd : d.isRow = true) (hi : (P.info? ty).map (·.size) = some cs.size) (hdf : a.defers = []) (hq : Q (.returned (.tuple #[.agg cs, v, u])) w) : bodyPost P fn Q .ret a w := by
  refine bodyPost_ret ((results_cellT3 h _ _ _).trans ?_) hdf hq
  have h1 := res_cell (P := P) (w := w) hx hg hu hd hi
  rw [hv, hv2]
  cases hx2 : (asAddr (a.tmps.getD p undef)).run P w with
  | ok ad w1 =>
    rw [hx2] at h1
    simp only [Result.andThen_ok] at h1 ⊢
    rw [h1]; rfl
  | _ => rw [hx2] at h1; cases h1
/-- what Decode answers -/
def DecP (w : World) (l : Bs) (e : Ending) (w' : World) : Prop := Below w.heap.size w w' ∧ ∃ h : DlH, e = .returned (.tuple #[dlV h, .int .i64 ((decD l).2.1 : Int), .int .i64 (decD l).2.2]) ∧ DlAt w' (NfR w' w.heap.size) h (decD l).1
def zDl : DlH := ⟨0, 0, 0, 0, ⟨⟨0, ⟨#[]⟩, 0, 0, 0, false, 0, 0, 0, 0, 0⟩, (none, 0, 0), (none, 0, 0), (none, 0, 0), (none, 0, 0), (none, 0, 0)⟩⟩
theorem noDl_at (w : World) (R : Nat → Prop) : DlAt w R zDl noDl :=
  ⟨⟨rfl, rfl, rfl, rfl⟩, TrAt.of_subs (L := []) ⟨rfl, SlR.nil_, SlR.nil_, SlR.nil_, SlR.nil_⟩ rfl SlR.nil_ (fun j hj => absurd hj (by show ¬ j < 0; omega))⟩
set_option linter.unusedSimpArgs false in
set_option maxRecDepth 100000 in
set_option maxHeartbeats 8000000 in
theorem decode_of {w : World} {n c : Nat} {A : Option Addr} {l : Bs} (hB : ArgC w A n c l) (hE : Env w) (hg : GetsAll l) (hsm : ∀ d p, readP l = .ok (d, p) → DlSm 1048576 d) : Calls Tryz.prog 28 #[.slice A n c] w (DecP w l) := by
  have hb1 : Below w.heap.size w (w.alloc (.cells #[.int .i64 0, .int .i32 0, .int .i64 0, .int .i64 0, .int .i32 0, .string ⟨#[]⟩, .slice none 0 0, .slice none 0 0, .int .i64 0, .int .i32 0, .int .i32 0, .bool false, .int .i64 0, .int .i64 0, .int .i64 0, .int .i32 0, .slice none 0 0, .slice none 0 0, .int .i32 0, .slice none 0 0] 35)) := (Below.refl _ w).alloc (Nat.le_refl _) _
  have hb2 : Below w.heap.size w ((w.alloc (.cells #[.int .i64 0, .int .i32 0, .int .i64 0, .int .i64 0, .int .i32 0, .string ⟨#[]⟩, .slice none 0 0, .slice none 0 0, .int .i64 0, .int .i32 0, .int .i32 0, .bool false, .int .i64 0, .int .i64 0, .int .i64 0, .int .i32 0, .slice none 0 0, .slice none 0 0, .int .i32 0, .slice none 0 0] 35)).alloc (.cells #[.int .i64 0, .int .i32 0, .int .i64 0, .int .i64 0, .int .i32 0, .string ⟨#[]⟩, .slice none 0 0, .slice none 0 0, .int .i64 0, .int .i32 0, .int .i32 0, .bool false, .int .i64 0, .int .i64 0, .int .i64 0, .int .i32 0, .slice none 0 0, .slice none 0 0, .int .i32 0, .slice none 0 0] 35)) := hb1.alloc hb1.size _
  have HA := Lib.hid (allDl_any hB hE hg hb2 (heap_s1 w (.cells #[.int .i64 0, .int .i32 0, .int .i64 0, .int .i64 0, .int .i32 0, .string ⟨#[]⟩, .slice none 0 0, .slice none 0 0, .int .i64 0, .int .i32 0, .int .i32 0, .bool false, .int .i64 0, .int .i64 0, .int .i64 0, .int .i32 0, .slice none 0 0, .slice none 0 0, .int .i32 0, .slice none 0 0] 35) (.cells #[.int .i64 0, .int .i32 0, .int .i64 0, .int .i64 0, .int .i32 0, .string ⟨#[]⟩, .slice none 0 0, .slice none 0 0, .int .i64 0, .int .i32 0, .int .i32 0, .bool false, .int .i64 0, .int .i64 0, .int .i64 0, .int .i32 0, .slice none 0 0, .slice none 0 0, .int .i32 0, .slice none 0 0] 35)) (Nat.le_succ _))
  have hmf : ∀ (fn : Fn) (first cap : Array Value) (w : World), (Instr.makeFunc fn first cap).run Tryz.prog w = .ok (.func fn first cap) w := fun _ _ _ _ => rfl
  have HG0 := Lib.hid (heap_under (o := (.cells #[.int .i64 0, .int .i32 0, .int .i64 0, .int .i64 0, .int .i32 0, .string ⟨#[]⟩, .slice none 0 0, .slice none 0 0, .int .i64 0, .int .i32 0, .int .i32 0, .bool false, .int .i64 0, .int .i64 0, .int .i64 0, .int .i32 0, .slice none 0 0, .slice none 0 0, .int .i32 0, .slice none 0 0] 35)) (heap_s0 w (.cells #[.int .i64 0, .int .i32 0, .int .i64 0, .int .i64 0, .int .i32 0, .string ⟨#[]⟩, .slice none 0 0, .slice none 0 0, .int .i64 0, .int .i32 0, .int .i32 0, .bool false, .int .i64 0, .int .i64 0, .int .i64 0, .int .i32 0, .slice none 0 0, .slice none 0 0, .int .i32 0, .slice none 0 0] 35)))
  have HZ := Lib.hid (sz2 w (.cells #[.int .i64 0, .int .i32 0, .int .i64 0, .int .i64 0, .int .i32 0, .string ⟨#[]⟩, .slice none 0 0, .slice none 0 0, .int .i64 0, .int .i32 0, .int .i32 0, .bool false, .int .i64 0, .int .i64 0, .int .i64 0, .int .i32 0, .slice none 0 0, .slice none 0 0, .int .i32 0, .slice none 0 0] 35) (.cells #[.int .i64 0, .int .i32 0, .int .i64 0, .int .i64 0, .int .i32 0, .string ⟨#[]⟩, .slice none 0 0, .slice none 0 0, .int .i64 0, .int .i32 0, .int .i32 0, .bool false, .int .i64 0, .int .i64 0, .int .i64 0, .int .i32 0, .slice none 0 0, .slice none 0 0, .int .i32 0, .slice none 0 0] 35))
  have HB := Lib.hid hb2; have HE := Lib.hid hE
  have HLEN := Lib.hid hB.1.len
  have HSM := Lib.hid (fun d p (h : allP l = .ok (d, p)) => hsm d p (by
    unfold allP at h
    split at h
    · cases h
    · rename_i d2 p2 he
      split at h
      · cases h
      · rw [he, h]))
  clear hb1 hb2 hB hE hg hsm
  go_enter Tryz.func28, Tryz.ntmps28
  go_upto_region 2 with fail
  generalize (w.alloc (.cells #[.int .i64 0, .int .i32 0, .int .i64 0, .int .i64 0, .int .i32 0, .string ⟨#[]⟩, .slice none 0 0, .slice none 0 0, .int .i64 0, .int .i32 0, .int .i32 0, .bool false, .int .i64 0, .int .i64 0, .int .i64 0, .int .i32 0, .slice none 0 0, .slice none 0 0, .int .i32 0, .slice none 0 0] 35)).alloc (.cells #[.int .i64 0, .int .i32 0, .int .i64 0, .int .i64 0, .int .i32 0, .string ⟨#[]⟩, .slice none 0 0, .slice none 0 0, .int .i64 0, .int .i32 0, .int .i32 0, .bool false, .int .i64 0, .int .i64 0, .int .i64 0, .int .i32 0, .slice none 0 0, .slice none 0 0, .int .i32 0, .slice none 0 0] 35) = W at *
  go_wp2_with fail
  refine HA.out.mono ?_
  rintro e w1 ⟨hf, p, k, rfl, hm⟩
  have HB1 := Lib.hid (HB.out.trans (hf.below HB.out.size (by simp)))
  have gZ := (hf.block w.heap.size (by have := HZ.out; omega) (by simp)).trans HG0.out
  clear hf hmf
  rcases hm with ⟨hk, hal⟩ | ⟨rfl, v, B, hal, hBw, hdc⟩
  · have HD := Lib.hid (show decD l = (noDl, p, k) by rw [decD_all, hal])
    have hk1 : (k == 0) = false := beq_eq_false_iff_ne.2 hk
    have hk2 : (k != 0) = true := bne_iff_ne.2 hk
    clear hk hal
    go_wp2_with (first | (refine wpList_bdDl rfl rfl ?_) | (apply wpList_storeRow 35 35; exact rfl; exact rfl; exact rfl; exact rfl; assumption; exact infDl; exact rfl; (first | exact oneDl _ | simp [Value.oneCell'])) | fail)
    refine bodyPost_cellT3 rfl rfl rfl rfl (setRow_heap _ _ _ _ _ _ gZ) undDl rfl infDl rfl ?_
    refine ⟨below_setRow HB1.out (Nat.le_refl _) _, zDl, ?_, ?_⟩
    · rw [HD.out]; rfl
    · rw [HD.out]; exact noDl_at _ _
  · obtain ⟨h, hr, hd1, hd2⟩ := hdc
    have hsm := HSM.out v p hal
    have HRI := Lib.hid (right13_any h v w1 _ ⟨hd1, hd2⟩ (HE.out.below (Nat.le_refl _) HB1.out) hsm)
    have HDA := Lib.hid (show DlAt w1 (NfR w1 (w.heap.size + 2)) h v from ⟨hd1, TrAt.fr kTxOk hd2 (Fr.refl [] w1) fun b _ hb => ⟨by simp, by have := hb.1; have := HZ.out; omega, hb.2⟩⟩)
    have hll : ((l.length : Nat) : Int) = (n : Int) := by rw [HLEN.out]
    have HAL := Lib.hid hal
    have y5 := hr
    clear hd1 hd2 hsm hal hr
    go_wp2_with (first | (apply wpList_loadMid 35; exact rfl; exact rfl; exact rfl; exact (by assumption); exact undDl; exact rfl; exact infDl) | fail)
    refine HRI.out.mono ?_
    rintro e w2 ⟨rfl, hb2⟩
    have HB2 := Lib.hid (HB1.out.trans (hb2.mono HB1.out.size))
    have gZ2 := (hb2.block w.heap.size (Array.getElem?_eq_some_iff.1 gZ).1).trans gZ
    have y6 : w2.rangeAt (w.heap.size + 1) 0 (encDl h) := fun i u hu => (hb2.cell (World.block_lt_of_cell? w1 _ (y5 i u hu))).trans (y5 i u hu)
    have HDA2 := Lib.hid (show DlAt w2 (NfR w2 (w.heap.size + 2)) h v from ⟨HDA.out.1, TrAt.fr kTxOk HDA.out.2 (Fr.of_below (own := []) hb2) fun b _ hb => ⟨by simp, hb.below hb2⟩⟩)
    clear hb2 y5 gZ HDA HRI
    by_cases hr0 : rightE v = 0
    case neg =>
      have HD := Lib.hid (show decD l = (noDl, l.length, rightE v) by rw [decD_all, HAL.out]; show (if _ then _ else _) = _; rw [if_pos hr0])
      rw [← hll] at *
      generalize rightE v = x at *
      have hk2 : (x != 0) = true := bne_iff_ne.2 hr0
      clear hr0 y6
      go_wp2_with (first | (refine wpList_bdDl rfl rfl ?_) | (apply wpList_storeRow 35 35; exact rfl; exact rfl; exact rfl; exact rfl; assumption; exact infDl; exact rfl; (first | exact oneDl _ | simp [Value.oneCell'])) | fail)
      refine bodyPost_cellT3 rfl rfl rfl rfl (setRow_heap _ _ _ _ _ _ gZ2) undDl rfl infDl rfl ?_
      refine ⟨below_setRow HB2.out (Nat.le_refl _) _, zDl, ?_, ?_⟩
      · rw [HD.out]; rfl
      · rw [HD.out]; exact noDl_at _ _
    have HD := Lib.hid (show decD l = (v, 0, 0) by rw [decD_all, HAL.out]; show (if _ then _ else _) = _; rw [if_neg (by rw [hr0]; simp)])
    rw [hr0]
    clear hr0
    have hfz := fr_setRow9 w2 w.heap.size (encDl h).toArray
    go_wp2_with (first | (apply wpList_loadMid 35; exact rfl; exact rfl; exact rfl; exact (by assumption); exact undDl; exact rfl; exact infDl) | (apply wpList_storeRow 35 35; exact rfl; exact rfl; exact rfl; exact rfl; assumption; exact infDl; exact rfl; (first | exact oneDl _ | simp [Value.oneCell'])) | fail)
    refine bodyPost_cellT3 rfl rfl rfl rfl (setRow_heap _ _ _ _ _ _ gZ2) undDl rfl infDl rfl ?_
    refine ⟨below_setRow HB2.out (Nat.le_refl _) _, h, ?_, ?_⟩
    · rw [HD.out]; rfl
    · rw [HD.out]
      refine ⟨HDA2.out.1, TrAt.fr kTxOk HDA2.out.2 hfz fun b _ hb => ⟨?_, hb.fr hfz ?_ (Nat.le_add_right _ 2)⟩⟩
      all_goals (have := hb.1; simp; omega)
end Go.Proofs.YthpjneobmmpbnaaGreatDoor
namespace Go.Proofs.YthpjneobmmpbnaaGreatDoor
open Go.RowKit Go.MapKept Go.Maps
/-- blocks of what a function made: kept through frames -/
structure RKind (RR : World → Nat → Nat → Prop) : Prop where
  fr : ∀ {w w' : World} {B B' b : Nat} {own : List Nat}, b < w.heap.size → RR w B b → Fr own w w' → b ∉ own → B' ≤ B → RR w' B' b
theorem kNf : RKind NfR := ⟨fun _ h hf hn hB => h.fr hf hn hB⟩
theorem kGe : RKind (fun _ B b => B ≤ b) := ⟨fun _ h _ _ hB => Nat.le_trans hB h⟩
/-- the transaction that takes a node away -/
def delN (p : ByteArray) : TxN := ⟨2, p, 0, 0, 0, false, 0, 0, 0, 0, 0⟩
def delH (p : ByteArray) : TxH := ⟨delN p, (none, 0, 0), (none, 0, 0), (none, 0, 0), (none, 0, 0), (none, 0, 0)⟩
def delT (p : ByteArray) : TxT := .mk ⟨delN p, [], [], [], []⟩ []
theorem del_at (w : World) (R : Nat → Prop) (p : ByteArray) : TxAt w R (delH p) (delT p) :=
  .mk _ _ [] (fun _ => default) 0 0 ⟨rfl, SlR.nil_, SlR.nil_, SlR.nil_, SlR.nil_⟩ rfl ⟨fun _ => ⟨rfl, rfl⟩, Nat.le_refl _⟩ (fun h => absurd h (by show ¬ 0 < 0; omega)) (fun j hj => absurd hj (by show ¬ j < 0; omega)) (fun j hj => absurd hj (by show ¬ j < 0; omega))
theorem del_ok {p : ByteArray} (hp : p.size ≤ 1048576) : TxOk 1048576 (delT p) := by
  have z32 : in32 0 := by unfold in32; omega
  have z64 : in64 0 := by unfold in64; omega
  refine .mk _ _ ?_ (fun j hj => absurd hj (by simp))
  refine ⟨⟨by show in32 2; unfold in32; omega, z64, z32, z32, z64, z64, z64, z32, z32⟩, hp, Nat.zero_le _, Nat.zero_le _, Nat.zero_le _, Nat.zero_le _, Nat.zero_le _, ?_, ?_, ?_⟩ <;> exact fun j hj => absurd hj (by simp)
/-- a delta's transactions, one by one -/
def stepsL (t : TxT) : List TxT := if t.v.n.ty = 14 then t.subs else if t.v.n.ty = -11 then t.v.paths.map delT else if t.v.n.ty = -1 ∨ t.v.n.ty = -10 then [] else [t]
def notCk (t : TxT) : Bool := t.v.n.ty != 13
noncomputable def stepsD (d : DlT) : List TxT := if rightE d ≠ 0 then [] else (stepsL d.t).filter notCk
/-- the first k of a list that are no checks -/
def stK (l : List TxT) (k : Nat) : List TxT := (l.take k).filter notCk
theorem takeS {α : Type} [Inhabited α] (l : List α) {k : Nat} (hk : k < l.length) : l.take (k + 1) = l.take k ++ [l[k]!] := by
  rw [List.take_succ_eq_append_getElem hk, getElem!_pos l k hk]
theorem stK_skip {l : List TxT} {k : Nat} (hk : k < l.length) (h : notCk l[k]! = false) : stK l (k + 1) = stK l k := by
  unfold stK; rw [takeS l hk, List.filter_append, List.filter_cons_of_neg (by rw [h]; simp), List.filter_nil, List.append_nil]
theorem stK_next {l : List TxT} {k : Nat} (hk : k < l.length) (h : notCk l[k]! = true) : stK l (k + 1) = stK l k ++ [l[k]!] := by
  unfold stK; rw [takeS l hk, List.filter_append, List.filter_cons_of_pos h, List.filter_nil]
theorem stK_all (l : List TxT) : stK l l.length = l.filter notCk := by unfold stK; rw [List.take_length]
theorem stK_le (l : List TxT) (k : Nat) : (stK l k).length ≤ k := by
  unfold stK; exact Nat.le_trans (List.length_filter_le _ _) (by rw [List.length_take]; omega)
/-- the list that Steps makes, behind the world W: m transactions, those of xs -/
structure LsR (RR : World → Nat → Nat → Prop) (B : Nat) (xs : List TxT) (A : Option Addr) (c : Nat) (wr : World) : Prop where
  r : ∃ Hs : List TxH, wr.ownsRow B 33 16 (.slice A xs.length c) xs.length (Hs.flatMap encTx) ∧ Hs.length = xs.length ∧ ∀ j, j < xs.length → TxAt wr (fun b => RR wr B b ∧ offRow A b) Hs[j]! xs[j]!
theorem LsR.nil {RR : World → Nat → Nat → Prop} {B : Nat} {wr : World} : LsR RR B [] none 0 wr := ⟨⟨[], World.ownsRow_nil _ _ _ _, rfl, fun j hj => absurd hj (by simp)⟩⟩
theorem LsR.below {RR : World → Nat → Nat → Prop} (K : RKind RR) {B : Nat} {xs : List TxT} {A : Option Addr} {c : Nat} {wr w6 : World} (H : LsR RR B xs A c wr) (hb : Below wr.heap.size wr w6) : LsR RR B xs A c w6 := by
  obtain ⟨Hs, h1, h2, h3⟩ := H.r
  exact ⟨⟨Hs, own_later h1 hb, h2, fun j hj => (h3 j hj).fr kTxOk (Fr.of_below (own := []) hb) (fun b hlt h => ⟨by simp, K.fr hlt h.1 (Fr.of_below (own := []) hb) (by simp) (Nat.le_refl _), h.2⟩)⟩⟩
theorem LsR.mono {RR : World → Nat → Nat → Prop} (K : RKind RR) {B B' : Nat} {xs : List TxT} {A : Option Addr} {c : Nat} {wr : World} (H : LsR RR B xs A c wr) (hB : B' ≤ B) : LsR RR B' xs A c wr := by
  obtain ⟨Hs, h1, h2, h3⟩ := H.r
  exact ⟨⟨Hs, own_mono h1 hB, h2, fun j hj => (h3 j hj).fr kTxOk (Fr.refl [] wr) (fun b hlt h => ⟨by simp, K.fr hlt h.1 (Fr.refl [] wr) (by simp) hB, h.2⟩)⟩⟩
/-- one more: its parts lie in blocks made behind wr, its row is appended -/
theorem LsR.step {RR : World → Nat → Nat → Prop} (K : RKind RR) {B : Nat} {xs : List TxT} {x : TxT} {A : Option Addr} {c : Nat} {wr w6 w7 w8 : World} (hb : Below wr.heap.size wr w6) {h6 : TxH} (ht : TxAt w6 (fun b => wr.heap.size ≤ b ∧ RR w6 B b) h6 x) (hb7 : Below w6.heap.size w6 w7) {A' : Option Addr} {c' : Nat} {Hs : List TxH}
    (hr : wr.ownsRow B 33 16 (.slice A xs.length c) xs.length (Hs.flatMap encTx)) (hHl : Hs.length = xs.length) (hHt : ∀ j, j < xs.length → TxAt wr (fun b => RR wr B b ∧ offRow A b) Hs[j]! xs[j]!)
    (hown : w8.ownsRow B 33 16 (.slice A' (xs.length + 1) c') (xs.length + 1) ((Hs ++ [h6]).flatMap encTx)) (hon : OnT A A' w7 w8) : LsR RR B (xs ++ [x]) A' c' w8 := by
  have hb67 : Below wr.heap.size wr w7 := hb.trans (hb7.mono hb.size)
  obtain ⟨own, hf, hk, hoA⟩ := hon.keep
  have hAlt : ∀ b, wr.heap.size ≤ b → offRow A b := fun b hb o e => by
    rcases own_at hr with ⟨e2, _⟩ | ⟨g2, cur, e2, _, h3, _⟩
    · rw [e2] at e; cases e
    · rw [e2] at e; injection e with e; injection e with e3 _
      have := (Array.getElem?_eq_some_iff.1 h3).1; omega
  have hF : Fr own wr w8 := ⟨hf.os.trans hb67.os, hf.tape.trans hb67.tape, hf.output.trans hb67.output, Nat.le_trans hb67.size hf.size, fun g hg hn => (hf.block g (Nat.lt_of_lt_of_le hg hb67.size) hn).trans (hb67.block g hg)⟩
  have mv : ∀ b, b < wr.heap.size → (RR wr B b ∧ offRow A b) → b ∉ own ∧ RR w8 B b ∧ offRow A' b := fun b hlt h => by
    have h1 := hk b (Nat.lt_of_lt_of_le hlt hb67.size) h.2
    exact ⟨h1.1, K.fr hlt h.1 hF h1.1 (Nat.le_refl _), h1.2⟩
  refine ⟨⟨Hs ++ [h6], by rw [List.length_append]; exact hown, by rw [List.length_append, List.length_append, hHl]; rfl, fun j hj => ?_⟩⟩
  by_cases e : j < xs.length
  · rw [nth_snoc _ _ _ (by rw [hHl]; exact e), nth_snoc _ _ _ e]
    exact (hHt j e).fr kTxOk hF mv
  · obtain rfl : j = xs.length := by rw [List.length_append] at hj; simp at hj; omega
    rw [show (Hs ++ [h6])[xs.length]! = h6 by have := nth_last Hs h6; rw [hHl] at this; exact this, nth_last]
    have hFb := Fr.of_below (own := []) hb7
    refine (ht.fr kTxOk (R' := fun b => wr.heap.size ≤ b ∧ RR w7 B b) hFb (fun b hlt h => ⟨by simp, h.1, K.fr hlt h.2 hFb (by simp) (Nat.le_refl _)⟩)).fr kTxOk hf (fun b hlt h => ?_)
    have h1 := hk b hlt (hAlt b h.1)
    exact ⟨h1.1, K.fr hlt h.2 hf h1.1 (Nat.le_refl _), h1.2⟩
/-- where the transactions lie that a loop of Steps reads -/
structure SrR (ls : List TxT) (A : Option Addr) (n c : Nat) (W : World) : Prop where
  r : ∃ Ls : List TxH, SlR W (fun _ => True) encTx 16 (A, n, c) Ls ∧ (∀ j, j < n → TxAt W (fun _ => True) Ls[j]! ls[j]!) ∧ ls.length = n ∧ n ≤ 1048576 ∧ ∀ j, j < n → TxOk 1048576 ls[j]!
theorem SrR.below {ls : List TxT} {A : Option Addr} {n c : Nat} {W W' : World} (H : SrR ls A n c W) (hb : Below W.heap.size W W') : SrR ls A n c W' := by
  obtain ⟨Ls, h1, h2, h3⟩ := H.r
  exact ⟨⟨Ls, h1.fr (Fr.of_below (own := []) hb) (fun b _ _ => ⟨by simp, trivial⟩) (fun _ => by simp [encTx]), fun j hj => (h2 j hj).fr kTxOk (Fr.of_below (own := []) hb) (fun b _ _ => ⟨by simp, trivial⟩), h3⟩⟩
/-- the contract of Steps -/
def StepsP (RR : World → Nat → Nat → Prop) (l : List TxT) (w : World) (e : Ending) (w' : World) : Prop := (∃ A c, e = .returned (.slice A l.length c) ∧ LsR RR w.heap.size l A c w') ∧ Below w.heap.size w w'
theorem stepsD_no {d : DlT} (h : rightE d ≠ 0) : stepsD d = [] := by unfold stepsD; rw [if_pos h]
theorem stepsD_ok {d : DlT} (h : rightE d = 0) : stepsD d = (stepsL d.t).filter notCk := by unfold stepsD; rw [if_neg (by simp [h])]
end Go.Proofs.YthpjneobmmpbnaaGreatDoor
namespace Go.Proofs.YthpjneobmmpbnaaGreatDoor
open Go.RowKit Go.MapKept Go.Maps
open Go.ChangeMaps (setBlock heap_setBlock_same heap_setBlock_other)
set_option linter.unusedSectionVars false
/-- a kind of keys -/
structure KeyK (α : Type) where
  T : TypeId
  f : α → Value
  inj : ∀ {x y : α}, f x = f y → x = y
  law : Keyed Tryz.prog T
  ok : α → Prop
  key : ∀ a, ok a → ∃ kl, keyOf Tryz.prog T (f a) = some kl
def kInt : KeyK Int := ⟨2, fun i => .int .i64 i, fun h => by injection h, lawInt, wfI, fun _ h => ⟨_, keyInt h⟩⟩
/-- block b of w is a map of these keys and values -/
def MapK {α : Type} (K : KeyK α) (w : World) (b : Nat) (l : List (α × Value)) : Prop := MapV w Tryz.prog K.T b (l.map fun x => (K.f x.1, x.2))
theorem erase_filterK {α : Type} [DecidableEq α] : ∀ (l : List (α × Value)) (j : Nat) (x : α × Value) (i : α), l[j]? = some x → x.1 = i → (l.map (·.1)).Nodup → l.eraseIdx j = l.filter (fun x => decide (x.1 ≠ i))
  | [], _, _, _, h, _, _ => by simp at h
  | y :: r, 0, x, i, h, e, hn => by
    have hyx : y = x := by simpa using h
    rw [List.map_cons, List.nodup_cons] at hn
    have hyi : y.1 = i := by rw [hyx]; exact e
    rw [List.eraseIdx_cons_zero, List.filter_cons_of_neg (by simp [hyi])]
    symm
    rw [List.filter_eq_self]
    intro z hz
    have : z.1 ≠ i := fun e2 => hn.1 (List.mem_map.2 ⟨z, hz, e2.trans hyi.symm⟩)
    simpa using this
  | y :: r, j + 1, x, i, h, e, hn => by
    rw [List.getElem?_cons_succ] at h
    rw [List.map_cons, List.nodup_cons] at hn
    have hy : y.1 ≠ i := fun e2 => hn.1 (List.mem_map.2 ⟨x, List.mem_of_getElem? h, e.trans e2.symm⟩)
    rw [List.eraseIdx_cons_succ, List.filter_cons_of_pos (by simpa using hy), erase_filterK r j x i h e hn.2]
section
variable {α : Type} [DecidableEq α] {K : KeyK α} {w w' : World} {t e : TypeId} {b : Nat} {l : List (α × Value)}
theorem MapK.made (w : World) : MapK K (w.alloc (.map #[] 0)) w.heap.size [] := MapV.made _ _ _
theorem MapK.lt (h : MapK K w b l) : b < w.heap.size := MapV.lt h
theorem MapK.of_heap (h : MapK K w b l) (hh : w'.heap[b]? = w.heap[b]?) : MapK K w' b l := MapV.of_heap h hh
theorem MapK.apart (h : MapK K w b l) : (l.map (·.1)).Nodup := by
  have := MapV.apart h
  rw [List.pairwise_map] at this
  show (l.map (·.1)).Pairwise (· ≠ ·)
  rw [List.pairwise_map]
  exact this.imp fun {a b} hne e => hne (by rw [e])
theorem MapK.lookup (h : MapK K w b l) (ht : Tryz.prog.underlying t = some (.map K.T e)) (c : Bool) {z : Value} (hz : ∀ w : World, (zeroValue e).run Tryz.prog w = .ok z w) {i : α} (hi : K.ok i) :
    (∃ v, (i, v) ∈ l ∧ ∀ w' : World, w'.heap[b]? = w.heap[b]? → (Instr.lookup t (.map (some b)) (K.f i) c).run Tryz.prog w' = .ok (if c then .tuple #[v, .bool true] else v) w') ∨
    ((∀ p ∈ l, p.1 ≠ i) ∧ ∀ w' : World, w'.heap[b]? = w.heap[b]? → (Instr.lookup t (.map (some b)) (K.f i) c).run Tryz.prog w' = .ok (if c then .tuple #[z, .bool false] else z) w') := by
  rcases MapV.lookup h K.law ht c hz (K.key i hi).choose_spec with ⟨v, hm, hr⟩ | ⟨hn, hr⟩
  · obtain ⟨x, hx, ex⟩ := List.mem_map.1 hm
    have e1 : x.1 = i := K.inj (congrArg Prod.fst ex)
    have e2 : x.2 = v := congrArg Prod.snd ex
    exact .inl ⟨v, by rw [← e1, ← e2]; exact hx, hr⟩
  · exact .inr ⟨fun p hp e => hn _ (List.mem_map.2 ⟨p, hp, rfl⟩) (by rw [e]), hr⟩
theorem MapK.update (h : MapK K w b l) (ht : Tryz.prog.underlying t = some (.map K.T e)) {i : α} (hi : K.ok i) (val : Value) :
    ∃ w' l', (Instr.mapUpdate t (.map (some b)) (K.f i) val).run Tryz.prog w = .ok () w' ∧ MapK K w' b l' ∧ w.grownBy w' (some b) ∧ w'.heap.size = w.heap.size ∧
      (((∀ p ∈ l, p.1 ≠ i) ∧ l' = l ++ [(i, val)]) ∨ ∃ j old, l[j]? = some (i, old) ∧ l' = l.set j (i, val)) := by
  obtain ⟨w', l', h1, h2, h3, h4, h5⟩ := MapV.update (val := val) h K.law ht (K.key i hi).choose_spec
  rcases h5 with ⟨hn, rfl⟩ | ⟨j, old, hj, rfl⟩
  · exact ⟨w', l ++ [(i, val)], h1, by show MapV _ _ _ _ _; rw [List.map_append]; exact h2, h3, h4, .inl ⟨fun p hp e => hn _ (List.mem_map.2 ⟨p, hp, rfl⟩) (by rw [e]), rfl⟩⟩
  · rw [List.getElem?_map] at hj
    cases hl : l[j]? with
    | none => rw [hl] at hj; cases hj
    | some x =>
      rw [hl] at hj
      have hj : ((K.f x.1, x.2) : Value × Value) = (K.f i, old) := by simpa using hj
      have e1 : x.1 = i := K.inj (congrArg Prod.fst hj)
      have e2 : x.2 = old := congrArg Prod.snd hj
      refine ⟨w', l.set j (i, val), h1, by show MapV _ _ _ _ _; rw [List.map_set]; exact h2, h3, h4, .inr ⟨j, old, by rw [hl, ← e1, ← e2], rfl⟩⟩
theorem MapK.delete {ty : TypeId} (h : MapK K w b l) (ht : Tryz.prog.underlying t = some (.map K.T e)) {i : α} (hi : K.ok i) :
    ∃ w' l', (Builtin.delete_ #[t, K.T] ty #[.map (some b), K.f i]).run Tryz.prog w = .ok (.tuple #[]) w' ∧ MapK K w' b l' ∧ w.grownBy w' (some b) ∧ w'.heap.size = w.heap.size ∧ l' = l.filter (fun x => decide (x.1 ≠ i)) := by
  have hap := h.apart
  obtain ⟨w', l', h1, h2, h3, h4, h5⟩ := MapV.delete (ty := ty) h K.law ht (K.key i hi).choose_spec
  rcases h5 with ⟨hn, rfl⟩ | ⟨j, old, hj, rfl⟩
  · refine ⟨w', l, h1, h2, h3, h4, ?_⟩
    symm
    rw [List.filter_eq_self]
    intro x hx
    have : x.1 ≠ i := fun e => hn _ (List.mem_map.2 ⟨x, hx, rfl⟩) (by rw [e])
    simpa using this
  · rw [List.getElem?_map] at hj
    cases hl : l[j]? with
    | none => rw [hl] at hj; cases hj
    | some x =>
      rw [hl] at hj
      have hj : ((K.f x.1, x.2) : Value × Value) = (K.f i, old) := by simpa using hj
      have e1 : x.1 = i := K.inj (congrArg Prod.fst hj)
      have hE : l.eraseIdx j = l.filter (fun x => decide (x.1 ≠ i)) := erase_filterK l j x i hl e1 hap
      refine ⟨w', l.eraseIdx j, h1, ?_, h3, h4, hE⟩
      show MapV _ _ _ _ _
      rw [ChangeMaps.map_eraseIdx]
      exact h2
end
theorem MapK.fr {α : Type} {K : KeyK α} {own : List Nat} {w w' : World} {b : Nat} {l : List (α × Value)} (h : MapK K w b l) (hf : Fr own w w') (hn : b ∉ own) : MapK K w' b l := MapV.of_heap h (hf.block b (MapV.lt h) hn)
theorem pw_injK {α β : Type} (f : α → β) : ∀ {l : List α}, l.Pairwise (fun x y => f x ≠ f y) → ∀ {x y : α}, x ∈ l → y ∈ l → f x = f y → x = y
  | a :: l, h, x, y, hx, hy, e => by
    rw [List.pairwise_cons] at h
    rcases List.mem_cons.1 hx with h1 | h1 <;> rcases List.mem_cons.1 hy with h2 | h2
    · rw [h1, h2]
    · subst h1; exact absurd e (h.1 y h2)
    · subst h2; exact absurd e.symm (h.1 x h1)
    · exact pw_injK f h.2 h1 h2 e
section
variable {α : Type} [DecidableEq α] {K : KeyK α}
/-- block r ranges over block b, a map of these; 'left' says who is still to come -/
def RgK {α : Type} (K : KeyK α) (w : World) (b r : Nat) (l : List (α × Value)) (left : α → Bool) : Prop :=
  r ≠ b ∧ ∃ es clock since seen c0, w.heap[b]? = some (.map es clock) ∧ Stamped es clock ∧ es.toList.map (fun e => (e.key, e.val)) = l.map (fun x => ((K.f x.1, x.2) : Value × Value)) ∧
    w.heap[r]? = some (.mapIter (some b) since seen c0) ∧ (∀ x ∈ es.toList, x.born < since) ∧ since ≤ c0 ∧ since ≤ clock ∧ ∀ x ∈ es.toList, ∀ i, x.key = K.f i → left i = !seen.contains x.born
theorem RgK.keep {w w' : World} {b r : Nat} {l : List (α × Value)} {left : α → Bool} (h : RgK K w b r l left) (h1 : w'.heap[b]? = w.heap[b]?) (h2 : w'.heap[r]? = w.heap[r]?) : RgK K w' b r l left := by
  obtain ⟨hne, es, clock, since, seen, c0, a1, a2, a3, a4, a5⟩ := h
  exact ⟨hne, es, clock, since, seen, c0, h1.trans a1, a2, a3, h2.trans a4, a5⟩
theorem RgK.rlt {w : World} {b r : Nat} {l : List (α × Value)} {left : α → Bool} (h : RgK K w b r l left) : r < w.heap.size := by
  obtain ⟨_, es, clock, since, seen, c0, a1, a2, a3, a4, _⟩ := h
  exact (Array.getElem?_eq_some_iff.1 a4).1
theorem MapK.range {w : World} {b : Nat} {l : List (α × Value)} (h : MapK K w b l) {t e : TypeId} (ht : Tryz.prog.underlying t = some (.map K.T e)) :
    ∃ w', (Instr.range t (.map (some b))).run Tryz.prog w = .ok (.pointer (some ⟨w.heap.size, 0, none⟩)) w' ∧ RgK K w' b w.heap.size l (fun _ => true) ∧ Below w.heap.size w w' ∧ w'.heap.size = w.heap.size + 1 := by
  obtain ⟨es, clock, hb, hs, hl, _⟩ := h
  have hlt := (Array.getElem?_eq_some_iff.1 hb).1
  refine ⟨_, run_range_map w t K.T e b es clock ht hb, ⟨by omega, es, clock, clock, #[], clock, (Below.heap_alloc _ _ b hlt).trans hb, hs, hl, heap_alloc_new _ _, ((stamped_iff es clock).1 hs).1, Nat.le_refl _, Nat.le_refl _, fun x _ i _ => by simp⟩, (Below.refl _ w).alloc (Nat.le_refl _) _, by simp⟩
theorem RgK.next {w : World} {b r : Nat} {l : List (α × Value)} {left : α → Bool} (h : RgK K w b r l left) :
    ((∀ p ∈ l, left p.1 = false) ∧ ∀ ty, (Instr.next (.pointer (some ⟨r, 0, none⟩)) false ty).run Tryz.prog w = .ok (.tuple #[.bool false]) w) ∨
    ∃ i v, (i, v) ∈ l ∧ left i = true ∧ ∃ w', (∀ ty, (Instr.next (.pointer (some ⟨r, 0, none⟩)) false ty).run Tryz.prog w = .ok (.tuple #[.bool true, K.f i, v]) w') ∧ RgK K w' b r l (fun j => left j && decide (j ≠ i)) ∧ w.grownBy w' (some r) ∧ w'.heap.size = w.heap.size ∧ w'.rangeLeft b r < w.rangeLeft b r ∧
      (Instr.entry (.pointer (some ⟨r, 0, none⟩))).run Tryz.prog w' = .ok (.tuple #[K.f i, v]) w' := by
  obtain ⟨hne, es, clock, since, seen, c0, hb, hs, hl, hr, hold, hsc, hsk, hleft⟩ := h
  obtain ⟨_, hbn, hkn⟩ := (stamped_iff es clock).1 hs
  have hbn' : es.toList.Pairwise (fun x y => x.born ≠ y.born) := by
    have := hbn; unfold List.Nodup at this; rwa [List.pairwise_map] at this
  have key : ∀ x ∈ es.toList, ∃ i v, x.key = K.f i ∧ x.val = v ∧ (i, v) ∈ l := fun x hx => by
    have hm : (x.key, x.val) ∈ l.map (fun x => ((K.f x.1, x.2) : Value × Value)) := by rw [← hl]; exact List.mem_map.2 ⟨x, hx, rfl⟩
    obtain ⟨p, hp, e⟩ := List.mem_map.1 hm
    injection e with e1 e2
    exact ⟨p.1, p.2, e1.symm, e2.symm, hp⟩
  have back : ∀ p ∈ l, ∃ x ∈ es.toList, x.key = K.f p.1 := fun p hp => by
    have hm : ((K.f p.1, p.2) : Value × Value) ∈ es.toList.map (fun e => (e.key, e.val)) := by rw [hl]; exact List.mem_map.2 ⟨p, hp, rfl⟩
    obtain ⟨x, hx, e⟩ := List.mem_map.1 hm
    injection e with e1 e2
    exact ⟨x, hx, e1⟩
  by_cases hz : (leftOf es seen).size = 0
  · left
    refine ⟨fun p hp => ?_, fun ty => ?_⟩
    · obtain ⟨x, hx, e1⟩ := back p hp
      rw [hleft x hx p.1 e1, all_seen es seen hz x hx, Bool.not_true]
    · rcases run_next_at (P := Tryz.prog) w ty r b since c0 seen es clock hr hb hold hsc with ⟨_, hrun⟩ | ⟨e, he, _⟩
      · exact hrun
      · have : (leftOf es seen).toList = [] := by rw [Array.eq_empty_of_size_eq_zero hz]
        rw [this] at he; cases he
  · right
    rcases run_next_at (P := Tryz.prog) w 0 r b since c0 seen es clock hr hb hold hsc with ⟨h0, _⟩ | ⟨e, he, w1, hal, hrun⟩
    · exact absurd h0 hz
    · obtain ⟨hem, hes⟩ := mem_left he
      obtain ⟨i, v, ek, ev, hm⟩ := key e hem
      have hr1 : w1.heap[r]? = some (.mapIter (some b) since seen c0) := by rcases hal with rfl | rfl <;> exact hr
      have hb1 : w1.heap[b]? = some (.map es clock) := by rcases hal with rfl | rfl <;> exact hb
      have hset := heap_set (o' := .mapIter (some b) since (seen.push e.born) clock) hr1
      have hb' : (setBlock w1 r (.mapIter (some b) since (seen.push e.born) clock)).heap[b]? = some (.map es clock) := (hset.2 b (fun e1 => hne e1.symm)).trans hb1
      rw [ek, ev] at hrun
      refine ⟨i, v, hm, by rw [hleft e hem i ek, hes]; rfl, _, fun ty => ?_, ⟨hne, es, clock, since, seen.push e.born, clock, hb', hs, hl, hset.1, hold, hsk, hsk, fun x hx j hj => ?_⟩, ?_, ?_, ?_, ?_⟩
      · exact hrun
      · show (left j && decide (j ≠ i)) = _
        rw [hleft x hx j hj, contains_push]
        by_cases hji : j = i
        · have hxe : x = e := pw_injK (fun z : MapEntry => z.key) hkn hx hem (by rw [hj, ek, hji])
          subst hxe
          simp [hji]
        · have hb2 : (x.born == e.born) = false := beq_eq_false_iff_ne.2 fun hbb => hji (by
            have hxe : x = e := pw_injK (fun z : MapEntry => z.born) hbn' hx hem hbb
            subst hxe
            rw [ek] at hj
            exact (K.inj hj).symm)
          rw [hb2, decide_eq_true hji]
          simp
      · rcases hal with rfl | rfl <;> exact ⟨rfl, rfl, rfl, by simp [setBlock], fun i _ hi => hset.2 i (fun e1 => hi (by rw [e1]))⟩
      · rcases hal with rfl | rfl <;> simp [setBlock]
      · unfold World.rangeLeft
        have hset1 : (setBlock w1 r (.mapIter (some b) since (seen.push e.born) clock)).heap[r]? = some (.mapIter (some b) since (seen.push e.born) clock) := hset.1
        rw [hb', hset1, hb, hr]
        exact left_shrinks es seen e he
      · have := run_entry_at (P := Tryz.prog) _ r b since seen es clock e hset.1 hb' hem hbn
        rwa [ek, ev] at this
end
end Go.Proofs.YthpjneobmmpbnaaGreatDoor
namespace Go.Proofs.YthpjneobmmpbnaaGreatDoor
open Go.RowKit Go.MapKept Go.Maps Go.Shelf Go.ChangeShapes Go.WideShapes
open Go.WideElems (Fit rd rg)
def kStr : KeyK ByteArray := ⟨9, fun s => .string s, fun h => by injection h, string_keyed Tryz.underlying9, fun s => s.size ≤ maxLen, fun _ h => ⟨_, Go.WideMaps.keyOf_string_mk Tryz.underlying9 h⟩⟩
abbrev MapS := MapK kStr
abbrev bsOf (s : ByteArray) : List UInt8 := s.data.toList
theorem MapS.owns {w : World} {b : Nat} {l : List (ByteArray × Value)} (h : MapS w b l) (hl : l.length ≤ 1073741824) :
    ∃ D0 : DataW Unit, w.ownsMap Tryz.prog 9 (fun _ => some (.lit (.bool true), [])) b l.length D0 ∧ (Go.strKeys D0).Perm (l.map (fun x => bsOf x.1)) ∧ Maps.size D0 = l.length := by
  obtain ⟨es, clock, hb, hs, hl2, hk⟩ := h
  have hsz : es.size = l.length := by
    have := congrArg List.length hl2
    simpa using this
  have hread : ∀ x ∈ es.toList, rd Tryz.prog 9 (fun _ => some ((.lit (.bool true) : DataW Unit), [])) x = some (match x.key with | .string i => (Lit.string i.data.toList, .lit (.bool true)) | _ => (.bool false, .nil)) ∧ ∃ i, x.key = .string i := fun x hx => by
    have hx2 : (x.key, x.val) ∈ l.map (fun x => ((kStr.f x.1, x.2) : Value × Value)) := by rw [← hl2]; exact List.mem_map.2 ⟨x, hx, rfl⟩
    obtain ⟨kl, hkl⟩ := hk _ hx2
    obtain ⟨i, hi, hkl2, _⟩ := Go.WideMaps.string_of_keyOf Tryz.underlying9 hkl
    have hi : x.key = .string i := hi
    refine ⟨?_, _, hi⟩
    unfold rd
    rw [show keyOf Tryz.prog 9 x.key = some kl from hkl, hkl2, hi]
    rfl
  refine ⟨_, ⟨es, clock, hb, ⟨by rw [hsz]; exact Nat.le_trans hl (by decide), hs, fun x hx => ⟨_, (hread x hx).1⟩⟩, Nat.le_of_eq hsz, rfl⟩, ?_, ?_⟩
  · show (((es.toList.map (rg Tryz.prog 9 _)).foldr DataW.insert []).map fun p => Go.strOf p.1).Perm _
    refine ((sorted_perm _).map _).trans ?_
    have e : (es.toList.map (rg Tryz.prog 9 (fun _ => some ((.lit (.bool true) : DataW Unit), [])))).map (fun p => Go.strOf p.1) = l.map (fun x => bsOf x.1) := by
      have e2 : l.map (fun x => bsOf x.1) = (l.map (fun x => ((kStr.f x.1, x.2) : Value × Value))).map (fun q => match q.1 with | .string i => i.data.toList | _ => []) := by rw [List.map_map]; rfl
      rw [e2, ← hl2, List.map_map, List.map_map]
      refine List.map_congr_left fun x hx => ?_
      obtain ⟨h1, i, h2⟩ := hread x hx
      simp only [Function.comp, rg, h1, Option.getD_some, h2]
      rfl
    rw [e]
  · show ((es.toList.map (rg Tryz.prog 9 _)).foldr DataW.insert []).length = _
    rw [length_sorted, List.length_map, Array.length_toList, hsz]
abbrev leS : ByteArray → ByteArray → Bool := fun x y => decide (bsOf x ≤ bsOf y)
def sortS (l : List ByteArray) : List ByteArray := l.mergeSort leS
theorem sortS_perm (l : List ByteArray) : (sortS l).Perm l := List.mergeSort_perm l leS
theorem sortS_map (l : List ByteArray) : (sortS l).map bsOf = (l.map bsOf).mergeSort Go.leB := List.map_mergeSort (fun _ _ _ _ => rfl)
theorem sorts_inS (m : Nat) : AnyZ.SortsIn Tryz.prog Tryz.sortedA_ren Fence.wide m :=
  ⟨fun blk off cap ss W hH hblk hsz => callsIn_wide.2 (AnyM.slices_Sort_string Tryz.sortA blk off cap ss W hH hblk hsz),
   fun p cap W => callsIn_wide.2 (AnyM.slices_Sort_string_none Tryz.sortA p cap W)⟩
theorem keysS_any (mb : Option Nat) (W : World) : Calls Tryz.prog 58 #[.map mb] W fun e w' => e = .returned (.func (.func 107) #[] #[.pointer (some ⟨W.heap.size, 0, none⟩)]) ∧ w' = W.alloc (.cells #[.map mb] 85) :=
  callsIn_wide.1 (AnyZ.keys_in Tryz.keysA Fence.wide 5 trivial rfl mb W)
def SortSP (w : World) (l : List ByteArray) (e : Ending) (w' : World) : Prop :=
  ∃ A c, e = .returned (.slice A l.length c) ∧ w'.ownsRow w.heap.size 9 1 (.slice A l.length c) l.length (l.flatMap encStr) ∧ Below w.heap.size w w'
theorem flat_str (l : List ByteArray) : l.flatMap encStr = (l.map bsOf).map Go.Proofs.encStr := by
  induction l with
  | nil => rfl
  | cons x l ih => rw [List.flatMap_cons, ih]; rfl
theorem sort_closeS {w w' : World} {v : Value} {ss : List (List UInt8)} {l : List ByteArray} (hp : ss.Perm (l.map bsOf)) (hr : w'.ownsRow w.heap.size 9 1 v ss.length ((ss.mergeSort Go.leB).map Go.Proofs.encStr)) (hb : Below w.heap.size w w') : SortSP w (sortS l) (.returned v) w' := by
  have e1 : (ss.mergeSort Go.leB).map Go.Proofs.encStr = (sortS l).flatMap encStr := by rw [Go.mergeSort_of_perm hp, flat_str, sortS_map]
  have e2 : ss.length = (sortS l).length := by rw [hp.length_eq, List.length_map, (sortS_perm l).length_eq]
  rw [e1, e2] at hr
  rcases hr.2 with ⟨h1, h2⟩ | ⟨g, cap, cur, h1, h2⟩
  · subst h1
    exact ⟨none, 0, by rw [h2], by rw [h2] at hr ⊢; exact hr, hb⟩
  · subst h1
    exact ⟨_, _, rfl, hr, hb⟩
set_option maxHeartbeats 1000000 in
theorem sortedS_any (b : Nat) (l : List (ByteArray × Value)) (w : World) (h : MapS w b l) (hl : l.length ≤ 1073741824) :
    Calls Tryz.prog 57 #[.func (.func 107) #[] #[.pointer (some ⟨w.heap.size, 0, none⟩)]] (w.alloc (.cells #[.map (some b)] 85)) (SortSP (w.alloc (.cells #[.map (some b)] 85)) (sortS (l.map (·.1)))) := by
  obtain ⟨D0, hown, hperm, hsize⟩ := h.owns hl
  have hbl := hown.lt
  have hseq : SeqGives Fence.wide 2 Tryz.prog 107 #[.pointer (some ⟨w.heap.size, 0, none⟩)] Go.Proofs.encStr (fun ss => ss.Perm (Go.strKeys D0)) (Maps.size D0) (w.alloc (.cells #[.map (some b)] 85)) :=
    AnyZ.keys_gives (ρ := Tryz.keysA_ren) { Tryz.keysA with } Fence.wide _ trivial rfl (by omega) w.heap.size b l.length D0 _ (by simp) (by simp) (by
      obtain ⟨es, clock, hb, Ft, hs, hD⟩ := hown
      exact ⟨es, clock, (Below.heap_alloc _ _ b hbl).trans hb, Ft, hs, hD⟩)
  have cS := AnyZ.sorted_in Tryz.sortedA Fence.wide 5 trivial trivial trivial trivial rfl (by omega) (sorts_inS _) (enters_of Tryz.func106 (by kernel_rfl) rfl) 107 #[.pointer (some ⟨w.heap.size, 0, none⟩)] trivial (enters_of Tryz.func107 (by kernel_rfl) rfl) _ _ (by rw [hsize]; exact Nat.le_trans hl (by decide)) (by rw [hsize]; omega) _ hseq
  refine (callsIn_wide.1 cS).mono ?_
  rintro e w' ⟨v, ss, rfl, hS, hrow, _, hb⟩
  exact sort_closeS (by rw [List.map_map]; exact hS.trans hperm) hrow hb
end Go.Proofs.YthpjneobmmpbnaaGreatDoor
namespace Go.Proofs.YthpjneobmmpbnaaGreatDoor
theorem okInj {α : Type} {a b : α} {p q : Nat} (h : (Except.ok (a, p) : PR α) = .ok (b, q)) : a = b ∧ p = q := by
  injection h with h
  exact Prod.mk.inj h
section
variable {α β : Type} {D : α → Prop} {P : Bs → Nat → PR α} {B : α → Bs}
end
section
variable {α : Type} {D : α → Prop} {P : Bs → Nat → PR α} {B : α → Bs}
end
end Go.Proofs.YthpjneobmmpbnaaGreatDoor
namespace Go.Proofs.YthpjneobmmpbnaaGreatDoor
open Go.RowKit Go.MapKept
def RefCloneDlP (t : DlT) (w : World) (e : Ending) (w' : World) : Prop := (∃ h', e = .returned (dlV h') ∧ DlAt w' (NfR w' w.heap.size) h' t) ∧ Below w.heap.size w w'
set_option maxRecDepth 100000 in
set_option maxHeartbeats 20000000 in
theorem refCloneDl_any (h : DlH) (t : DlT) (w : World) (R : Nat → Prop) (ht : DlAt w R h t) (hok : DlSm 1048576 t) : Calls Tryz.prog 14 #[dlV h] w (RefCloneDlP t w) := by
  have HS := Lib.hid (CnSt.start w #[.int .i64 h.se, .int .i32 h.xi, .int .i64 h.zx, .int .i64 h.ti, .int .i32 h.t.n.ty, .string h.t.n.path, slV h.t.d, slV h.t.a, .int .i64 h.t.n.ow, .int .i32 h.t.n.ve, .int .i32 h.t.n.cr, .bool h.t.n.qh, .int .i64 h.t.n.qc, .int .i64 h.t.n.qb, .int .i64 h.t.n.si, .int .i32 h.t.n.st, slV h.t.i, slV h.t.p, .int .i32 h.t.n.co, slV h.t.s] #[.int .i64 0, .int .i32 0, .int .i64 0, .int .i64 0, .int .i32 0, .string ⟨#[]⟩, .slice none 0 0, .slice none 0 0, .int .i64 0, .int .i32 0, .int .i32 0, .bool false, .int .i64 0, .int .i64 0, .int .i64 0, .int .i32 0, .slice none 0 0, .slice none 0 0, .int .i32 0, .slice none 0 0] 35)
  have HC := Lib.hid (fun (W : World) (hW : Below w.heap.size w W) => refCloneTx_any t.t h.t W _ (TrAt.fr kTxOk (R' := R) ht.2 (Fr.of_below (own := []) hW) (fun b _ h => ⟨by simp, h⟩)) hok.2)
  have HE := Lib.hid ht.1
  have r0 : ((w.alloc (.cells #[.int .i64 h.se, .int .i32 h.xi, .int .i64 h.zx, .int .i64 h.ti, .int .i32 h.t.n.ty, .string h.t.n.path, slV h.t.d, slV h.t.a, .int .i64 h.t.n.ow, .int .i32 h.t.n.ve, .int .i32 h.t.n.cr, .bool h.t.n.qh, .int .i64 h.t.n.qc, .int .i64 h.t.n.qb, .int .i64 h.t.n.si, .int .i32 h.t.n.st, slV h.t.i, slV h.t.p, .int .i32 h.t.n.co, slV h.t.s] 35)).alloc (.cells #[.int .i64 0, .int .i32 0, .int .i64 0, .int .i64 0, .int .i32 0, .string ⟨#[]⟩, .slice none 0 0, .slice none 0 0, .int .i64 0, .int .i32 0, .int .i32 0, .bool false, .int .i64 0, .int .i64 0, .int .i64 0, .int .i32 0, .slice none 0 0, .slice none 0 0, .int .i32 0, .slice none 0 0] 35)).rangeAt w.heap.size 4 (encTx h.t) := rangeAt_heapC (pre := [.int .i64 h.se, .int .i32 h.xi, .int .i64 h.zx, .int .i64 h.ti]) (mid := encTx h.t) (post := []) HS.out.c rfl rfl
  clear ht hok
  go_enter Tryz.func14, Tryz.ntmps14
  go_wp2_with (first
    | (apply wpList_storeTop 35 35; exact rfl; exact rfl; exact rfl; (first | (with_reducible rfl) | (exact sz1 _ _) | (exact sz2 _ _ _) | (exact sz3 _ _ _ _)); exact rfl; exact infDl; exact rfl; simp [Value.oneCell'])
    | (apply wpList_loadMid 33; exact rfl; exact rfl; exact rfl; assumption; exact undTx; exact rfl; exact infTx)
    | fail)
  refine (HC.out _ HS.out.b).mono ?_
  generalize ((w.alloc (.cells #[.int .i64 h.se, .int .i32 h.xi, .int .i64 h.zx, .int .i64 h.ti, .int .i32 h.t.n.ty, .string h.t.n.path, slV h.t.d, slV h.t.a, .int .i64 h.t.n.ow, .int .i32 h.t.n.ve, .int .i32 h.t.n.cr, .bool h.t.n.qh, .int .i64 h.t.n.qc, .int .i64 h.t.n.qb, .int .i64 h.t.n.si, .int .i32 h.t.n.st, slV h.t.i, slV h.t.p, .int .i32 h.t.n.co, slV h.t.s] 35)).alloc (.cells #[.int .i64 0, .int .i32 0, .int .i64 0, .int .i64 0, .int .i32 0, .string ⟨#[]⟩, .slice none 0 0, .slice none 0 0, .int .i64 0, .int .i32 0, .int .i32 0, .bool false, .int .i64 0, .int .i64 0, .int .i64 0, .int .i32 0, .slice none 0 0, .slice none 0 0, .int .i32 0, .slice none 0 0] 35)) = V0 at *
  rintro e w1 ⟨⟨h6, rfl, ht6⟩, hb⟩
  have HB1 := Lib.hid hb
  have HSZ := Lib.hid HS.out.s
  replace HS := Lib.hid (HS.out.call hb)
  have hth : w1.there w.heap.size 4 16 := there_heap HS.out.c _ _ (Nat.le_refl _)
  have hF := fr_setCells w1 w.heap.size 4 (encTx h6)
  have gZ : (w1.setCells w.heap.size 4 (encTx h6)).heap[w.heap.size + 1]? = some (.cells #[.int .i64 0, .int .i32 0, .int .i64 0, .int .i64 0, .int .i32 0, .string ⟨#[]⟩, .slice none 0 0, .slice none 0 0, .int .i64 0, .int .i32 0, .int .i32 0, .bool false, .int .i64 0, .int .i64 0, .int .i64 0, .int .i32 0, .slice none 0 0, .slice none 0 0, .int .i32 0, .slice none 0 0] 35 (0, 0)) := (hF.block _ (by have := HS.out.s; omega) (by simp)).trans HS.out.z
  have hp : (w1.setCells w.heap.size 4 (encTx h6)).rangeAt w.heap.size 0 [.int .i64 h.se, .int .i32 h.xi, .int .i64 h.zx, .int .i64 h.ti] := World.rangeAt_setCells_apart (rangeAt_heapC (pre := []) (mid := [.int .i64 h.se, .int .i32 h.xi, .int .i64 h.zx, .int .i64 h.ti]) (post := [.int .i32 h.t.n.ty, .string h.t.n.path, slV h.t.d, slV h.t.a, .int .i64 h.t.n.ow, .int .i32 h.t.n.ve, .int .i32 h.t.n.cr, .bool h.t.n.qh, .int .i64 h.t.n.qc, .int .i64 h.t.n.qb, .int .i64 h.t.n.si, .int .i32 h.t.n.st, slV h.t.i, slV h.t.p, .int .i32 h.t.n.co, slV h.t.s]) HS.out.c rfl rfl) _ _ _ (.inr (.inl (by simp)))
  have hrr : (w1.setCells w.heap.size 4 (encTx h6)).rangeAt w.heap.size 0 (encDl ⟨h.se, h.xi, h.zx, h.ti, h6⟩) := rangeAt_join hp (World.rangeAt_setCells_same w1 w.heap.size 4 (encTx h6) hth) rfl
  have ht7 : TxAt (w1.setCells w.heap.size 4 (encTx h6)) (NfR (w1.setCells w.heap.size 4 (encTx h6)) (w.heap.size + 2)) h6 t.t := TrAt.fr kTxOk ht6 hF (fun b _ h => by
    have hn : b ∉ [w.heap.size] := by have := HSZ.out; have := h.1; simp; omega
    exact ⟨hn, h.fr hF hn HSZ.out⟩)
  have HT7 := Lib.hid ht7; have HG := Lib.hid (And.intro (hF.below HS.out.b.size (by simp)) gZ)
  have HF := Lib.hid hF
  clear ht6 hb ht7 hp hF
  go_wp2_with (first
    | (apply wpList_storeMid 33; exact rfl; exact rfl; exact rfl; exact rfl; assumption; exact infTx; simp [Value.oneCell'])
    | (apply wpList_loadMid 35; exact rfl; exact rfl; exact rfl; assumption; exact undDl; exact rfl; exact infDl)
    | (apply wpList_storeRow 35 35; exact rfl; exact rfl; exact rfl; exact rfl; (first | assumption | (refine heap_under ?_; assumption) | (exact heap_s0 _ _) | (exact heap_s1 _ _ _) | (exact heap_s2 _ _ _ _) | (exact heap_s3 _ _ _ _ _) | (exact heap_under (heap_s0 _ _)) | (exact heap_under (heap_s1 _ _ _)) | (exact heap_under (heap_s2 _ _ _ _)) | (exact heap_under (heap_under (heap_s0 _ _))) | (exact heap_under (heap_under (heap_s1 _ _ _))) | (exact heap_under (heap_under (heap_under (heap_s0 _ _))))); exact infDl; exact rfl; simp [Value.oneCell'])
    | fail)
  have hFr := fr_setRow9 (w1.setCells w.heap.size 4 (encTx h6)) (w.heap.size + 1) (encDl ⟨h.se, h.xi, h.zx, h.ti, h6⟩).toArray
  exact bodyPost_cell rfl rfl (setRow_heap _ _ _ _ _ _ gZ) undDl rfl infDl rfl ⟨⟨⟨h.se, h.xi, h.zx, h.ti, h6⟩, rfl, ⟨HE.out, TrAt.fr kTxOk HT7.out hFr (fun b _ h => by
    have hn : b ∉ [w.heap.size + 1] := by have := h.1; simp; omega
    exact ⟨hn, h.fr hFr hn (by omega)⟩)⟩⟩, below_setRow (HS.out.b.trans HG.out.1) (by omega) _⟩
end Go.Proofs.YthpjneobmmpbnaaGreatDoor
namespace Go.Proofs.YthpjneobmmpbnaaGreatDoor
open Go.RowKit
set_option maxHeartbeats 1000000 in
theorem refAcls_any (A A' : Option Addr) (n m c c' : Nat) (xs ys : List AclV) (w : World) (B : Nat) (hx : Sl w B encAcl 3 A n xs) (hy : Sl w B encAcl 3 A' m ys) (hn : n ≤ 281474976710656) (hm : m ≤ 281474976710656) :
    Calls Tryz.prog 92 #[.slice A n c, .slice A' m c'] w (QuietB w (decide (xs = ys))) := by
  by_cases hnm : n = m
  · subst hnm
    have hlen : xs.length = ys.length := hx.1.trans hy.1.symm
    have HL := Lib.hid hlen; have HXL := Lib.hid hx.1; clear hlen
    have hneq := neqAcl
    go_enter Tryz.func92, Tryz.ntmps92
    go_wp2
    go_loopw [5] (fun i wr => ∃ (k q : Nat), i = .int .i64 ↑k ∧ k ≤ n ∧ (∀ j, j < k → xs[j]! = ys[j]!) ∧ wr = w.drewN q) (fun i _ => n - (RowKit.intOf i).toNat)
    case atStart => exact ⟨0, 0, rfl, by omega, fun j hj => absurd hj (by omega), rfl⟩
    case round =>
      obtain ⟨k, q, rfl, hk, hall, rfl⟩ := hrel
      have HA := Lib.hid hall; clear hall
      by_cases hlt : k < n
      · obtain ⟨b, off, rfl, _, x0, x1, x2⟩ := SlAcl.at_ hx hlt
        obtain ⟨b', off', rfl, _, y0, y1, y2⟩ := SlAcl.at_ hy hlt
        have hyl : k < ys.length := by have := hy.1; omega
        by_cases he : xs[k]! = ys[k]!
        · have HA1 := Lib.hid (show ∀ j, j < k + 1 → xs[j]! = ys[j]! from fun j hj => by rcases Nat.lt_succ_iff_lt_or_eq.1 hj with h | rfl; exact HA.out j h; exact he)
          rw [he] at x0 x1 x2
          clear he
          generalize ys[k]! = y at *
          obtain ⟨p, s, t⟩ := y
          have hq := fun w : World => (neqAcl w s t s t p p).trans (by simp : _ = Result.ok (.bool false) w)
          clear hneq
          go_wp2
          go_quiet (fail)
          go_wp2
          go_roundw
          case rel => exact ⟨k + 1, q + nq, by go_num, by omega, HA1.out, rfl⟩
          case measure => simp [RowKit.intOf]; omega
        · have HE := Lib.hid (show decide (xs = ys) = false from decide_eq_false fun e => he (by rw [e]))
          have hd : (!decide (xs[k]! = ys[k]!)) = true := by rw [decide_eq_false he]; rfl
          have HW := Lib.hid hd
          clear he hd
          generalize xs[k]! = x at *
          generalize ys[k]! = y at *
          obtain ⟨p, s, t⟩ := x
          obtain ⟨p', s', t'⟩ := y
          have hq := fun w : World => (neqAcl w s t s' t' p p').trans (by rw [HW.out] : _ = Result.ok (.bool true) w)
          clear hneq
          go_wp2
          go_quiet (fail)
          go_wp2
          go_ret
          exact QuietB.mk ⟨q + nq, World.drewN_drewN ..⟩ HE.out.symm
      · have HE := Lib.hid (show decide (xs = ys) = true from decide_eq_true (list_ext_bang HL.out fun j hj => HA.out j (by have := HXL.out; omega)))
        go_wp2
        go_ret
        exact QuietB.mk ⟨q, rfl⟩ HE.out.symm
  · have HE := Lib.hid (show decide (xs = ys) = false from decide_eq_false fun e => hnm (by rw [← hx.1, ← hy.1, e]))
    have hd : ((n : Int) != (m : Int)) = true := by simp; omega
    clear hnm
    go_enter Tryz.func92, Tryz.ntmps92
    go_wp2
    go_ret
    exact QuietB.mk ⟨0, rfl⟩ HE.out.symm

set_option maxRecDepth 100000 in
theorem conv_slR {w : World} {R : Nat → Prop} {A : Option Addr} {n c : Nat} {l : Bs} (h : SlR w R enc8 1 (A, n, c) l) : (convert 22 9 (.slice A n c)).run Tryz.prog w = .ok (.string ⟨l.toArray⟩) w := by
  cases A with
  | none =>
    obtain ⟨h1, h2⟩ := h.hd.1 rfl
    have h1' : n = 0 := h1; have h2' : c = 0 := h2
    subst h1' h2'
    have hl : l = [] := List.length_eq_zero_iff.1 h.len
    subst hl
    exact Lib.run_convert_nil_bytes w 22 9 5 0 Tryz.underlying22 Tryz.underlying5 Tryz.underlying9
  | some a =>
    have hl : l.length = n := h.len
    subst hl
    have hU1 := Tryz.underlying22; have hU2 := Tryz.underlying5; have hU3 := Tryz.underlying9
    by_cases h0 : 0 < l.length
    · obtain ⟨b, off, e, _, hc⟩ := h.2.2 h0
      have e' : some a = some (⟨b, off, none⟩ : Addr) := e
      injection e' with e'
      subst e'
      refine run_convert_bytes_back w 22 9 5 ⟨b, off, none⟩ c l hU1 hU2 hU3 (fun j hj => ?_)
      have := hc j hj 0 (.int .u8 (l[j].toNat : Int)) (by rw [getElem!_pos l j hj]; rfl)
      rw [Addr.add_lit]
      simpa using this
    · refine run_convert_bytes_back w 22 9 5 a c l hU1 hU2 hU3 (fun j hj => absurd hj (by omega))
end Go.Proofs.YthpjneobmmpbnaaGreatDoor
