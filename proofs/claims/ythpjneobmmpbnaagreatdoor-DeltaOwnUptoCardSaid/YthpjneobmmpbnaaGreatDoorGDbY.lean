/- The walks of the program's put of any transaction that may be, and of its Encode. -/
import Derived.Test.YthpjneobmmpbnaaGreatDoorGRefS
import Derived.Test.YthpjneobmmpbnaaGreatDoorGRf3
import Derived.Test.YthpjneobmmpbnaaGreatDoorGDltF
import Derived.Test.YthpjneobmmpbnaaGreatDoorGClkE
import Derived.Maps.Range
import Derived.Maps.RangeRun
import Derived.Laws.IdiomRangeMap
namespace Go.Proofs.YthpjneobmmpbnaaGreatDoor
open Go.RowKit Go.MapKept Go.Maps
theorem putLeaf_any (wb base : Nat) (l : Bs) (h : TxH) (v : TxF) (w : World) (H : WrB w wb base l) (hx : locTx w (PutR wb base) h v) (hz : LfSm v) (hl : l.length ≤ 4398046511104) (hk : knownB h.n.ty = true) (h14 : h.n.ty ≠ 14) :
    Calls Tryz.prog 39 #[.pointer (some ⟨wb, 0, none⟩), txV h] w (WrPost (l ++ leafB v) wb base w) := by
  rcases ty_cases h.n.ty with e | e | e | e | e | e | e | e | e | e | e | ⟨h1, h2, h3, h4, h5, h6, h7, h8, h9, h10, h11⟩
  · exact put1_any wb base l h v w H hx hz hl e
  · exact put2_any wb base l h v w H hx hz hl e
  · exact put121_any wb base l h v w H hx hz hl e
  · exact put5_any wb base l h v w H hx hz hl e
  · exact put7_any wb base l h v w H hx hz hl e
  · exact put13_any wb base l h v w H hx hz hl e
  · exact put120_any wb base l h v w H hx hz hl e
  · exact absurd e h14
  · exact putM10_any wb base l h v w H hx hz hl e
  · exact putM11_any wb base l h v w H hx hz hl e
  · exact putM1_any wb base l h v w H hx hz hl e
  · exfalso
    unfold knownB partB at hk
    simp [h1, h2, h3, h4, h5, h6, h7, h8, h9, h10, h11] at hk
theorem part_knownX {ty : Int} (h : partB ty = true) : knownB ty = true ∧ ty ≠ 14 := by
  refine ⟨by unfold knownB; rw [h]; rfl, ?_⟩
  rintro rfl
  exact absurd h (by decide)
theorem leafB_len {v : TxF} (h : LfSm v) (hp : partB v.n.ty = true) : (leafB v).length ≤ 40000000 := by
  have h1 := pathB_len h rfl
  have h2 := bufB_le h
  have h3 := aclsB_len h
  unfold partB at hp
  have hp := of_decide_eq_true hp
  unfold leafB
  split
  · simp only [List.length_append, beB_len]; omega
  split
  · omega
  split
  · simp only [List.length_append, beB_len]; omega
  split
  · simp only [List.length_append, beB_len]; omega
  split
  · simp only [List.length_append, beB_len]; omega
  split
  · simp only [List.length_append, beB_len]; omega
  · exfalso; omega
theorem partBs_len {t : TxT} (h : LfSm t.v) (hp : partB t.v.n.ty = true) : (partBs t).length ≤ 40000004 := by
  have := leafB_len h hp
  unfold partBs; rw [List.length_append, beB_len]; omega
set_option maxRecDepth 100000 in
set_option maxHeartbeats 4000000 in
theorem putP_any (wb base : Nat) (l : Bs) (h : TxH) (t : TxT) (w : World) (H : WrB w wb base l) (hx : locTx w (PutR wb base) h t.v) (hz : LfSm t.v) (hl : l.length ≤ 4398046511000) (hp : partB h.n.ty = true) :
    Calls Tryz.prog 80 #[.pointer (some ⟨wb, 0, none⟩), txV h] w (WrPost (l ++ partBs t) wb base w) := by
  have hb1 : Below w.heap.size w (w.alloc (.cells #[.int .i32 h.n.ty, .string h.n.path, slV h.d, slV h.a, .int .i64 h.n.ow, .int .i32 h.n.ve, .int .i32 h.n.cr, .bool h.n.qh, .int .i64 h.n.qc, .int .i64 h.n.qb, .int .i64 h.n.si, .int .i32 h.n.st, slV h.i, slV h.p, .int .i32 h.n.co, slV h.s] 33)) := (Below.refl _ w).alloc (Nat.le_refl _) _
  have hk1 : Kw wb base w (w.alloc (.cells #[.int .i32 h.n.ty, .string h.n.path, slV h.d, slV h.a, .int .i64 h.n.ow, .int .i32 h.n.ve, .int .i32 h.n.cr, .bool h.n.qh, .int .i64 h.n.qc, .int .i64 h.n.qb, .int .i64 h.n.si, .int .i32 h.n.st, slV h.i, slV h.p, .int .i32 h.n.co, slV h.s] 33)) := Kw.of_below hb1
  have hlt : w.heap.size ≠ wb := by have := H.lt; have := H.size; omega
  have HLT := Lib.hid hlt
  have HW0 := Lib.hid (H.below hb1); have HK0 := Lib.hid hk1; have HX0 := Lib.hid (hx.kw hk1 H.size)
  have HG0 := Lib.hid (heap_alloc_new w (.cells #[.int .i32 h.n.ty, .string h.n.path, slV h.d, slV h.a, .int .i64 h.n.ow, .int .i32 h.n.ve, .int .i32 h.n.cr, .bool h.n.qh, .int .i64 h.n.qc, .int .i64 h.n.qb, .int .i64 h.n.si, .int .i32 h.n.st, slV h.i, slV h.p, .int .i32 h.n.co, slV h.s] 33))
  have HN0 := Lib.hid hl
  have HP2 := Lib.hid (fun (W : World) (l' : Bs) (hw : WrB W wb base l') (hx : locTx W (PutR wb base) h t.v) (hl : l'.length ≤ 4398046511104) => putLeaf_any wb base l' h t.v W hw hx hz hl (part_knownX hp).1 (part_knownX hp).2)
  have HV := Lib.hid (show partBs t = beB (m32 h.n.ty) 4 ++ leafB t.v by unfold partBs; rw [hx.1])
  clear H hx hz hl hb1 hk1 hlt hp
  go_enter Tryz.func80, Tryz.ntmps80
  go_upto_region 1 with fail
  generalize w.alloc (.cells #[.int .i32 h.n.ty, .string h.n.path, slV h.d, slV h.a, .int .i64 h.n.ow, .int .i32 h.n.ve, .int .i32 h.n.cr, .bool h.n.qh, .int .i64 h.n.qc, .int .i64 h.n.qb, .int .i64 h.n.si, .int .i32 h.n.st, slV h.i, slV h.p, .int .i32 h.n.co, slV h.s] 33) = W0 at *
  have x0 : W0.cell? ⟨w.heap.size, 0, none⟩ = some (.int .i32 h.n.ty) := by rw [cellH HG0.out]; rfl
  go_wp2_with fail
  refine (wInt_any wb base l h.n.ty W0 HW0.out (Nat.le_trans HN0.out (by decide))).mono ?_
  rintro e W1 ⟨rfl, hw, hk⟩
  have g1 := hk.heap HG0.out (by decide) HLT.out
  have HK1 := Lib.hid (HK0.out.trans hk)
  have hp2 := HP2.out W1 _ hw (HX0.out.kw hk HW0.out.size) (by rw [List.length_append, beB_len]; have := HN0.out; omega)
  clear hw hk x0 HP2
  go_wp2_with (first | (apply wpList_loadRow 33 33; exact rfl; exact rfl; exact rfl; assumption; exact undTx; exact rfl; exact infTx) | fail)
  refine hp2.mono ?_
  rintro e W2 ⟨rfl, hw, hk⟩
  have HW2 := Lib.hid (show WrB W2 wb base (l ++ partBs t) by rw [HV.out, ← List.append_assoc]; exact hw)
  have HK2 := Lib.hid (HK1.out.trans hk)
  clear hw hk hp2 g1
  go_wp2_with fail
  refine bodyPost_ret (results_none rfl _ _ _) rfl ?_
  exact ⟨rfl, HW2.out, HK2.out⟩
/-- a list of parts, some of it written -/
def LPX (wb base n : Nat) (l : Bs) (zs : List TxT) (w : World) (i : Value) (wr : World) : Prop := ∃ k : Nat, i = .int .i64 ↑k ∧ k ≤ n ∧ WrB wr wb base (l ++ beB n 4 ++ (zs.take k).flatMap partBs) ∧ Kw wb base w wr
set_option maxRecDepth 100000 in
set_option maxHeartbeats 4000000 in
theorem listX_any (wb base : Nat) (l : Bs) (sl : SlC) (Hs : List TxH) (zs : List TxT) (w : World) (h : WrB w wb base l) (hs : SlR w (PutR wb base) encTx 16 sl Hs) (hz : ∀ j, j < sl.2.1 → locTx w (PutR wb base) Hs[j]! zs[j]!.v ∧ LfSm zs[j]!.v ∧ partB Hs[j]!.n.ty = true) (hlen : zs.length = sl.2.1) (hl : l.length ≤ 1073741824) (hn : sl.2.1 ≤ 1024) :
    Calls Tryz.prog 79 #[.pointer (some ⟨wb, 0, none⟩), .slice sl.1 sl.2.1 sl.2.2, .func (.func 80) #[] #[]] w (WrPost (l ++ (beB sl.2.1 4 ++ zs.flatMap partBs)) wb base w) := by
  obtain ⟨A, n, c⟩ := sl
  dsimp only at hs hz hlen hn ⊢
  have HS := Lib.hid hs; have HZ := Lib.hid hz
  have HL := Lib.hid hlen
  have HBS := Lib.hid h.size
  have HC := Lib.hid (wCount_any wb base l n w h (by omega) (by omega))
  have HF := Lib.hid (flat_small partBs zs 40000004 (fun j hj => by
    have h1 := hz j (by rw [hlen] at hj; exact hj)
    exact partBs_len h1.2.1 (by rw [h1.1.1]; exact h1.2.2)))
  have hq : ∀ w : World, (binOp .eql 72 (.func (.func 80) #[] #[]) .nilFunc).run Tryz.prog w = .ok (.bool false) w := fun w => by kernel_rfl
  clear h hs hz hlen
  go_enter Tryz.func79, Tryz.ntmps79
  go_wp2_with fail
  refine HC.out.mono ?_
  rintro e w1 ⟨rfl, hw, hk⟩
  have HW1 := Lib.hid hw; have HK1 := Lib.hid hk
  clear hw hk
  go_wp2_with fail
  go_loopw [7, 16] (fun _ i wr => LPX wb base n l zs w i wr) (fun _ i _ => n - (RowKit.intOf i).toNat)
  case atStart => exact ⟨0, rfl, Nat.zero_le _, by rw [List.take_zero, List.flatMap_nil, List.append_nil]; exact HW1.out, HK1.out⟩
  case round =>
    obtain ⟨k, rfl, hk, hw, hkw⟩ := hrel
    have HW := Lib.hid hw; have HK := Lib.hid hkw
    by_cases hkn : k < n
    · have hkn2 : (k : Int) < (n : Int) := by omega
      obtain ⟨b, off, hA, hb, hc⟩ := HS.out.2.2 (Nat.lt_of_le_of_lt (Nat.zero_le _) hkn)
      have hA : A = some ⟨b, off, none⟩ := hA
      subst hA
      have y6 : wr.rangeAt b (off + k * 16) (encTx Hs[k]!) := fun i u hu => by
        have h1 := hc k hkn i u hu
        exact (hkw.cellR HBS.out ⟨b, off + k * 16 + i, none⟩ hb).trans h1
      have HSJ := Lib.hid (HZ.out k hkn)
      have HST := Lib.hid (flat_step partBs zs (k := k) (by rw [HL.out]; exact hkn))
      have hfl := HF.out k (by rw [HL.out]; exact hk)
      have HLN := Lib.hid (show (l ++ beB n 4 ++ (zs.take k).flatMap partBs).length ≤ 4398046511000 by
        rw [List.length_append, List.length_append, beB_len]
        have : k * 40000004 ≤ 1024 * 40000004 := Nat.mul_le_mul_right _ (by omega)
        omega)
      have HX := Lib.hid (HSJ.out.1.kw hkw HBS.out)
      generalize Hs[k]! = hj at *
      generalize zs[k]! = z at *
      have hb1 : Below wr.heap.size wr (wr.alloc (.cells #[.int .i32 hj.n.ty, .string hj.n.path, slV hj.d, slV hj.a, .int .i64 hj.n.ow, .int .i32 hj.n.ve, .int .i32 hj.n.cr, .bool hj.n.qh, .int .i64 hj.n.qc, .int .i64 hj.n.qb, .int .i64 hj.n.si, .int .i32 hj.n.st, slV hj.i, slV hj.p, .int .i32 hj.n.co, slV hj.s] 33)) := (Below.refl _ wr).alloc (Nat.le_refl _) _
      have HW2 := Lib.hid (HW.out.below hb1)
      have hk2 : Kw wb base wr (wr.alloc (.cells #[.int .i32 hj.n.ty, .string hj.n.path, slV hj.d, slV hj.a, .int .i64 hj.n.ow, .int .i32 hj.n.ve, .int .i32 hj.n.cr, .bool hj.n.qh, .int .i64 hj.n.qc, .int .i64 hj.n.qb, .int .i64 hj.n.si, .int .i32 hj.n.st, slV hj.i, slV hj.p, .int .i32 hj.n.co, slV hj.s] 33)) := Kw.of_below hb1
      have HX2 := Lib.hid (HX.out.kw hk2 HW.out.size)
      have HK2 := Lib.hid (HK.out.trans hk2)
      have g7 := heap_s0 wr (.cells #[.int .i32 hj.n.ty, .string hj.n.path, slV hj.d, slV hj.a, .int .i64 hj.n.ow, .int .i32 hj.n.ve, .int .i32 hj.n.cr, .bool hj.n.qh, .int .i64 hj.n.qc, .int .i64 hj.n.qb, .int .i64 hj.n.si, .int .i32 hj.n.st, slV hj.i, slV hj.p, .int .i32 hj.n.co, slV hj.s] 33)
      clear hw hkw hb1 hc hb hfl hk2
      go_upto_region 5 with (first | (apply wpList_loadMid 33; exact rfl; exact rfl; exact rfl; exact (by assumption); exact undTx; exact rfl; exact infTx) | (apply wpList_storeTop 33 33; exact rfl; exact rfl; exact rfl; (first | (with_reducible rfl) | (exact sz1 _ _) | (exact sz2 _ _ _)); exact rfl; exact infTx; exact rfl; (first | exact oneTx _ | simp [Value.oneCell'])) | fail)
      change Code.wp _ _ _ _ (wr.alloc (.cells #[.int .i32 hj.n.ty, .string hj.n.path, slV hj.d, slV hj.a, .int .i64 hj.n.ow, .int .i32 hj.n.ve, .int .i32 hj.n.cr, .bool hj.n.qh, .int .i64 hj.n.qc, .int .i64 hj.n.qb, .int .i64 hj.n.si, .int .i32 hj.n.st, slV hj.i, slV hj.p, .int .i32 hj.n.co, slV hj.s] 33))
      generalize wr.alloc (.cells #[.int .i32 hj.n.ty, .string hj.n.path, slV hj.d, slV hj.a, .int .i64 hj.n.ow, .int .i32 hj.n.ve, .int .i32 hj.n.cr, .bool hj.n.qh, .int .i64 hj.n.qc, .int .i64 hj.n.qb, .int .i64 hj.n.si, .int .i32 hj.n.st, slV hj.i, slV hj.p, .int .i32 hj.n.co, slV hj.s] 33) = W at *
      clear y6
      go_wp2_with (first | (apply wpList_loadRow 33 33; exact rfl; exact rfl; exact rfl; assumption; exact undTx; exact rfl; exact infTx) | fail)
      refine (putP_any wb base _ hj z W HW2.out HX2.out HSJ.out.2.1 HLN.out HSJ.out.2.2).mono ?_
      rintro e w3 ⟨rfl, hw, hkw⟩
      have HW3 := Lib.hid (show WrB w3 wb base (l ++ beB n 4 ++ (zs.take (k + 1)).flatMap partBs) by rw [HST.out, ← List.append_assoc]; exact hw)
      have HK3 := Lib.hid (HK2.out.trans hkw)
      clear hw hkw g7
      go_wp2_with fail
      go_roundw
      case rel => exact ⟨k + 1, by go_num, by omega, HW3.out, HK3.out⟩
      case measure => simp [RowKit.intOf]; omega
    · have hkn2 : ¬ (k : Int) < (n : Int) := by omega
      have hkk : k = n := by omega
      subst hkk
      have HW3 := Lib.hid (show WrB wr wb base (l ++ (beB k 4 ++ zs.flatMap partBs)) by
        have h9 := HW.out
        rw [List.take_of_length_le (by rw [HL.out]; exact Nat.le_refl _), List.append_assoc] at h9
        exact h9)
      clear hw hkw
      go_wp2_with fail
      refine bodyPost_ret (results_none rfl _ _ _) rfl ?_
      exact ⟨rfl, HW3.out, HK.out⟩
/-- what of a transaction is wanted to write it -/
structure PutOk (t : TxT) : Prop where
  k : knownB t.v.n.ty = true
  z : LfSm t.v
  n : t.subs.length ≤ 1024
  s : ∀ j, j < t.subs.length → LfSm t.subs[j]!.v ∧ partB t.subs[j]!.v.n.ty = true
set_option maxRecDepth 100000 in
set_option maxHeartbeats 4000000 in
theorem put14_any (wb base : Nat) (l : Bs) (h : TxH) (t : TxT) (w : World) (H : WrB w wb base l) (hx : TxAt w (PutR wb base) h t) (hz : PutOk t) (hl : l.length ≤ 1073741824) (hty : h.n.ty = 14) :
    Calls Tryz.prog 39 #[.pointer (some ⟨wb, 0, none⟩), txV h] w (WrPost (l ++ bodyB t) wb base w) := by
  have hb1 : Below w.heap.size w (w.alloc (.cells #[.int .i32 h.n.ty, .string h.n.path, slV h.d, slV h.a, .int .i64 h.n.ow, .int .i32 h.n.ve, .int .i32 h.n.cr, .bool h.n.qh, .int .i64 h.n.qc, .int .i64 h.n.qb, .int .i64 h.n.si, .int .i32 h.n.st, slV h.i, slV h.p, .int .i32 h.n.co, slV h.s] 33)) := (Below.refl _ w).alloc (Nat.le_refl _) _
  have hk1 : Kw wb base w (w.alloc (.cells #[.int .i32 h.n.ty, .string h.n.path, slV h.d, slV h.a, .int .i64 h.n.ow, .int .i32 h.n.ve, .int .i32 h.n.cr, .bool h.n.qh, .int .i64 h.n.qc, .int .i64 h.n.qb, .int .i64 h.n.si, .int .i32 h.n.st, slV h.i, slV h.p, .int .i32 h.n.co, slV h.s] 33)) := Kw.of_below hb1
  have HV := Lib.hid (show bodyB t = beB h.s.2.1 4 ++ t.subs.flatMap partBs by
    have e := hx.loc.1
    unfold bodyB
    rw [e, if_pos hty, hx.len])
  have hx1 := hx.kw hk1 H.size
  obtain ⟨Hs, hsl, hss⟩ := hx1.subs_at
  have hlen := hx.len
  have hp := listX_any wb base l h.s Hs t.subs (w.alloc (.cells #[.int .i32 h.n.ty, .string h.n.path, slV h.d, slV h.a, .int .i64 h.n.ow, .int .i32 h.n.ve, .int .i32 h.n.cr, .bool h.n.qh, .int .i64 h.n.qc, .int .i64 h.n.qb, .int .i64 h.n.si, .int .i32 h.n.st, slV h.i, slV h.p, .int .i32 h.n.co, slV h.s] 33)) (H.below hb1) hsl (fun j hj => ⟨(hss j hj).loc, (hz.s j (by rw [hlen]; exact hj)).1, by
    rw [← (hss j hj).loc.1]; exact (hz.s j (by rw [hlen]; exact hj)).2⟩) hlen hl (by have := hz.n; rw [hlen] at this; exact this)
  rw [← HV.out] at hp
  have HP := Lib.hid hp
  have HK0 := Lib.hid hk1
  have HG0 := Lib.hid (heap_alloc_new w (.cells #[.int .i32 h.n.ty, .string h.n.path, slV h.d, slV h.a, .int .i64 h.n.ow, .int .i32 h.n.ve, .int .i32 h.n.cr, .bool h.n.qh, .int .i64 h.n.qc, .int .i64 h.n.qb, .int .i64 h.n.si, .int .i32 h.n.st, slV h.i, slV h.p, .int .i32 h.n.co, slV h.s] 33))
  have t1 : (h.n.ty == 1) = false := by rw [hty]; rfl
  have t2 : (h.n.ty == 2) = false := by rw [hty]; rfl
  have t121 : (h.n.ty == 121) = false := by rw [hty]; rfl
  have t5 : (h.n.ty == 5) = false := by rw [hty]; rfl
  have t7 : (h.n.ty == 7) = false := by rw [hty]; rfl
  have t13 : (h.n.ty == 13) = false := by rw [hty]; rfl
  have t120 : (h.n.ty == 120) = false := by rw [hty]; rfl
  have t14 : (h.n.ty == 14) = true := by rw [hty]; rfl
  have tm10 : (h.n.ty == -10) = false := by rw [hty]; rfl
  have tm11 : (h.n.ty == -11) = false := by rw [hty]; rfl
  have tm1 : (h.n.ty == -1) = false := by rw [hty]; rfl
  clear H hx hz hl hb1 hk1 hty hx1 hsl hss hlen hp
  go_enter Tryz.func39, Tryz.ntmps39
  go_upto_region 1 with fail
  generalize w.alloc (.cells #[.int .i32 h.n.ty, .string h.n.path, slV h.d, slV h.a, .int .i64 h.n.ow, .int .i32 h.n.ve, .int .i32 h.n.cr, .bool h.n.qh, .int .i64 h.n.qc, .int .i64 h.n.qb, .int .i64 h.n.si, .int .i32 h.n.st, slV h.i, slV h.p, .int .i32 h.n.co, slV h.s] 33) = W0 at *
  have x0 : W0.cell? ⟨w.heap.size, 0, none⟩ = some (.int .i32 h.n.ty) := by rw [cellH HG0.out]; rfl
  have y0 : W0.cell? ⟨w.heap.size, 15, none⟩ = some (.slice h.s.1 h.s.2.1 h.s.2.2) := by rw [cellH HG0.out]; rfl
  go_wp2_with fail
  refine HP.out.mono ?_
  rintro e W1 ⟨rfl, hw, hk⟩
  have HW1 := Lib.hid hw; have HK1 := Lib.hid (HK0.out.trans hk)
  clear hw hk x0 y0
  go_wp2_with fail
  refine bodyPost_ret (results_none rfl _ _ _) rfl ?_
  exact ⟨rfl, HW1.out, HK1.out⟩
theorem put_any (wb base : Nat) (l : Bs) (h : TxH) (t : TxT) (w : World) (H : WrB w wb base l) (hx : TxAt w (PutR wb base) h t) (hz : PutOk t) (hl : l.length ≤ 1073741824) :
    Calls Tryz.prog 39 #[.pointer (some ⟨wb, 0, none⟩), txV h] w (WrPost (l ++ bodyB t) wb base w) := by
  by_cases h14 : h.n.ty = 14
  · exact put14_any wb base l h t w H hx hz hl h14
  · have e := hx.loc.1
    have : bodyB t = leafB t.v := by unfold bodyB; rw [e, if_neg h14]
    rw [this]
    exact putLeaf_any wb base l h t.v w H hx.loc hz.z (Nat.le_trans hl (by decide)) (by rw [← e]; exact hz.k) h14
theorem subs_own {z : Int} : ∀ {l : List TxT}, subsE z l = 0 → ∀ t ∈ l, partB t.v.n.ty = true ∧ ownE z t.v t.subs.length = 0
  | [], _, t, ht => by cases ht
  | x :: l, h, t, ht => by
    unfold subsE at h
    split at h
    · cases h
    rename_i hp
    split at h
    · rename_i h2; exact absurd h h2
    rename_i h2
    rcases List.mem_cons.1 ht with rfl | ht
    · exact ⟨by simpa using hp, by omega⟩
    · exact subs_own h t ht
theorem own_great {z : Int} {v : TxF} {k : Nat} (h : ownE z v k = 0) : greatB v k = false := by
  unfold ownE at h
  split at h
  · cases h
  split at h
  · cases h
  · rename_i h2; simpa using h2
theorem right_put {d : DlT} (h : rightE d = 0) (hs : DlSm 1048576 d) : PutOk d.t := by
  unfold rightE at h
  split at h
  · cases h
  rename_i h1
  split at h
  · cases h
  split at h
  · rename_i h2; exact absurd h h2
  rename_i h2
  have h2 : ownE d.zx d.t.v d.t.subs.length = 0 := by omega
  have hg := own_great h2
  refine ⟨by simpa using h1, LfSm.of hs.2.top hg, ?_, fun j hj => ?_⟩
  · unfold greatB at hg
    simp only [Bool.or_eq_false_iff, decide_eq_false_iff_not] at hg
    omega
  · have hm : d.t.subs[j]! ∈ d.t.subs := by rw [getElem!_pos d.t.subs j hj]; exact List.getElem_mem hj
    obtain ⟨h3, h4⟩ := subs_own h _ hm
    exact ⟨LfSm.of (hs.2.subAt hj).top (own_great h4), h3⟩
theorem WrB.start {w w' : World} (hb : Below (w.alloc (.cells #[.slice none 0 0] 69)).heap.size (w.alloc (.cells #[.slice none 0 0] 69)) w') : WrB w' w.heap.size w'.heap.size [] := by
  have hs : (w.alloc (.cells #[.slice none 0 0] 69)).heap.size = w.heap.size + 1 := by simp
  have h1 := hb.size
  exact ⟨by omega, Nat.le_refl _, none, 0, (hb.block w.heap.size (by omega)).trans (heap_alloc_new w _), World.ownsRow_nil _ _ _ _⟩
/-- what Encode answers -/
def EncP (w : World) (d : DlT) (e : Ending) (w' : World) : Prop := Below w.heap.size w w' ∧
  ((rightE d ≠ 0 ∧ e = .returned (.tuple #[.slice none 0 0, .int .i64 (rightE d)])) ∨ (rightE d = 0 ∧ ∃ A c, e = .returned (.tuple #[.slice A (encB d).length c, .int .i64 0]) ∧ Row8 w' w.heap.size A (encB d).length c (encB d)))
theorem headB_len (d : DlT) : (headB d).length = 32 := by simp [headB, beB_len]
theorem bodyB_len {d : DlT} (h : PutOk d.t) : (bodyB d.t).length ≤ 4398046511104 := by
  unfold bodyB
  split
  · have h1 := flatLen partBs 40000004 d.t.subs fun x hx => by
      obtain ⟨j, hj, rfl⟩ := List.getElem_of_mem hx
      have := h.s j hj; rw [getElem!_pos d.t.subs j hj] at this
      exact partBs_len this.1 this.2
    have h2 := Nat.mul_le_mul_right 40000004 h.n
    rw [List.length_append, beB_len]; omega
  · have h1 := pathB_len h.z rfl
    have h2 := bufB_le h.z
    have h3 := aclsB_len h.z
    have h4 := idsB_len h.z
    have h5 := txtsB_len h.z
    unfold leafB
    split
    · simp only [List.length_append, beB_len]; omega
    split
    · omega
    split
    · simp only [List.length_append, beB_len]; omega
    split
    · simp only [List.length_append, beB_len]; omega
    split
    · simp only [List.length_append, beB_len]; omega
    split
    · simp only [List.length_append, beB_len]; omega
    split
    · simp only [List.length_append, beB_len]; omega
    split
    · omega
    split
    · simp only [beB_len]; omega
    · simp
set_option linter.unusedSimpArgs false in
set_option maxRecDepth 100000 in
set_option maxHeartbeats 8000000 in
theorem encode_any (h : DlH) (d : DlT) (w : World) (R : Nat → Prop) (hd : DlAt w R h d) (hE : Env w) (hsm : DlSm 1048576 d) : Calls Tryz.prog 15 #[dlV h] w (EncP w d) := by
  have hb0 : Below w.heap.size w (w.alloc (.cells #[.int .i64 h.se, .int .i32 h.xi, .int .i64 h.zx, .int .i64 h.ti, .int .i32 h.t.n.ty, .string h.t.n.path, slV h.t.d, slV h.t.a, .int .i64 h.t.n.ow, .int .i32 h.t.n.ve, .int .i32 h.t.n.cr, .bool h.t.n.qh, .int .i64 h.t.n.qc, .int .i64 h.t.n.qb, .int .i64 h.t.n.si, .int .i32 h.t.n.st, slV h.t.i, slV h.t.p, .int .i32 h.t.n.co, slV h.t.s] 35)) := (Below.refl _ w).alloc (Nat.le_refl _) _
  have HG0 := Lib.hid (heap_s0 w (.cells #[.int .i64 h.se, .int .i32 h.xi, .int .i64 h.zx, .int .i64 h.ti, .int .i32 h.t.n.ty, .string h.t.n.path, slV h.t.d, slV h.t.a, .int .i64 h.t.n.ow, .int .i32 h.t.n.ve, .int .i32 h.t.n.cr, .bool h.t.n.qh, .int .i64 h.t.n.qc, .int .i64 h.t.n.qb, .int .i64 h.t.n.si, .int .i32 h.t.n.st, slV h.t.i, slV h.t.p, .int .i32 h.t.n.co, slV h.t.s] 35))
  have HZ0 := Lib.hid (sz1 w (.cells #[.int .i64 h.se, .int .i32 h.xi, .int .i64 h.zx, .int .i64 h.ti, .int .i32 h.t.n.ty, .string h.t.n.path, slV h.t.d, slV h.t.a, .int .i64 h.t.n.ow, .int .i32 h.t.n.ve, .int .i32 h.t.n.cr, .bool h.t.n.qh, .int .i64 h.t.n.qc, .int .i64 h.t.n.qb, .int .i64 h.t.n.si, .int .i32 h.t.n.st, slV h.t.i, slV h.t.p, .int .i32 h.t.n.co, slV h.t.s] 35))
  have HB0 := Lib.hid hb0
  have hd1 : DlAt w (· < w.heap.size) h d := ⟨hd.1, hd.2.more fun b hb _ => hb⟩
  have HRI := Lib.hid (right13_any h d (w.alloc (.cells #[.int .i64 h.se, .int .i32 h.xi, .int .i64 h.zx, .int .i64 h.ti, .int .i32 h.t.n.ty, .string h.t.n.path, slV h.t.d, slV h.t.a, .int .i64 h.t.n.ow, .int .i32 h.t.n.ve, .int .i32 h.t.n.cr, .bool h.t.n.qh, .int .i64 h.t.n.qc, .int .i64 h.t.n.qb, .int .i64 h.t.n.si, .int .i32 h.t.n.st, slV h.t.i, slV h.t.p, .int .i32 h.t.n.co, slV h.t.s] 35)) (· < w.heap.size) ⟨hd1.1, TxAt.keep hd1.2 fun p hp => hb0.cell hp⟩ (hE.below (Nat.le_refl _) hb0) hsm)
  have HDA := Lib.hid hd1.2
  obtain ⟨e0, e1, e2, e3⟩ := hd.1
  have HV := Lib.hid (show encB d = beB (m64 h.se) 8 ++ beB (m32 h.xi) 4 ++ beB (m64 h.zx) 8 ++ beB (m64 h.ti) 8 ++ beB (m32 h.t.n.ty) 4 ++ bodyB d.t by
    unfold encB headB; rw [e0, e1, e2, e3, hd.2.loc.1])
  have HPO := Lib.hid (fun (hr : rightE d = 0) => right_put hr hsm)
  have hbu : ∀ w : World, True := fun _ => trivial
  clear hb0 hd1 e0 e1 e2 e3 hd hE hsm hbu
  go_enter Tryz.func15, Tryz.ntmps15
  go_upto_region 1 with fail
  generalize w.alloc (.cells #[.int .i64 h.se, .int .i32 h.xi, .int .i64 h.zx, .int .i64 h.ti, .int .i32 h.t.n.ty, .string h.t.n.path, slV h.t.d, slV h.t.a, .int .i64 h.t.n.ow, .int .i32 h.t.n.ve, .int .i32 h.t.n.cr, .bool h.t.n.qh, .int .i64 h.t.n.qc, .int .i64 h.t.n.qb, .int .i64 h.t.n.si, .int .i32 h.t.n.st, slV h.t.i, slV h.t.p, .int .i32 h.t.n.co, slV h.t.s] 35) = W at *
  have g0 := HG0.out
  go_wp2_with (first | (apply wpList_loadRow 35 35; exact rfl; exact rfl; exact rfl; assumption; exact undDl; exact rfl; exact infDl) | fail)
  refine HRI.out.mono ?_
  rintro e w1 ⟨rfl, hb1⟩
  have HB1 := Lib.hid (HB0.out.trans (hb1.mono HB0.out.size))
  have HG1 := Lib.hid ((hb1.block w.heap.size (by have := HZ0.out; omega)).trans g0)
  have HZ1 := Lib.hid (show w.heap.size + 1 ≤ w1.heap.size by have := HZ0.out; have := hb1.size; omega)
  clear hb1 g0 HRI HG0
  by_cases hr0 : rightE d = 0
  case neg =>
    have HEND := Lib.hid (show EncP w d (.returned (.tuple #[.slice none 0 0, .int .i64 (rightE d)])) w1 from ⟨HB1.out, .inl ⟨hr0, rfl⟩⟩)
    generalize rightE d = x at *
    have d1 : (x != 0) = true := bne_iff_ne.2 hr0
    clear hr0 HPO
    go_wp2_with fail
    go_ret2
    exact HEND.out
  have HPU := Lib.hid (HPO.out hr0)
  have HR0 := Lib.hid hr0
  rw [hr0]
  clear HPO hr0
  have hb2 : Below w1.heap.size w1 (w1.alloc (.cells #[.slice none 0 0] 69)) := (Below.refl _ w1).alloc (Nat.le_refl _) _
  have HW0 := Lib.hid (WrB.start (w := w1) (Below.refl _ _))
  have HB2 := Lib.hid (HB1.out.trans (hb2.mono HB1.out.size))
  have HG2 := Lib.hid ((hb2.block w.heap.size (by have := HZ1.out; omega)).trans HG1.out)
  have HNE := Lib.hid (show w.heap.size ≠ w1.heap.size by have := HZ1.out; omega)
  have HBA := Lib.hid (show w.heap.size ≤ w1.heap.size ∧ w.heap.size ≤ (w1.alloc (.cells #[.slice none 0 0] 69)).heap.size from ⟨by have := HZ1.out; omega, HB2.out.size⟩)
  have HX0 := Lib.hid (show TxAt (w1.alloc (.cells #[.slice none 0 0] 69)) (PutR w1.heap.size (w1.alloc (.cells #[.slice none 0 0] 69)).heap.size) h.t d.t from
    TxAt.more (TxAt.keep HDA.out fun p hp => HB2.out.cell hp) fun b _ hb => ⟨Nat.lt_of_lt_of_le hb HB2.out.size, by have := HZ1.out; omega⟩)
  clear hb2 HG1
  go_upto_region 5 with fail
  generalize w1.alloc (.cells #[.slice none 0 0] 69) = V0 at *
  generalize V0.heap.size = base at *
  generalize w1.heap.size = wb at *
  have HK0 := Lib.hid (show Kw wb base V0 V0 from Kw.refl)
  have HN0 := Lib.hid (show ([] : Bs).length ≤ 0 from Nat.le_refl _)
  have HGV0 := HG2
  clear HG2
  have y0 : V0.cell? ⟨w.heap.size, 0, none⟩ = some (.int .i64 h.se) := by rw [cellH HGV0.out]; rfl
  go_wp2_with fail
  refine (wLong_any wb base [] h.se V0 HW0.out (Nat.le_trans HN0.out (by decide))).mono ?_
  rintro e V1 ⟨rfl, hw, hk⟩
  obtain ⟨L1, hL⟩ : ∃ L1, L1 = [] ++ beB (m64 h.se) 8 := ⟨_, rfl⟩
  have HLE1 := Lib.hid hL
  have HN1 := Lib.hid (show L1.length ≤ 8 by rw [hL, List.length_append, beB_len]; have := HN0.out; omega)
  have HW1 := Lib.hid (show WrB V1 wb base L1 by rw [hL]; exact hw)
  have HK1 := Lib.hid (HK0.out.trans hk)
  have HX1 := Lib.hid (HX0.out.kw hk HW0.out.size)
  have HGV1 := Lib.hid (hk.heap HGV0.out (by decide) HNE.out)
  clear hw hk hL y0
  have y1 : V1.cell? ⟨w.heap.size, 1, none⟩ = some (.int .i32 h.xi) := by rw [cellH HGV1.out]; rfl
  go_wp2_with fail
  refine (wInt_any wb base L1 h.xi V1 HW1.out (Nat.le_trans HN1.out (by decide))).mono ?_
  rintro e V2 ⟨rfl, hw, hk⟩
  obtain ⟨L2, hL⟩ : ∃ L2, L2 = L1 ++ beB (m32 h.xi) 4 := ⟨_, rfl⟩
  have HLE2 := Lib.hid hL
  have HN2 := Lib.hid (show L2.length ≤ 12 by rw [hL, List.length_append, beB_len]; have := HN1.out; omega)
  have HW2 := Lib.hid (show WrB V2 wb base L2 by rw [hL]; exact hw)
  have HK2 := Lib.hid (HK1.out.trans hk)
  have HX2 := Lib.hid (HX1.out.kw hk HW1.out.size)
  have HGV2 := Lib.hid (hk.heap HGV1.out (by decide) HNE.out)
  clear hw hk hL y1
  have y2 : V2.cell? ⟨w.heap.size, 2, none⟩ = some (.int .i64 h.zx) := by rw [cellH HGV2.out]; rfl
  go_wp2_with fail
  refine (wLong_any wb base L2 h.zx V2 HW2.out (Nat.le_trans HN2.out (by decide))).mono ?_
  rintro e V3 ⟨rfl, hw, hk⟩
  obtain ⟨L3, hL⟩ : ∃ L3, L3 = L2 ++ beB (m64 h.zx) 8 := ⟨_, rfl⟩
  have HLE3 := Lib.hid hL
  have HN3 := Lib.hid (show L3.length ≤ 20 by rw [hL, List.length_append, beB_len]; have := HN2.out; omega)
  have HW3 := Lib.hid (show WrB V3 wb base L3 by rw [hL]; exact hw)
  have HK3 := Lib.hid (HK2.out.trans hk)
  have HX3 := Lib.hid (HX2.out.kw hk HW2.out.size)
  have HGV3 := Lib.hid (hk.heap HGV2.out (by decide) HNE.out)
  clear hw hk hL y2
  have y3 : V3.cell? ⟨w.heap.size, 3, none⟩ = some (.int .i64 h.ti) := by rw [cellH HGV3.out]; rfl
  go_wp2_with fail
  refine (wLong_any wb base L3 h.ti V3 HW3.out (Nat.le_trans HN3.out (by decide))).mono ?_
  rintro e V4 ⟨rfl, hw, hk⟩
  obtain ⟨L4, hL⟩ : ∃ L4, L4 = L3 ++ beB (m64 h.ti) 8 := ⟨_, rfl⟩
  have HLE4 := Lib.hid hL
  have HN4 := Lib.hid (show L4.length ≤ 28 by rw [hL, List.length_append, beB_len]; have := HN3.out; omega)
  have HW4 := Lib.hid (show WrB V4 wb base L4 by rw [hL]; exact hw)
  have HK4 := Lib.hid (HK3.out.trans hk)
  have HX4 := Lib.hid (HX3.out.kw hk HW3.out.size)
  have HGV4 := Lib.hid (hk.heap HGV3.out (by decide) HNE.out)
  clear hw hk hL y3
  have y4 : V4.cell? ⟨w.heap.size, 4, none⟩ = some (.int .i32 h.t.n.ty) := by rw [cellH HGV4.out]; rfl
  go_wp2_with fail
  refine (wInt_any wb base L4 h.t.n.ty V4 HW4.out (Nat.le_trans HN4.out (by decide))).mono ?_
  rintro e V5 ⟨rfl, hw, hk⟩
  obtain ⟨L5, hL⟩ : ∃ L5, L5 = L4 ++ beB (m32 h.t.n.ty) 4 := ⟨_, rfl⟩
  have HLE5 := Lib.hid hL
  have HN5 := Lib.hid (show L5.length ≤ 32 by rw [hL, List.length_append, beB_len]; have := HN4.out; omega)
  have HW5 := Lib.hid (show WrB V5 wb base L5 by rw [hL]; exact hw)
  have HK5 := Lib.hid (HK4.out.trans hk)
  have HX5 := Lib.hid (HX4.out.kw hk HW4.out.size)
  have HGV5 := Lib.hid (hk.heap HGV4.out (by decide) HNE.out)
  clear hw hk hL y4
  have hpu := put_any wb base L5 h.t d.t V5 HW5.out HX5.out HPU.out (Nat.le_trans HN5.out (by decide))
  have y9 : V5.rangeAt w.heap.size 4 (encTx h.t) := rangeAt_heapC (pre := [.int .i64 h.se, .int .i32 h.xi, .int .i64 h.zx, .int .i64 h.ti]) (mid := encTx h.t) (post := []) HGV5.out rfl rfl
  go_wp2_with (first | (apply wpList_loadMid 33; exact rfl; exact rfl; exact rfl; exact (by assumption); exact undTx; exact rfl; exact infTx) | fail)
  refine hpu.mono ?_
  rintro e V6 ⟨rfl, hw, hk⟩
  have HLL := Lib.hid (show L5 ++ bodyB d.t = encB d by rw [HV.out, HLE5.out, HLE4.out, HLE3.out, HLE2.out, HLE1.out]; rfl)
  have HW6 := Lib.hid (show WrB V6 wb base (encB d) by rw [← HLL.out]; exact hw)
  have HK6 := Lib.hid (HK5.out.trans hk)
  have HNN := Lib.hid (show (encB d).length ≤ 70368744177664 by rw [← HLL.out, List.length_append]; have := bodyB_len HPU.out; have := HN5.out; omega)
  clear hw hk hpu y9
  go_wp2_with fail
  refine (wBytes_any wb base (encB d) V6 HW6.out HNN.out).mono ?_
  rintro e V7 ⟨⟨A, c, rfl, hr⟩, hb⟩
  have hk9 := HK6.out.below HBA.out.1 HBA.out.2 HB2.out.size
  have HEND := Lib.hid (show EncP w d (.returned (.tuple #[.slice A (encB d).length c, .int .i64 0])) V7 from
    ⟨(HB2.out.trans hk9).trans (hb.mono (Nat.le_trans HB2.out.size hk9.size)), .inr ⟨HR0.out, A, c, rfl, own_mono hr (Nat.le_trans HB2.out.size hk9.size)⟩⟩)
  clear hr hb hk9
  go_wp2_with fail
  go_ret2
  exact HEND.out
end Go.Proofs.YthpjneobmmpbnaaGreatDoor
namespace Go.Proofs.YthpjneobmmpbnaaGreatDoor
open Go.RowKit Go.MapKept Go.Maps
theorem thenErr {α β : Type} (e : Nat × Int) (f : α → Nat → PR β) : PR.then (.error e) f = .error e := rfl
theorem thenOk2 {α β : Type} (a : α) (q : Nat) (f : α → Nat → PR β) : PR.then (.ok (a, q)) f = f a q := rfl
theorem TabsR.set {rb : Nat} {w : World} (h : TabsR rb w) {g : Nat} (hg : rb < g) (o : Nat) (v : Value) : TabsR rb (w.setCell ⟨g, o, none⟩ v) := by
  obtain ⟨t, n1, n2⟩ := h
  have hk : ∀ (p : Addr) u, p.block < rb → w.cell? p = some u → (w.setCell ⟨g, o, none⟩ v).cell? p = some u := fun p u hp hu => by
    rw [← hu]; exact (fr_setJ w g o v).cellJ (World.block_lt_of_cell? w _ hu) (by simp; omega)
  exact ⟨⟨fun c hc => hk _ _ n1 (t.1 c hc), fun i hi => ⟨hk _ _ n2 (t.2 i hi).1, hk _ _ n2 (t.2 i hi).2⟩⟩, n1, n2⟩
theorem Fr.rb {rb : Nat} {w w' : World} (h : Fr [] w w') : Fr [rb] w w' := ⟨h.os, h.tape, h.output, h.size, fun g hg _ => h.block g hg (by simp)⟩
set_option maxRecDepth 100000 in
theorem rBuffer_any {w : World} {rb n c p : Nat} {A : Option Addr} {l : Bs} (mi : Int) (m : Nat) (hmi : mi = (m : Int)) (h : Rd w rb A n c l p) (hm : m ≤ 1048576) :
    Calls Tryz.prog 116 #[.pointer (some ⟨rb, 0, none⟩), .int .i64 mi] w (RdOut rb A n c l w (bytesP l m p) (fun b u w' => ∃ A2 c2, u = .slice A2 b.length c2 ∧ Row8 w' w.heap.size A2 b.length c2 b)) := by
  subst hmi
  have hN := rBytes_any _ m rfl h hm
  have HD := Lib.hid (done_any h)
  clear h
  rcases hT : bytesP l m p with ⟨q, k⟩ | ⟨b, q⟩
  · rw [hT] at hN
    have HN := Lib.hid hN
    clear hN hT
    go_enter Tryz.func116, Tryz.ntmps116
    go_wp2_with fail
    refine HD.out.mono ?_
    rintro e w1 ⟨rfl, rfl⟩
    go_wp2_with fail
    refine HN.out.mono ?_
    rintro e w2 ⟨rfl, hr, hf⟩
    exact ⟨rfl, rfl, hr, hf⟩
  · obtain ⟨rfl, hbm⟩ := bytesP_ok hT
    rw [hT] at hN
    have HN := Lib.hid hN
    clear hN hT
    go_enter Tryz.func116, Tryz.ntmps116
    go_wp2_with fail
    refine HD.out.mono ?_
    rintro e w1 ⟨rfl, rfl⟩
    go_wp2_with fail
    refine HN.out.mono ?_
    rintro e w2 ⟨⟨u, rfl, A2, c2, rfl, hs, hn, hc2⟩, hr, hf⟩
    have HV := Lib.hid (clone8_any A2 b.length c2 b w2 (hs.more (Nat.le_of_lt hr.lt)) hn (by omega))
    have HR := Lib.hid hr; have HF := Lib.hid hf
    clear hr hf hs hn
    go_wp2_with fail
    refine HV.out.mono ?_
    rintro e w3 ⟨⟨A3, c3, rfl, hrow⟩, hb⟩
    have HR3 := Lib.hid (HR.out.below hb)
    have HF3 := Lib.hid (HF.out.transJ (Fr.of_below hb))
    have HO := Lib.hid (own_mono hrow HF.out.size)
    clear hb hrow
    go_wp2_with fail
    go_ret
    exact ⟨⟨_, rfl, A3, c3, rfl, HO.out⟩, HR3.out, HF3.out⟩
set_option maxRecDepth 100000 in
theorem getIdsD_any {w : World} {rb n c p : Nat} {A : Option Addr} {l : Bs} (h : Rd w rb A n c l p) (hT : TabsR rb w) :
    Calls Tryz.prog 120 #[.pointer (some ⟨rb, 0, none⟩)] w (RdOut rb A n c l w (listP l 16 8 (idP l) p) (fun v u w' => LsOutId w.heap.size v u w')) := by
  have hN := getIds_any h hT
  clear h hT
  go_enter Tryz.func120, Tryz.ntmps120
  rcases hX : listP l 16 8 (idP l) p with ⟨q, k⟩ | ⟨v, q⟩
  · rw [hX] at hN
    have HN := Lib.hid hN
    clear hN hX
    go_wp2_with fail
    refine HN.out.mono ?_
    rintro e w1 ⟨rfl, hr, hf⟩
    exact ⟨rfl, rfl, hr, hf⟩
  · rw [hX] at hN
    have HN := Lib.hid hN
    clear hN hX
    go_wp2_with fail
    refine HN.out.mono ?_
    rintro e w1 ⟨⟨u, rfl, B, d, rfl, hrow⟩, hr, hf⟩
    have HR := Lib.hid hr; have HF := Lib.hid hf; have HO := Lib.hid hrow
    clear hr hf hrow
    go_wp2_with fail
    go_ret
    exact ⟨⟨_, rfl, B, d, rfl, HO.out⟩, HR.out, HF.out⟩
set_option maxRecDepth 100000 in
theorem getAclD_any {w : World} {rb n c p : Nat} {A : Option Addr} {l : Bs} (h : Rd w rb A n c l p) (hT : TabsR rb w) :
    Calls Tryz.prog 117 #[.pointer (some ⟨rb, 0, none⟩)] w (RdOut rb A n c l w (listP l 16 12 (aclP l) p) (fun v u w' => LsOutAcl w.heap.size v u w')) := by
  have hN := getAcls_any h hT
  clear h hT
  go_enter Tryz.func117, Tryz.ntmps117
  rcases hX : listP l 16 12 (aclP l) p with ⟨q, k⟩ | ⟨v, q⟩
  · rw [hX] at hN
    have HN := Lib.hid hN
    clear hN hX
    go_wp2_with fail
    refine HN.out.mono ?_
    rintro e w1 ⟨rfl, hr, hf⟩
    exact ⟨rfl, rfl, hr, hf⟩
  · rw [hX] at hN
    have HN := Lib.hid hN
    clear hN hX
    go_wp2_with fail
    refine HN.out.mono ?_
    rintro e w1 ⟨⟨u, rfl, B, d, rfl, hrow⟩, hr, hf⟩
    have HR := Lib.hid hr; have HF := Lib.hid hf; have HO := Lib.hid hrow
    clear hr hf hrow
    go_wp2_with fail
    go_ret
    exact ⟨⟨_, rfl, B, d, rfl, HO.out⟩, HR.out, HF.out⟩
/-- a transaction without parts that was read -/
def GetL (w0 : World) (v : TxF) (u : Value) (w' : World) : Prop := ∃ h : TxH, u = txV h ∧ locTx w' (NfR w' w0.heap.size) h v ∧ h.s = (none, 0, 0)
theorem row_keep {w1 w2 : World} {base n c k : Nat} {T : TypeId} {A : Option Addr} {xs : List Value} {rb gx o : Nat} {v : Value} (h : w1.ownsRow base T k (.slice A n c) n xs) (hf : Fr [rb] w1 w2) (h1 : rb < base) (h2 : gx < base) : (w2.setCell ⟨gx, o, none⟩ v).ownsRow base T k (.slice A n c) n xs :=
  own_fr (own_fr h hf (by simp; omega)) (fr_setJ w2 gx o v) (by simp; omega)
set_option linter.unusedSimpArgs false in
set_option maxRecDepth 100000 in
set_option maxHeartbeats 4000000 in
theorem get1_any {w : World} {rb n c p : Nat} {A : Option Addr} {l : Bs} (h : Rd w rb A n c l p) (hT : TabsR rb w) :
    Calls Tryz.prog 66 #[.pointer (some ⟨rb, 0, none⟩), .int .i32 1] w (RdOut rb A n c l w (leafP l 1 p) (GetL w)) := by
  have hlt := h.lt
  have hb1 : Below w.heap.size w (w.alloc (.cells #[.int .i32 0, .string ⟨#[]⟩, .slice none 0 0, .slice none 0 0, .int .i64 0, .int .i32 0, .int .i32 0, .bool false, .int .i64 0, .int .i64 0, .int .i64 0, .int .i32 0, .slice none 0 0, .slice none 0 0, .int .i32 0, .slice none 0 0] 33)) := (Below.refl _ w).alloc (Nat.le_refl _) _
  have hb2 : Below w.heap.size w ((w.alloc (.cells #[.int .i32 0, .string ⟨#[]⟩, .slice none 0 0, .slice none 0 0, .int .i64 0, .int .i32 0, .int .i32 0, .bool false, .int .i64 0, .int .i64 0, .int .i64 0, .int .i32 0, .slice none 0 0, .slice none 0 0, .int .i32 0, .slice none 0 0] 33)).alloc (.cells #[.int .i32 1, .string ⟨#[]⟩, .slice none 0 0, .slice none 0 0, .int .i64 0, .int .i32 0, .int .i32 0, .bool false, .int .i64 0, .int .i64 0, .int .i64 0, .int .i32 0, .slice none 0 0, .slice none 0 0, .int .i32 0, .slice none 0 0] 33)) := hb1.alloc hb1.size _
  have HR0 := Lib.hid (h.below hb2)
  have HF0 := Lib.hid (Fr.of_below (own := [rb]) hb2)
  have HT0 := Lib.hid (hT.fr (Fr.of_below hb2))
  have HG0 := Lib.hid (heap_s1 w (.cells #[.int .i32 0, .string ⟨#[]⟩, .slice none 0 0, .slice none 0 0, .int .i64 0, .int .i32 0, .int .i32 0, .bool false, .int .i64 0, .int .i64 0, .int .i64 0, .int .i32 0, .slice none 0 0, .slice none 0 0, .int .i32 0, .slice none 0 0] 33) (.cells #[.int .i32 1, .string ⟨#[]⟩, .slice none 0 0, .slice none 0 0, .int .i64 0, .int .i32 0, .int .i32 0, .bool false, .int .i64 0, .int .i64 0, .int .i64 0, .int .i32 0, .slice none 0 0, .slice none 0 0, .int .i32 0, .slice none 0 0] 33))
  have HZ0 := Lib.hid (heap_under (o := (.cells #[.int .i32 1, .string ⟨#[]⟩, .slice none 0 0, .slice none 0 0, .int .i64 0, .int .i32 0, .int .i32 0, .bool false, .int .i64 0, .int .i64 0, .int .i64 0, .int .i32 0, .slice none 0 0, .slice none 0 0, .int .i32 0, .slice none 0 0] 33)) (heap_s0 w (.cells #[.int .i32 0, .string ⟨#[]⟩, .slice none 0 0, .slice none 0 0, .int .i64 0, .int .i32 0, .int .i32 0, .bool false, .int .i64 0, .int .i64 0, .int .i64 0, .int .i32 0, .slice none 0 0, .slice none 0 0, .int .i32 0, .slice none 0 0] 33)))
  have HLZ := Lib.hid (sz2 w (.cells #[.int .i32 0, .string ⟨#[]⟩, .slice none 0 0, .slice none 0 0, .int .i64 0, .int .i32 0, .int .i32 0, .bool false, .int .i64 0, .int .i64 0, .int .i64 0, .int .i32 0, .slice none 0 0, .slice none 0 0, .int .i32 0, .slice none 0 0] 33) (.cells #[.int .i32 1, .string ⟨#[]⟩, .slice none 0 0, .slice none 0 0, .int .i64 0, .int .i32 0, .int .i32 0, .bool false, .int .i64 0, .int .i64 0, .int .i64 0, .int .i32 0, .slice none 0 0, .slice none 0 0, .int .i32 0, .slice none 0 0] 33))
  have HLF := Lib.hid (show leafP l 1 p = (textP l 4096 p).then fun v0 p0 => (bytesP l 1048575 p0).then fun v1 p1 => (listP l 16 12 (aclP l) p1).then fun v2 p2 => (longP l p2).then fun v3 p3 => (intP l p3).then fun v4 p4 => .ok (⟨⟨1, toBA v0, v3, 0, v4, false, 0, 0, 0, 0, 0⟩, v1, v2.map aclV, [], []⟩, p4) from rfl)
  clear h hT hb1 hb2
  go_enter Tryz.func66, Tryz.ntmps66
  go_upto_region 2 with (first | (apply wpList_storeTop 33 33; exact rfl; exact rfl; exact rfl; (first | (with_reducible rfl) | (exact sz1 _ _) | (exact sz2 _ _ _)); exact rfl; exact infTx; exact rfl; (first | exact oneTx _ | simp [Value.oneCell'])) | fail)
  change Code.wp _ _ _ _ ((w.alloc (.cells #[.int .i32 0, .string ⟨#[]⟩, .slice none 0 0, .slice none 0 0, .int .i64 0, .int .i32 0, .int .i32 0, .bool false, .int .i64 0, .int .i64 0, .int .i64 0, .int .i32 0, .slice none 0 0, .slice none 0 0, .int .i32 0, .slice none 0 0] 33)).alloc (.cells #[.int .i32 1, .string ⟨#[]⟩, .slice none 0 0, .slice none 0 0, .int .i64 0, .int .i32 0, .int .i32 0, .bool false, .int .i64 0, .int .i64 0, .int .i64 0, .int .i32 0, .slice none 0 0, .slice none 0 0, .int .i32 0, .slice none 0 0] 33))
  generalize ((w.alloc (.cells #[.int .i32 0, .string ⟨#[]⟩, .slice none 0 0, .slice none 0 0, .int .i64 0, .int .i32 0, .int .i32 0, .bool false, .int .i64 0, .int .i64 0, .int .i64 0, .int .i32 0, .slice none 0 0, .slice none 0 0, .int .i32 0, .slice none 0 0] 33)).alloc (.cells #[.int .i32 1, .string ⟨#[]⟩, .slice none 0 0, .slice none 0 0, .int .i64 0, .int .i32 0, .int .i32 0, .bool false, .int .i64 0, .int .i64 0, .int .i64 0, .int .i32 0, .slice none 0 0, .slice none 0 0, .int .i32 0, .slice none 0 0] 33)) = W0 at *
  go_wp2_with fail
  refine (part_any 1 W0).mono ?_
  rintro e wq ⟨rfl, rfl⟩
  rename World => W0
  rw [show partB 1 = true from rfl]
  go_wp2_with fail
  have hN := rText_any 4096 4096 rfl HR0.out (by decide) HT0.out
  rcases hX0 : textP l 4096 p with ⟨q, k⟩ | ⟨v0, p0⟩
  · have HG := Lib.hid (show leafP l 1 p = .error (q, k) by rw [HLF.out]; simp only [thenOk2, thenErr, hX0])
    rw [hX0] at hN
    refine hN.mono ?_
    rintro e w9 ⟨rfl, hr, hf⟩
    refine ⟨rfl, ?_⟩
    rw [HG.out]
    exact ⟨rfl, hr, HF0.out.transJ hf⟩
  rw [hX0] at hN
  have HX0 := Lib.hid hX0
  clear hX0
  refine hN.mono ?_
  rintro e w1 ⟨⟨u, rfl, rfl⟩, hr, hf⟩
  have hg := (hf.block _ (Array.getElem?_eq_some_iff.1 HG0.out).1 (by simp; omega)).trans HG0.out
  have z : w1.frozen? ⟨w.heap.size + 1, 1, none⟩ = false := by simp [World.frozen?, hg]
  have y : w1.cell? ⟨w.heap.size + 1, 1, none⟩ = some (.string ⟨#[]⟩) := by rw [cellH hg]; rfl
  have HG1 := Lib.hid (show (w1.setCell ⟨w.heap.size + 1, 1, none⟩ (.string (toBA v0))).heap[w.heap.size + 1]? = some (.cells #[.int .i32 1, .string (toBA v0), .slice none 0 0, .slice none 0 0, .int .i64 0, .int .i32 0, .int .i32 0, .bool false, .int .i64 0, .int .i64 0, .int .i64 0, .int .i32 0, .slice none 0 0, .slice none 0 0, .int .i32 0, .slice none 0 0] 33 (0, 0)) from heap_setJ (o := 1) hg _)
  have HZ1 := Lib.hid ((heap_otherJ w1 (w.heap.size + 1) 1 (.string (toBA v0)) (by omega)).trans ((hf.block _ (Array.getElem?_eq_some_iff.1 HZ0.out).1 (by simp; omega)).trans HZ0.out))
  have HR1 := Lib.hid (hr.fr (fr_setJ w1 (w.heap.size + 1) 1 (.string (toBA v0))) (by simp; omega))
  have HF1 := Lib.hid ((HF0.out.transJ hf).trans (fr_setJ w1 (w.heap.size + 1) 1 (.string (toBA v0))) (by simp))
  have HT1 := Lib.hid ((HT0.out.fr hf).set (show rb < w.heap.size + 1 by omega) 1 (.string (toBA v0)))
  clear hr hf hN hg
  go_wp2_with fail
  clear z y
  generalize (w1.setCell ⟨w.heap.size + 1, 1, none⟩ (.string (toBA v0))) = W1 at *
  have hN := rBuffer_any 1048575 1048575 rfl HR1.out (by decide)
  rcases hX1 : bytesP l 1048575 p0 with ⟨q, k⟩ | ⟨v1, p1⟩
  · have HG := Lib.hid (show leafP l 1 p = .error (q, k) by rw [HLF.out]; simp only [thenOk2, thenErr, HX0.out, hX1])
    rw [hX1] at hN
    refine hN.mono ?_
    rintro e w9 ⟨rfl, hr, hf⟩
    refine ⟨rfl, ?_⟩
    rw [HG.out]
    exact ⟨rfl, hr, HF1.out.transJ hf⟩
  rw [hX1] at hN
  have HX1 := Lib.hid hX1
  clear hX1
  refine hN.mono ?_
  rintro e w2 ⟨⟨u, rfl, A1, c1, rfl, hrow⟩, hr, hf⟩
  have hg := (hf.block _ (Array.getElem?_eq_some_iff.1 HG1.out).1 (by simp; omega)).trans HG1.out
  have z : w2.frozen? ⟨w.heap.size + 1, 2, none⟩ = false := by simp [World.frozen?, hg]
  have y : w2.cell? ⟨w.heap.size + 1, 2, none⟩ = some (.slice none 0 0) := by rw [cellH hg]; rfl
  have HG2 := Lib.hid (show (w2.setCell ⟨w.heap.size + 1, 2, none⟩ (.slice A1 v1.length c1)).heap[w.heap.size + 1]? = some (.cells #[.int .i32 1, .string (toBA v0), .slice A1 v1.length c1, .slice none 0 0, .int .i64 0, .int .i32 0, .int .i32 0, .bool false, .int .i64 0, .int .i64 0, .int .i64 0, .int .i32 0, .slice none 0 0, .slice none 0 0, .int .i32 0, .slice none 0 0] 33 (0, 0)) from heap_setJ (o := 2) hg _)
  have HZ2 := Lib.hid ((heap_otherJ w2 (w.heap.size + 1) 2 (.slice A1 v1.length c1) (by omega)).trans ((hf.block _ (Array.getElem?_eq_some_iff.1 HZ1.out).1 (by simp; omega)).trans HZ1.out))
  have HR2 := Lib.hid (hr.fr (fr_setJ w2 (w.heap.size + 1) 2 (.slice A1 v1.length c1)) (by simp; omega))
  have HF2 := Lib.hid ((HF1.out.transJ hf).trans (fr_setJ w2 (w.heap.size + 1) 2 (.slice A1 v1.length c1)) (by simp))
  have HT2 := Lib.hid ((HT1.out.fr hf).set (show rb < w.heap.size + 1 by omega) 2 (.slice A1 v1.length c1))
  obtain ⟨B1, hB1⟩ : ∃ B, B = W1.heap.size := ⟨_, rfl⟩
  rw [← hB1] at hrow
  have HLB1 := Lib.hid (show w.heap.size + 2 ≤ B1 by rw [hB1]; have h8 := (Array.getElem?_eq_some_iff.1 HG1.out).1; omega)
  have HL1 := Lib.hid (own_fr hrow (fr_setJ w2 (w.heap.size + 1) 2 (.slice A1 v1.length c1)) (by have := HLB1.out; simp; omega))
  clear hrow hB1
  clear hr hf hN hg
  go_wp2_with fail
  clear z y
  generalize (w2.setCell ⟨w.heap.size + 1, 2, none⟩ (.slice A1 v1.length c1)) = W2 at *
  have hN := getAclD_any HR2.out HT2.out
  rcases hX2 : listP l 16 12 (aclP l) p1 with ⟨q, k⟩ | ⟨v2, p2⟩
  · have HG := Lib.hid (show leafP l 1 p = .error (q, k) by rw [HLF.out]; simp only [thenOk2, thenErr, HX0.out, HX1.out, hX2])
    rw [hX2] at hN
    refine hN.mono ?_
    rintro e w9 ⟨rfl, hr, hf⟩
    refine ⟨rfl, ?_⟩
    rw [HG.out]
    exact ⟨rfl, hr, HF2.out.transJ hf⟩
  rw [hX2] at hN
  have HX2 := Lib.hid hX2
  clear hX2
  refine hN.mono ?_
  rintro e w3 ⟨⟨u, rfl, A2, c2, rfl, hrow⟩, hr, hf⟩
  have hg := (hf.block _ (Array.getElem?_eq_some_iff.1 HG2.out).1 (by simp; omega)).trans HG2.out
  have z : w3.frozen? ⟨w.heap.size + 1, 3, none⟩ = false := by simp [World.frozen?, hg]
  have y : w3.cell? ⟨w.heap.size + 1, 3, none⟩ = some (.slice none 0 0) := by rw [cellH hg]; rfl
  have HG3 := Lib.hid (show (w3.setCell ⟨w.heap.size + 1, 3, none⟩ (.slice A2 v2.length c2)).heap[w.heap.size + 1]? = some (.cells #[.int .i32 1, .string (toBA v0), .slice A1 v1.length c1, .slice A2 v2.length c2, .int .i64 0, .int .i32 0, .int .i32 0, .bool false, .int .i64 0, .int .i64 0, .int .i64 0, .int .i32 0, .slice none 0 0, .slice none 0 0, .int .i32 0, .slice none 0 0] 33 (0, 0)) from heap_setJ (o := 3) hg _)
  have HZ3 := Lib.hid ((heap_otherJ w3 (w.heap.size + 1) 3 (.slice A2 v2.length c2) (by omega)).trans ((hf.block _ (Array.getElem?_eq_some_iff.1 HZ2.out).1 (by simp; omega)).trans HZ2.out))
  have HR3 := Lib.hid (hr.fr (fr_setJ w3 (w.heap.size + 1) 3 (.slice A2 v2.length c2)) (by simp; omega))
  have HF3 := Lib.hid ((HF2.out.transJ hf).trans (fr_setJ w3 (w.heap.size + 1) 3 (.slice A2 v2.length c2)) (by simp))
  have HT3 := Lib.hid ((HT2.out.fr hf).set (show rb < w.heap.size + 1 by omega) 3 (.slice A2 v2.length c2))
  have HL1 := Lib.hid (row_keep (o := 3) (v := .slice A2 v2.length c2) HL1.out hf (by have := HLB1.out; omega) (show w.heap.size + 1 < B1 by have := HLB1.out; omega))
  obtain ⟨B2, hB2⟩ : ∃ B, B = W2.heap.size := ⟨_, rfl⟩
  rw [← hB2] at hrow
  have HLB2 := Lib.hid (show w.heap.size + 2 ≤ B2 by rw [hB2]; have h8 := (Array.getElem?_eq_some_iff.1 HG2.out).1; omega)
  have HL2 := Lib.hid (own_fr hrow (fr_setJ w3 (w.heap.size + 1) 3 (.slice A2 v2.length c2)) (by have := HLB2.out; simp; omega))
  clear hrow hB2
  clear hr hf hN hg
  go_wp2_with fail
  clear z y
  generalize (w3.setCell ⟨w.heap.size + 1, 3, none⟩ (.slice A2 v2.length c2)) = W3 at *
  have hN := rLong_any HR3.out
  rcases hX3 : longP l p2 with ⟨q, k⟩ | ⟨v3, p3⟩
  · have HG := Lib.hid (show leafP l 1 p = .error (q, k) by rw [HLF.out]; simp only [thenOk2, thenErr, HX0.out, HX1.out, HX2.out, hX3])
    rw [hX3] at hN
    refine hN.mono ?_
    rintro e w9 ⟨rfl, hr, hf⟩
    refine ⟨rfl, ?_⟩
    rw [HG.out]
    exact ⟨rfl, hr, HF3.out.transJ hf⟩
  rw [hX3] at hN
  have HX3 := Lib.hid hX3
  clear hX3
  refine hN.mono ?_
  rintro e w4 ⟨⟨u, rfl, rfl⟩, hr, hf⟩
  have hg := (hf.block _ (Array.getElem?_eq_some_iff.1 HG3.out).1 (by simp; omega)).trans HG3.out
  have z : w4.frozen? ⟨w.heap.size + 1, 4, none⟩ = false := by simp [World.frozen?, hg]
  have y : w4.cell? ⟨w.heap.size + 1, 4, none⟩ = some (.int .i64 0) := by rw [cellH hg]; rfl
  have HG4 := Lib.hid (show (w4.setCell ⟨w.heap.size + 1, 4, none⟩ (.int .i64 v3)).heap[w.heap.size + 1]? = some (.cells #[.int .i32 1, .string (toBA v0), .slice A1 v1.length c1, .slice A2 v2.length c2, .int .i64 v3, .int .i32 0, .int .i32 0, .bool false, .int .i64 0, .int .i64 0, .int .i64 0, .int .i32 0, .slice none 0 0, .slice none 0 0, .int .i32 0, .slice none 0 0] 33 (0, 0)) from heap_setJ (o := 4) hg _)
  have HZ4 := Lib.hid ((heap_otherJ w4 (w.heap.size + 1) 4 (.int .i64 v3) (by omega)).trans ((hf.block _ (Array.getElem?_eq_some_iff.1 HZ3.out).1 (by simp; omega)).trans HZ3.out))
  have HR4 := Lib.hid (hr.fr (fr_setJ w4 (w.heap.size + 1) 4 (.int .i64 v3)) (by simp; omega))
  have HF4 := Lib.hid ((HF3.out.transJ hf).trans (fr_setJ w4 (w.heap.size + 1) 4 (.int .i64 v3)) (by simp))
  have HT4 := Lib.hid ((HT3.out.fr hf).set (show rb < w.heap.size + 1 by omega) 4 (.int .i64 v3))
  have HL1 := Lib.hid (row_keep (o := 4) (v := .int .i64 v3) HL1.out hf (by have := HLB1.out; omega) (show w.heap.size + 1 < B1 by have := HLB1.out; omega))
  have HL2 := Lib.hid (row_keep (o := 4) (v := .int .i64 v3) HL2.out hf (by have := HLB2.out; omega) (show w.heap.size + 1 < B2 by have := HLB2.out; omega))
  clear hr hf hN hg
  go_wp2_with fail
  clear z y
  generalize (w4.setCell ⟨w.heap.size + 1, 4, none⟩ (.int .i64 v3)) = W4 at *
  have hN := rInt_any HR4.out
  rcases hX4 : intP l p3 with ⟨q, k⟩ | ⟨v4, p4⟩
  · have HG := Lib.hid (show leafP l 1 p = .error (q, k) by rw [HLF.out]; simp only [thenOk2, thenErr, HX0.out, HX1.out, HX2.out, HX3.out, hX4])
    rw [hX4] at hN
    refine hN.mono ?_
    rintro e w9 ⟨rfl, hr, hf⟩
    refine ⟨rfl, ?_⟩
    rw [HG.out]
    exact ⟨rfl, hr, HF4.out.transJ hf⟩
  rw [hX4] at hN
  have HX4 := Lib.hid hX4
  clear hX4
  refine hN.mono ?_
  rintro e w5 ⟨⟨u, rfl, rfl⟩, hr, hf⟩
  have hg := (hf.block _ (Array.getElem?_eq_some_iff.1 HG4.out).1 (by simp; omega)).trans HG4.out
  have z : w5.frozen? ⟨w.heap.size + 1, 6, none⟩ = false := by simp [World.frozen?, hg]
  have y : w5.cell? ⟨w.heap.size + 1, 6, none⟩ = some (.int .i32 0) := by rw [cellH hg]; rfl
  have HG5 := Lib.hid (show (w5.setCell ⟨w.heap.size + 1, 6, none⟩ (.int .i32 v4)).heap[w.heap.size + 1]? = some (.cells #[.int .i32 1, .string (toBA v0), .slice A1 v1.length c1, .slice A2 v2.length c2, .int .i64 v3, .int .i32 0, .int .i32 v4, .bool false, .int .i64 0, .int .i64 0, .int .i64 0, .int .i32 0, .slice none 0 0, .slice none 0 0, .int .i32 0, .slice none 0 0] 33 (0, 0)) from heap_setJ (o := 6) hg _)
  have HZ5 := Lib.hid ((heap_otherJ w5 (w.heap.size + 1) 6 (.int .i32 v4) (by omega)).trans ((hf.block _ (Array.getElem?_eq_some_iff.1 HZ4.out).1 (by simp; omega)).trans HZ4.out))
  have HR5 := Lib.hid (hr.fr (fr_setJ w5 (w.heap.size + 1) 6 (.int .i32 v4)) (by simp; omega))
  have HF5 := Lib.hid ((HF4.out.transJ hf).trans (fr_setJ w5 (w.heap.size + 1) 6 (.int .i32 v4)) (by simp))
  have HT5 := Lib.hid ((HT4.out.fr hf).set (show rb < w.heap.size + 1 by omega) 6 (.int .i32 v4))
  have HL1 := Lib.hid (row_keep (o := 6) (v := .int .i32 v4) HL1.out hf (by have := HLB1.out; omega) (show w.heap.size + 1 < B1 by have := HLB1.out; omega))
  have HL2 := Lib.hid (row_keep (o := 6) (v := .int .i32 v4) HL2.out hf (by have := HLB2.out; omega) (show w.heap.size + 1 < B2 by have := HLB2.out; omega))
  clear hr hf hN hg
  go_upto_region 31 with fail
  clear z y
  generalize (w5.setCell ⟨w.heap.size + 1, 6, none⟩ (.int .i32 v4)) = V at *
  have gX := HG5.out
  have gZ := HZ5.out
  go_wp2_with (first | (apply wpList_loadRow 33 33; exact rfl; exact rfl; exact rfl; assumption; exact undTx; exact rfl; exact infTx) | (apply wpList_storeRow 33 33; exact rfl; exact rfl; exact rfl; exact rfl; assumption; exact infTx; exact rfl; simp [Value.oneCell']) | fail)
  have hfz := fr_setRow9 V w.heap.size #[.int .i32 1, .string (toBA v0), .slice A1 v1.length c1, .slice A2 v2.length c2, .int .i64 v3, .int .i32 0, .int .i32 v4, .bool false, .int .i64 0, .int .i64 0, .int .i64 0, .int .i32 0, .slice none 0 0, .slice none 0 0, .int .i32 0, .slice none 0 0]
  have HEND := Lib.hid (show RdOut rb A n c l w (leafP l 1 p) (GetL w) (.returned (txV ⟨⟨1, toBA v0, v3, 0, v4, false, 0, 0, 0, 0, 0⟩, (A1, v1.length, c1), (A2, v2.length, c2), (none, 0, 0), (none, 0, 0), (none, 0, 0)⟩)) (V.setRow w.heap.size #[.int .i32 1, .string (toBA v0), .slice A1 v1.length c1, .slice A2 v2.length c2, .int .i64 v3, .int .i32 0, .int .i32 v4, .bool false, .int .i64 0, .int .i64 0, .int .i64 0, .int .i32 0, .slice none 0 0, .slice none 0 0, .int .i32 0, .slice none 0 0]) by
    have hlf : leafP l 1 p = .ok (⟨⟨1, toBA v0, v3, 0, v4, false, 0, 0, 0, 0, 0⟩, v1, v2.map aclV, [], []⟩, p4) := by rw [HLF.out]; simp only [thenOk2, HX0.out, HX1.out, HX2.out, HX3.out, HX4.out]
    rw [hlf]
    exact ⟨⟨_, rfl, _, rfl, ⟨rfl, own_slrN (own_mono (own_fr HL1.out hfz (by have := HLB1.out; simp; omega)) (by have := HLB1.out; omega)) (fun _ => rfl) (by simp), own_slrN (own_mono (own_fr HL2.out hfz (by have := HLB2.out; simp; omega)) (by have := HLB2.out; omega)) (fun _ => rfl) (by simp), SlR.nil_, SlR.nil_⟩, rfl⟩, HR5.out.fr hfz (by simp; omega), HF5.out.trans hfz (by simp)⟩)
  exact bodyPost_cell rfl rfl (setRow_heap _ _ _ _ _ _ gZ) undTx rfl infTx rfl HEND.out
set_option linter.unusedSimpArgs false in
set_option maxRecDepth 100000 in
set_option maxHeartbeats 4000000 in
theorem get2_any {w : World} {rb n c p : Nat} {A : Option Addr} {l : Bs} (h : Rd w rb A n c l p) (hT : TabsR rb w) :
    Calls Tryz.prog 66 #[.pointer (some ⟨rb, 0, none⟩), .int .i32 2] w (RdOut rb A n c l w (leafP l 2 p) (GetL w)) := by
  have hlt := h.lt
  have hb1 : Below w.heap.size w (w.alloc (.cells #[.int .i32 0, .string ⟨#[]⟩, .slice none 0 0, .slice none 0 0, .int .i64 0, .int .i32 0, .int .i32 0, .bool false, .int .i64 0, .int .i64 0, .int .i64 0, .int .i32 0, .slice none 0 0, .slice none 0 0, .int .i32 0, .slice none 0 0] 33)) := (Below.refl _ w).alloc (Nat.le_refl _) _
  have hb2 : Below w.heap.size w ((w.alloc (.cells #[.int .i32 0, .string ⟨#[]⟩, .slice none 0 0, .slice none 0 0, .int .i64 0, .int .i32 0, .int .i32 0, .bool false, .int .i64 0, .int .i64 0, .int .i64 0, .int .i32 0, .slice none 0 0, .slice none 0 0, .int .i32 0, .slice none 0 0] 33)).alloc (.cells #[.int .i32 2, .string ⟨#[]⟩, .slice none 0 0, .slice none 0 0, .int .i64 0, .int .i32 0, .int .i32 0, .bool false, .int .i64 0, .int .i64 0, .int .i64 0, .int .i32 0, .slice none 0 0, .slice none 0 0, .int .i32 0, .slice none 0 0] 33)) := hb1.alloc hb1.size _
  have HR0 := Lib.hid (h.below hb2)
  have HF0 := Lib.hid (Fr.of_below (own := [rb]) hb2)
  have HT0 := Lib.hid (hT.fr (Fr.of_below hb2))
  have HG0 := Lib.hid (heap_s1 w (.cells #[.int .i32 0, .string ⟨#[]⟩, .slice none 0 0, .slice none 0 0, .int .i64 0, .int .i32 0, .int .i32 0, .bool false, .int .i64 0, .int .i64 0, .int .i64 0, .int .i32 0, .slice none 0 0, .slice none 0 0, .int .i32 0, .slice none 0 0] 33) (.cells #[.int .i32 2, .string ⟨#[]⟩, .slice none 0 0, .slice none 0 0, .int .i64 0, .int .i32 0, .int .i32 0, .bool false, .int .i64 0, .int .i64 0, .int .i64 0, .int .i32 0, .slice none 0 0, .slice none 0 0, .int .i32 0, .slice none 0 0] 33))
  have HZ0 := Lib.hid (heap_under (o := (.cells #[.int .i32 2, .string ⟨#[]⟩, .slice none 0 0, .slice none 0 0, .int .i64 0, .int .i32 0, .int .i32 0, .bool false, .int .i64 0, .int .i64 0, .int .i64 0, .int .i32 0, .slice none 0 0, .slice none 0 0, .int .i32 0, .slice none 0 0] 33)) (heap_s0 w (.cells #[.int .i32 0, .string ⟨#[]⟩, .slice none 0 0, .slice none 0 0, .int .i64 0, .int .i32 0, .int .i32 0, .bool false, .int .i64 0, .int .i64 0, .int .i64 0, .int .i32 0, .slice none 0 0, .slice none 0 0, .int .i32 0, .slice none 0 0] 33)))
  have HLZ := Lib.hid (sz2 w (.cells #[.int .i32 0, .string ⟨#[]⟩, .slice none 0 0, .slice none 0 0, .int .i64 0, .int .i32 0, .int .i32 0, .bool false, .int .i64 0, .int .i64 0, .int .i64 0, .int .i32 0, .slice none 0 0, .slice none 0 0, .int .i32 0, .slice none 0 0] 33) (.cells #[.int .i32 2, .string ⟨#[]⟩, .slice none 0 0, .slice none 0 0, .int .i64 0, .int .i32 0, .int .i32 0, .bool false, .int .i64 0, .int .i64 0, .int .i64 0, .int .i32 0, .slice none 0 0, .slice none 0 0, .int .i32 0, .slice none 0 0] 33))
  have HLF := Lib.hid (show leafP l 2 p = (textP l 4096 p).then fun v0 p0 => .ok (⟨⟨2, toBA v0, 0, 0, 0, false, 0, 0, 0, 0, 0⟩, [], [], [], []⟩, p0) from rfl)
  clear h hT hb1 hb2
  go_enter Tryz.func66, Tryz.ntmps66
  go_upto_region 2 with (first | (apply wpList_storeTop 33 33; exact rfl; exact rfl; exact rfl; (first | (with_reducible rfl) | (exact sz1 _ _) | (exact sz2 _ _ _)); exact rfl; exact infTx; exact rfl; (first | exact oneTx _ | simp [Value.oneCell'])) | fail)
  change Code.wp _ _ _ _ ((w.alloc (.cells #[.int .i32 0, .string ⟨#[]⟩, .slice none 0 0, .slice none 0 0, .int .i64 0, .int .i32 0, .int .i32 0, .bool false, .int .i64 0, .int .i64 0, .int .i64 0, .int .i32 0, .slice none 0 0, .slice none 0 0, .int .i32 0, .slice none 0 0] 33)).alloc (.cells #[.int .i32 2, .string ⟨#[]⟩, .slice none 0 0, .slice none 0 0, .int .i64 0, .int .i32 0, .int .i32 0, .bool false, .int .i64 0, .int .i64 0, .int .i64 0, .int .i32 0, .slice none 0 0, .slice none 0 0, .int .i32 0, .slice none 0 0] 33))
  generalize ((w.alloc (.cells #[.int .i32 0, .string ⟨#[]⟩, .slice none 0 0, .slice none 0 0, .int .i64 0, .int .i32 0, .int .i32 0, .bool false, .int .i64 0, .int .i64 0, .int .i64 0, .int .i32 0, .slice none 0 0, .slice none 0 0, .int .i32 0, .slice none 0 0] 33)).alloc (.cells #[.int .i32 2, .string ⟨#[]⟩, .slice none 0 0, .slice none 0 0, .int .i64 0, .int .i32 0, .int .i32 0, .bool false, .int .i64 0, .int .i64 0, .int .i64 0, .int .i32 0, .slice none 0 0, .slice none 0 0, .int .i32 0, .slice none 0 0] 33)) = W0 at *
  go_wp2_with fail
  refine (part_any 2 W0).mono ?_
  rintro e wq ⟨rfl, rfl⟩
  rename World => W0
  rw [show partB 2 = true from rfl]
  go_wp2_with fail
  have hN := rText_any 4096 4096 rfl HR0.out (by decide) HT0.out
  rcases hX0 : textP l 4096 p with ⟨q, k⟩ | ⟨v0, p0⟩
  · have HG := Lib.hid (show leafP l 2 p = .error (q, k) by rw [HLF.out]; simp only [thenOk2, thenErr, hX0])
    rw [hX0] at hN
    refine hN.mono ?_
    rintro e w9 ⟨rfl, hr, hf⟩
    refine ⟨rfl, ?_⟩
    rw [HG.out]
    exact ⟨rfl, hr, HF0.out.transJ hf⟩
  rw [hX0] at hN
  have HX0 := Lib.hid hX0
  clear hX0
  refine hN.mono ?_
  rintro e w1 ⟨⟨u, rfl, rfl⟩, hr, hf⟩
  have hg := (hf.block _ (Array.getElem?_eq_some_iff.1 HG0.out).1 (by simp; omega)).trans HG0.out
  have z : w1.frozen? ⟨w.heap.size + 1, 1, none⟩ = false := by simp [World.frozen?, hg]
  have y : w1.cell? ⟨w.heap.size + 1, 1, none⟩ = some (.string ⟨#[]⟩) := by rw [cellH hg]; rfl
  have HG1 := Lib.hid (show (w1.setCell ⟨w.heap.size + 1, 1, none⟩ (.string (toBA v0))).heap[w.heap.size + 1]? = some (.cells #[.int .i32 2, .string (toBA v0), .slice none 0 0, .slice none 0 0, .int .i64 0, .int .i32 0, .int .i32 0, .bool false, .int .i64 0, .int .i64 0, .int .i64 0, .int .i32 0, .slice none 0 0, .slice none 0 0, .int .i32 0, .slice none 0 0] 33 (0, 0)) from heap_setJ (o := 1) hg _)
  have HZ1 := Lib.hid ((heap_otherJ w1 (w.heap.size + 1) 1 (.string (toBA v0)) (by omega)).trans ((hf.block _ (Array.getElem?_eq_some_iff.1 HZ0.out).1 (by simp; omega)).trans HZ0.out))
  have HR1 := Lib.hid (hr.fr (fr_setJ w1 (w.heap.size + 1) 1 (.string (toBA v0))) (by simp; omega))
  have HF1 := Lib.hid ((HF0.out.transJ hf).trans (fr_setJ w1 (w.heap.size + 1) 1 (.string (toBA v0))) (by simp))
  have HT1 := Lib.hid ((HT0.out.fr hf).set (show rb < w.heap.size + 1 by omega) 1 (.string (toBA v0)))
  clear hr hf hN hg
  go_upto_region 31 with fail
  clear z y
  generalize (w1.setCell ⟨w.heap.size + 1, 1, none⟩ (.string (toBA v0))) = V at *
  have gX := HG1.out
  have gZ := HZ1.out
  go_wp2_with (first | (apply wpList_loadRow 33 33; exact rfl; exact rfl; exact rfl; assumption; exact undTx; exact rfl; exact infTx) | (apply wpList_storeRow 33 33; exact rfl; exact rfl; exact rfl; exact rfl; assumption; exact infTx; exact rfl; simp [Value.oneCell']) | fail)
  have hfz := fr_setRow9 V w.heap.size #[.int .i32 2, .string (toBA v0), .slice none 0 0, .slice none 0 0, .int .i64 0, .int .i32 0, .int .i32 0, .bool false, .int .i64 0, .int .i64 0, .int .i64 0, .int .i32 0, .slice none 0 0, .slice none 0 0, .int .i32 0, .slice none 0 0]
  have HEND := Lib.hid (show RdOut rb A n c l w (leafP l 2 p) (GetL w) (.returned (txV ⟨⟨2, toBA v0, 0, 0, 0, false, 0, 0, 0, 0, 0⟩, (none, 0, 0), (none, 0, 0), (none, 0, 0), (none, 0, 0), (none, 0, 0)⟩)) (V.setRow w.heap.size #[.int .i32 2, .string (toBA v0), .slice none 0 0, .slice none 0 0, .int .i64 0, .int .i32 0, .int .i32 0, .bool false, .int .i64 0, .int .i64 0, .int .i64 0, .int .i32 0, .slice none 0 0, .slice none 0 0, .int .i32 0, .slice none 0 0]) by
    have hlf : leafP l 2 p = .ok (⟨⟨2, toBA v0, 0, 0, 0, false, 0, 0, 0, 0, 0⟩, [], [], [], []⟩, p0) := by rw [HLF.out]; simp only [thenOk2, HX0.out]
    rw [hlf]
    exact ⟨⟨_, rfl, _, rfl, ⟨rfl, SlR.nil_, SlR.nil_, SlR.nil_, SlR.nil_⟩, rfl⟩, HR1.out.fr hfz (by simp; omega), HF1.out.trans hfz (by simp)⟩)
  exact bodyPost_cell rfl rfl (setRow_heap _ _ _ _ _ _ gZ) undTx rfl infTx rfl HEND.out
set_option linter.unusedSimpArgs false in
set_option maxRecDepth 100000 in
set_option maxHeartbeats 4000000 in
theorem get121_any {w : World} {rb n c p : Nat} {A : Option Addr} {l : Bs} (h : Rd w rb A n c l p) (hT : TabsR rb w) :
    Calls Tryz.prog 66 #[.pointer (some ⟨rb, 0, none⟩), .int .i32 121] w (RdOut rb A n c l w (leafP l 121 p) (GetL w)) := by
  have hlt := h.lt
  have hb1 : Below w.heap.size w (w.alloc (.cells #[.int .i32 0, .string ⟨#[]⟩, .slice none 0 0, .slice none 0 0, .int .i64 0, .int .i32 0, .int .i32 0, .bool false, .int .i64 0, .int .i64 0, .int .i64 0, .int .i32 0, .slice none 0 0, .slice none 0 0, .int .i32 0, .slice none 0 0] 33)) := (Below.refl _ w).alloc (Nat.le_refl _) _
  have hb2 : Below w.heap.size w ((w.alloc (.cells #[.int .i32 0, .string ⟨#[]⟩, .slice none 0 0, .slice none 0 0, .int .i64 0, .int .i32 0, .int .i32 0, .bool false, .int .i64 0, .int .i64 0, .int .i64 0, .int .i32 0, .slice none 0 0, .slice none 0 0, .int .i32 0, .slice none 0 0] 33)).alloc (.cells #[.int .i32 121, .string ⟨#[]⟩, .slice none 0 0, .slice none 0 0, .int .i64 0, .int .i32 0, .int .i32 0, .bool false, .int .i64 0, .int .i64 0, .int .i64 0, .int .i32 0, .slice none 0 0, .slice none 0 0, .int .i32 0, .slice none 0 0] 33)) := hb1.alloc hb1.size _
  have HR0 := Lib.hid (h.below hb2)
  have HF0 := Lib.hid (Fr.of_below (own := [rb]) hb2)
  have HT0 := Lib.hid (hT.fr (Fr.of_below hb2))
  have HG0 := Lib.hid (heap_s1 w (.cells #[.int .i32 0, .string ⟨#[]⟩, .slice none 0 0, .slice none 0 0, .int .i64 0, .int .i32 0, .int .i32 0, .bool false, .int .i64 0, .int .i64 0, .int .i64 0, .int .i32 0, .slice none 0 0, .slice none 0 0, .int .i32 0, .slice none 0 0] 33) (.cells #[.int .i32 121, .string ⟨#[]⟩, .slice none 0 0, .slice none 0 0, .int .i64 0, .int .i32 0, .int .i32 0, .bool false, .int .i64 0, .int .i64 0, .int .i64 0, .int .i32 0, .slice none 0 0, .slice none 0 0, .int .i32 0, .slice none 0 0] 33))
  have HZ0 := Lib.hid (heap_under (o := (.cells #[.int .i32 121, .string ⟨#[]⟩, .slice none 0 0, .slice none 0 0, .int .i64 0, .int .i32 0, .int .i32 0, .bool false, .int .i64 0, .int .i64 0, .int .i64 0, .int .i32 0, .slice none 0 0, .slice none 0 0, .int .i32 0, .slice none 0 0] 33)) (heap_s0 w (.cells #[.int .i32 0, .string ⟨#[]⟩, .slice none 0 0, .slice none 0 0, .int .i64 0, .int .i32 0, .int .i32 0, .bool false, .int .i64 0, .int .i64 0, .int .i64 0, .int .i32 0, .slice none 0 0, .slice none 0 0, .int .i32 0, .slice none 0 0] 33)))
  have HLZ := Lib.hid (sz2 w (.cells #[.int .i32 0, .string ⟨#[]⟩, .slice none 0 0, .slice none 0 0, .int .i64 0, .int .i32 0, .int .i32 0, .bool false, .int .i64 0, .int .i64 0, .int .i64 0, .int .i32 0, .slice none 0 0, .slice none 0 0, .int .i32 0, .slice none 0 0] 33) (.cells #[.int .i32 121, .string ⟨#[]⟩, .slice none 0 0, .slice none 0 0, .int .i64 0, .int .i32 0, .int .i32 0, .bool false, .int .i64 0, .int .i64 0, .int .i64 0, .int .i32 0, .slice none 0 0, .slice none 0 0, .int .i32 0, .slice none 0 0] 33))
  have HLF := Lib.hid (show leafP l 121 p = (textP l 4096 p).then fun v0 p0 => .ok (⟨⟨121, toBA v0, 0, 0, 0, false, 0, 0, 0, 0, 0⟩, [], [], [], []⟩, p0) from rfl)
  clear h hT hb1 hb2
  go_enter Tryz.func66, Tryz.ntmps66
  go_upto_region 2 with (first | (apply wpList_storeTop 33 33; exact rfl; exact rfl; exact rfl; (first | (with_reducible rfl) | (exact sz1 _ _) | (exact sz2 _ _ _)); exact rfl; exact infTx; exact rfl; (first | exact oneTx _ | simp [Value.oneCell'])) | fail)
  change Code.wp _ _ _ _ ((w.alloc (.cells #[.int .i32 0, .string ⟨#[]⟩, .slice none 0 0, .slice none 0 0, .int .i64 0, .int .i32 0, .int .i32 0, .bool false, .int .i64 0, .int .i64 0, .int .i64 0, .int .i32 0, .slice none 0 0, .slice none 0 0, .int .i32 0, .slice none 0 0] 33)).alloc (.cells #[.int .i32 121, .string ⟨#[]⟩, .slice none 0 0, .slice none 0 0, .int .i64 0, .int .i32 0, .int .i32 0, .bool false, .int .i64 0, .int .i64 0, .int .i64 0, .int .i32 0, .slice none 0 0, .slice none 0 0, .int .i32 0, .slice none 0 0] 33))
  generalize ((w.alloc (.cells #[.int .i32 0, .string ⟨#[]⟩, .slice none 0 0, .slice none 0 0, .int .i64 0, .int .i32 0, .int .i32 0, .bool false, .int .i64 0, .int .i64 0, .int .i64 0, .int .i32 0, .slice none 0 0, .slice none 0 0, .int .i32 0, .slice none 0 0] 33)).alloc (.cells #[.int .i32 121, .string ⟨#[]⟩, .slice none 0 0, .slice none 0 0, .int .i64 0, .int .i32 0, .int .i32 0, .bool false, .int .i64 0, .int .i64 0, .int .i64 0, .int .i32 0, .slice none 0 0, .slice none 0 0, .int .i32 0, .slice none 0 0] 33)) = W0 at *
  go_wp2_with fail
  refine (part_any 121 W0).mono ?_
  rintro e wq ⟨rfl, rfl⟩
  rename World => W0
  rw [show partB 121 = true from rfl]
  go_wp2_with fail
  have hN := rText_any 4096 4096 rfl HR0.out (by decide) HT0.out
  rcases hX0 : textP l 4096 p with ⟨q, k⟩ | ⟨v0, p0⟩
  · have HG := Lib.hid (show leafP l 121 p = .error (q, k) by rw [HLF.out]; simp only [thenOk2, thenErr, hX0])
    rw [hX0] at hN
    refine hN.mono ?_
    rintro e w9 ⟨rfl, hr, hf⟩
    refine ⟨rfl, ?_⟩
    rw [HG.out]
    exact ⟨rfl, hr, HF0.out.transJ hf⟩
  rw [hX0] at hN
  have HX0 := Lib.hid hX0
  clear hX0
  refine hN.mono ?_
  rintro e w1 ⟨⟨u, rfl, rfl⟩, hr, hf⟩
  have hg := (hf.block _ (Array.getElem?_eq_some_iff.1 HG0.out).1 (by simp; omega)).trans HG0.out
  have z : w1.frozen? ⟨w.heap.size + 1, 1, none⟩ = false := by simp [World.frozen?, hg]
  have y : w1.cell? ⟨w.heap.size + 1, 1, none⟩ = some (.string ⟨#[]⟩) := by rw [cellH hg]; rfl
  have HG1 := Lib.hid (show (w1.setCell ⟨w.heap.size + 1, 1, none⟩ (.string (toBA v0))).heap[w.heap.size + 1]? = some (.cells #[.int .i32 121, .string (toBA v0), .slice none 0 0, .slice none 0 0, .int .i64 0, .int .i32 0, .int .i32 0, .bool false, .int .i64 0, .int .i64 0, .int .i64 0, .int .i32 0, .slice none 0 0, .slice none 0 0, .int .i32 0, .slice none 0 0] 33 (0, 0)) from heap_setJ (o := 1) hg _)
  have HZ1 := Lib.hid ((heap_otherJ w1 (w.heap.size + 1) 1 (.string (toBA v0)) (by omega)).trans ((hf.block _ (Array.getElem?_eq_some_iff.1 HZ0.out).1 (by simp; omega)).trans HZ0.out))
  have HR1 := Lib.hid (hr.fr (fr_setJ w1 (w.heap.size + 1) 1 (.string (toBA v0))) (by simp; omega))
  have HF1 := Lib.hid ((HF0.out.transJ hf).trans (fr_setJ w1 (w.heap.size + 1) 1 (.string (toBA v0))) (by simp))
  have HT1 := Lib.hid ((HT0.out.fr hf).set (show rb < w.heap.size + 1 by omega) 1 (.string (toBA v0)))
  clear hr hf hN hg
  go_upto_region 31 with fail
  clear z y
  generalize (w1.setCell ⟨w.heap.size + 1, 1, none⟩ (.string (toBA v0))) = V at *
  have gX := HG1.out
  have gZ := HZ1.out
  go_wp2_with (first | (apply wpList_loadRow 33 33; exact rfl; exact rfl; exact rfl; assumption; exact undTx; exact rfl; exact infTx) | (apply wpList_storeRow 33 33; exact rfl; exact rfl; exact rfl; exact rfl; assumption; exact infTx; exact rfl; simp [Value.oneCell']) | fail)
  have hfz := fr_setRow9 V w.heap.size #[.int .i32 121, .string (toBA v0), .slice none 0 0, .slice none 0 0, .int .i64 0, .int .i32 0, .int .i32 0, .bool false, .int .i64 0, .int .i64 0, .int .i64 0, .int .i32 0, .slice none 0 0, .slice none 0 0, .int .i32 0, .slice none 0 0]
  have HEND := Lib.hid (show RdOut rb A n c l w (leafP l 121 p) (GetL w) (.returned (txV ⟨⟨121, toBA v0, 0, 0, 0, false, 0, 0, 0, 0, 0⟩, (none, 0, 0), (none, 0, 0), (none, 0, 0), (none, 0, 0), (none, 0, 0)⟩)) (V.setRow w.heap.size #[.int .i32 121, .string (toBA v0), .slice none 0 0, .slice none 0 0, .int .i64 0, .int .i32 0, .int .i32 0, .bool false, .int .i64 0, .int .i64 0, .int .i64 0, .int .i32 0, .slice none 0 0, .slice none 0 0, .int .i32 0, .slice none 0 0]) by
    have hlf : leafP l 121 p = .ok (⟨⟨121, toBA v0, 0, 0, 0, false, 0, 0, 0, 0, 0⟩, [], [], [], []⟩, p0) := by rw [HLF.out]; simp only [thenOk2, HX0.out]
    rw [hlf]
    exact ⟨⟨_, rfl, _, rfl, ⟨rfl, SlR.nil_, SlR.nil_, SlR.nil_, SlR.nil_⟩, rfl⟩, HR1.out.fr hfz (by simp; omega), HF1.out.trans hfz (by simp)⟩)
  exact bodyPost_cell rfl rfl (setRow_heap _ _ _ _ _ _ gZ) undTx rfl infTx rfl HEND.out
set_option linter.unusedSimpArgs false in
set_option maxRecDepth 100000 in
set_option maxHeartbeats 4000000 in
theorem get5_any {w : World} {rb n c p : Nat} {A : Option Addr} {l : Bs} (h : Rd w rb A n c l p) (hT : TabsR rb w) :
    Calls Tryz.prog 66 #[.pointer (some ⟨rb, 0, none⟩), .int .i32 5] w (RdOut rb A n c l w (leafP l 5 p) (GetL w)) := by
  have hlt := h.lt
  have hb1 : Below w.heap.size w (w.alloc (.cells #[.int .i32 0, .string ⟨#[]⟩, .slice none 0 0, .slice none 0 0, .int .i64 0, .int .i32 0, .int .i32 0, .bool false, .int .i64 0, .int .i64 0, .int .i64 0, .int .i32 0, .slice none 0 0, .slice none 0 0, .int .i32 0, .slice none 0 0] 33)) := (Below.refl _ w).alloc (Nat.le_refl _) _
  have hb2 : Below w.heap.size w ((w.alloc (.cells #[.int .i32 0, .string ⟨#[]⟩, .slice none 0 0, .slice none 0 0, .int .i64 0, .int .i32 0, .int .i32 0, .bool false, .int .i64 0, .int .i64 0, .int .i64 0, .int .i32 0, .slice none 0 0, .slice none 0 0, .int .i32 0, .slice none 0 0] 33)).alloc (.cells #[.int .i32 5, .string ⟨#[]⟩, .slice none 0 0, .slice none 0 0, .int .i64 0, .int .i32 0, .int .i32 0, .bool false, .int .i64 0, .int .i64 0, .int .i64 0, .int .i32 0, .slice none 0 0, .slice none 0 0, .int .i32 0, .slice none 0 0] 33)) := hb1.alloc hb1.size _
  have HR0 := Lib.hid (h.below hb2)
  have HF0 := Lib.hid (Fr.of_below (own := [rb]) hb2)
  have HT0 := Lib.hid (hT.fr (Fr.of_below hb2))
  have HG0 := Lib.hid (heap_s1 w (.cells #[.int .i32 0, .string ⟨#[]⟩, .slice none 0 0, .slice none 0 0, .int .i64 0, .int .i32 0, .int .i32 0, .bool false, .int .i64 0, .int .i64 0, .int .i64 0, .int .i32 0, .slice none 0 0, .slice none 0 0, .int .i32 0, .slice none 0 0] 33) (.cells #[.int .i32 5, .string ⟨#[]⟩, .slice none 0 0, .slice none 0 0, .int .i64 0, .int .i32 0, .int .i32 0, .bool false, .int .i64 0, .int .i64 0, .int .i64 0, .int .i32 0, .slice none 0 0, .slice none 0 0, .int .i32 0, .slice none 0 0] 33))
  have HZ0 := Lib.hid (heap_under (o := (.cells #[.int .i32 5, .string ⟨#[]⟩, .slice none 0 0, .slice none 0 0, .int .i64 0, .int .i32 0, .int .i32 0, .bool false, .int .i64 0, .int .i64 0, .int .i64 0, .int .i32 0, .slice none 0 0, .slice none 0 0, .int .i32 0, .slice none 0 0] 33)) (heap_s0 w (.cells #[.int .i32 0, .string ⟨#[]⟩, .slice none 0 0, .slice none 0 0, .int .i64 0, .int .i32 0, .int .i32 0, .bool false, .int .i64 0, .int .i64 0, .int .i64 0, .int .i32 0, .slice none 0 0, .slice none 0 0, .int .i32 0, .slice none 0 0] 33)))
  have HLZ := Lib.hid (sz2 w (.cells #[.int .i32 0, .string ⟨#[]⟩, .slice none 0 0, .slice none 0 0, .int .i64 0, .int .i32 0, .int .i32 0, .bool false, .int .i64 0, .int .i64 0, .int .i64 0, .int .i32 0, .slice none 0 0, .slice none 0 0, .int .i32 0, .slice none 0 0] 33) (.cells #[.int .i32 5, .string ⟨#[]⟩, .slice none 0 0, .slice none 0 0, .int .i64 0, .int .i32 0, .int .i32 0, .bool false, .int .i64 0, .int .i64 0, .int .i64 0, .int .i32 0, .slice none 0 0, .slice none 0 0, .int .i32 0, .slice none 0 0] 33))
  have HLF := Lib.hid (show leafP l 5 p = (textP l 4096 p).then fun v0 p0 => (bytesP l 1048575 p0).then fun v1 p1 => (intP l p1).then fun v2 p2 => .ok (⟨⟨5, toBA v0, 0, v2, 0, false, 0, 0, 0, 0, 0⟩, v1, [], [], []⟩, p2) from rfl)
  clear h hT hb1 hb2
  go_enter Tryz.func66, Tryz.ntmps66
  go_upto_region 2 with (first | (apply wpList_storeTop 33 33; exact rfl; exact rfl; exact rfl; (first | (with_reducible rfl) | (exact sz1 _ _) | (exact sz2 _ _ _)); exact rfl; exact infTx; exact rfl; (first | exact oneTx _ | simp [Value.oneCell'])) | fail)
  change Code.wp _ _ _ _ ((w.alloc (.cells #[.int .i32 0, .string ⟨#[]⟩, .slice none 0 0, .slice none 0 0, .int .i64 0, .int .i32 0, .int .i32 0, .bool false, .int .i64 0, .int .i64 0, .int .i64 0, .int .i32 0, .slice none 0 0, .slice none 0 0, .int .i32 0, .slice none 0 0] 33)).alloc (.cells #[.int .i32 5, .string ⟨#[]⟩, .slice none 0 0, .slice none 0 0, .int .i64 0, .int .i32 0, .int .i32 0, .bool false, .int .i64 0, .int .i64 0, .int .i64 0, .int .i32 0, .slice none 0 0, .slice none 0 0, .int .i32 0, .slice none 0 0] 33))
  generalize ((w.alloc (.cells #[.int .i32 0, .string ⟨#[]⟩, .slice none 0 0, .slice none 0 0, .int .i64 0, .int .i32 0, .int .i32 0, .bool false, .int .i64 0, .int .i64 0, .int .i64 0, .int .i32 0, .slice none 0 0, .slice none 0 0, .int .i32 0, .slice none 0 0] 33)).alloc (.cells #[.int .i32 5, .string ⟨#[]⟩, .slice none 0 0, .slice none 0 0, .int .i64 0, .int .i32 0, .int .i32 0, .bool false, .int .i64 0, .int .i64 0, .int .i64 0, .int .i32 0, .slice none 0 0, .slice none 0 0, .int .i32 0, .slice none 0 0] 33)) = W0 at *
  go_wp2_with fail
  refine (part_any 5 W0).mono ?_
  rintro e wq ⟨rfl, rfl⟩
  rename World => W0
  rw [show partB 5 = true from rfl]
  go_wp2_with fail
  have hN := rText_any 4096 4096 rfl HR0.out (by decide) HT0.out
  rcases hX0 : textP l 4096 p with ⟨q, k⟩ | ⟨v0, p0⟩
  · have HG := Lib.hid (show leafP l 5 p = .error (q, k) by rw [HLF.out]; simp only [thenOk2, thenErr, hX0])
    rw [hX0] at hN
    refine hN.mono ?_
    rintro e w9 ⟨rfl, hr, hf⟩
    refine ⟨rfl, ?_⟩
    rw [HG.out]
    exact ⟨rfl, hr, HF0.out.transJ hf⟩
  rw [hX0] at hN
  have HX0 := Lib.hid hX0
  clear hX0
  refine hN.mono ?_
  rintro e w1 ⟨⟨u, rfl, rfl⟩, hr, hf⟩
  have hg := (hf.block _ (Array.getElem?_eq_some_iff.1 HG0.out).1 (by simp; omega)).trans HG0.out
  have z : w1.frozen? ⟨w.heap.size + 1, 1, none⟩ = false := by simp [World.frozen?, hg]
  have y : w1.cell? ⟨w.heap.size + 1, 1, none⟩ = some (.string ⟨#[]⟩) := by rw [cellH hg]; rfl
  have HG1 := Lib.hid (show (w1.setCell ⟨w.heap.size + 1, 1, none⟩ (.string (toBA v0))).heap[w.heap.size + 1]? = some (.cells #[.int .i32 5, .string (toBA v0), .slice none 0 0, .slice none 0 0, .int .i64 0, .int .i32 0, .int .i32 0, .bool false, .int .i64 0, .int .i64 0, .int .i64 0, .int .i32 0, .slice none 0 0, .slice none 0 0, .int .i32 0, .slice none 0 0] 33 (0, 0)) from heap_setJ (o := 1) hg _)
  have HZ1 := Lib.hid ((heap_otherJ w1 (w.heap.size + 1) 1 (.string (toBA v0)) (by omega)).trans ((hf.block _ (Array.getElem?_eq_some_iff.1 HZ0.out).1 (by simp; omega)).trans HZ0.out))
  have HR1 := Lib.hid (hr.fr (fr_setJ w1 (w.heap.size + 1) 1 (.string (toBA v0))) (by simp; omega))
  have HF1 := Lib.hid ((HF0.out.transJ hf).trans (fr_setJ w1 (w.heap.size + 1) 1 (.string (toBA v0))) (by simp))
  have HT1 := Lib.hid ((HT0.out.fr hf).set (show rb < w.heap.size + 1 by omega) 1 (.string (toBA v0)))
  clear hr hf hN hg
  go_wp2_with fail
  clear z y
  generalize (w1.setCell ⟨w.heap.size + 1, 1, none⟩ (.string (toBA v0))) = W1 at *
  have hN := rBuffer_any 1048575 1048575 rfl HR1.out (by decide)
  rcases hX1 : bytesP l 1048575 p0 with ⟨q, k⟩ | ⟨v1, p1⟩
  · have HG := Lib.hid (show leafP l 5 p = .error (q, k) by rw [HLF.out]; simp only [thenOk2, thenErr, HX0.out, hX1])
    rw [hX1] at hN
    refine hN.mono ?_
    rintro e w9 ⟨rfl, hr, hf⟩
    refine ⟨rfl, ?_⟩
    rw [HG.out]
    exact ⟨rfl, hr, HF1.out.transJ hf⟩
  rw [hX1] at hN
  have HX1 := Lib.hid hX1
  clear hX1
  refine hN.mono ?_
  rintro e w2 ⟨⟨u, rfl, A1, c1, rfl, hrow⟩, hr, hf⟩
  have hg := (hf.block _ (Array.getElem?_eq_some_iff.1 HG1.out).1 (by simp; omega)).trans HG1.out
  have z : w2.frozen? ⟨w.heap.size + 1, 2, none⟩ = false := by simp [World.frozen?, hg]
  have y : w2.cell? ⟨w.heap.size + 1, 2, none⟩ = some (.slice none 0 0) := by rw [cellH hg]; rfl
  have HG2 := Lib.hid (show (w2.setCell ⟨w.heap.size + 1, 2, none⟩ (.slice A1 v1.length c1)).heap[w.heap.size + 1]? = some (.cells #[.int .i32 5, .string (toBA v0), .slice A1 v1.length c1, .slice none 0 0, .int .i64 0, .int .i32 0, .int .i32 0, .bool false, .int .i64 0, .int .i64 0, .int .i64 0, .int .i32 0, .slice none 0 0, .slice none 0 0, .int .i32 0, .slice none 0 0] 33 (0, 0)) from heap_setJ (o := 2) hg _)
  have HZ2 := Lib.hid ((heap_otherJ w2 (w.heap.size + 1) 2 (.slice A1 v1.length c1) (by omega)).trans ((hf.block _ (Array.getElem?_eq_some_iff.1 HZ1.out).1 (by simp; omega)).trans HZ1.out))
  have HR2 := Lib.hid (hr.fr (fr_setJ w2 (w.heap.size + 1) 2 (.slice A1 v1.length c1)) (by simp; omega))
  have HF2 := Lib.hid ((HF1.out.transJ hf).trans (fr_setJ w2 (w.heap.size + 1) 2 (.slice A1 v1.length c1)) (by simp))
  have HT2 := Lib.hid ((HT1.out.fr hf).set (show rb < w.heap.size + 1 by omega) 2 (.slice A1 v1.length c1))
  obtain ⟨B1, hB1⟩ : ∃ B, B = W1.heap.size := ⟨_, rfl⟩
  rw [← hB1] at hrow
  have HLB1 := Lib.hid (show w.heap.size + 2 ≤ B1 by rw [hB1]; have h8 := (Array.getElem?_eq_some_iff.1 HG1.out).1; omega)
  have HL1 := Lib.hid (own_fr hrow (fr_setJ w2 (w.heap.size + 1) 2 (.slice A1 v1.length c1)) (by have := HLB1.out; simp; omega))
  clear hrow hB1
  clear hr hf hN hg
  go_wp2_with fail
  clear z y
  generalize (w2.setCell ⟨w.heap.size + 1, 2, none⟩ (.slice A1 v1.length c1)) = W2 at *
  have hN := rInt_any HR2.out
  rcases hX2 : intP l p1 with ⟨q, k⟩ | ⟨v2, p2⟩
  · have HG := Lib.hid (show leafP l 5 p = .error (q, k) by rw [HLF.out]; simp only [thenOk2, thenErr, HX0.out, HX1.out, hX2])
    rw [hX2] at hN
    refine hN.mono ?_
    rintro e w9 ⟨rfl, hr, hf⟩
    refine ⟨rfl, ?_⟩
    rw [HG.out]
    exact ⟨rfl, hr, HF2.out.transJ hf⟩
  rw [hX2] at hN
  have HX2 := Lib.hid hX2
  clear hX2
  refine hN.mono ?_
  rintro e w3 ⟨⟨u, rfl, rfl⟩, hr, hf⟩
  have hg := (hf.block _ (Array.getElem?_eq_some_iff.1 HG2.out).1 (by simp; omega)).trans HG2.out
  have z : w3.frozen? ⟨w.heap.size + 1, 5, none⟩ = false := by simp [World.frozen?, hg]
  have y : w3.cell? ⟨w.heap.size + 1, 5, none⟩ = some (.int .i32 0) := by rw [cellH hg]; rfl
  have HG3 := Lib.hid (show (w3.setCell ⟨w.heap.size + 1, 5, none⟩ (.int .i32 v2)).heap[w.heap.size + 1]? = some (.cells #[.int .i32 5, .string (toBA v0), .slice A1 v1.length c1, .slice none 0 0, .int .i64 0, .int .i32 v2, .int .i32 0, .bool false, .int .i64 0, .int .i64 0, .int .i64 0, .int .i32 0, .slice none 0 0, .slice none 0 0, .int .i32 0, .slice none 0 0] 33 (0, 0)) from heap_setJ (o := 5) hg _)
  have HZ3 := Lib.hid ((heap_otherJ w3 (w.heap.size + 1) 5 (.int .i32 v2) (by omega)).trans ((hf.block _ (Array.getElem?_eq_some_iff.1 HZ2.out).1 (by simp; omega)).trans HZ2.out))
  have HR3 := Lib.hid (hr.fr (fr_setJ w3 (w.heap.size + 1) 5 (.int .i32 v2)) (by simp; omega))
  have HF3 := Lib.hid ((HF2.out.transJ hf).trans (fr_setJ w3 (w.heap.size + 1) 5 (.int .i32 v2)) (by simp))
  have HT3 := Lib.hid ((HT2.out.fr hf).set (show rb < w.heap.size + 1 by omega) 5 (.int .i32 v2))
  have HL1 := Lib.hid (row_keep (o := 5) (v := .int .i32 v2) HL1.out hf (by have := HLB1.out; omega) (show w.heap.size + 1 < B1 by have := HLB1.out; omega))
  clear hr hf hN hg
  go_upto_region 31 with fail
  clear z y
  generalize (w3.setCell ⟨w.heap.size + 1, 5, none⟩ (.int .i32 v2)) = V at *
  have gX := HG3.out
  have gZ := HZ3.out
  go_wp2_with (first | (apply wpList_loadRow 33 33; exact rfl; exact rfl; exact rfl; assumption; exact undTx; exact rfl; exact infTx) | (apply wpList_storeRow 33 33; exact rfl; exact rfl; exact rfl; exact rfl; assumption; exact infTx; exact rfl; simp [Value.oneCell']) | fail)
  have hfz := fr_setRow9 V w.heap.size #[.int .i32 5, .string (toBA v0), .slice A1 v1.length c1, .slice none 0 0, .int .i64 0, .int .i32 v2, .int .i32 0, .bool false, .int .i64 0, .int .i64 0, .int .i64 0, .int .i32 0, .slice none 0 0, .slice none 0 0, .int .i32 0, .slice none 0 0]
  have HEND := Lib.hid (show RdOut rb A n c l w (leafP l 5 p) (GetL w) (.returned (txV ⟨⟨5, toBA v0, 0, v2, 0, false, 0, 0, 0, 0, 0⟩, (A1, v1.length, c1), (none, 0, 0), (none, 0, 0), (none, 0, 0), (none, 0, 0)⟩)) (V.setRow w.heap.size #[.int .i32 5, .string (toBA v0), .slice A1 v1.length c1, .slice none 0 0, .int .i64 0, .int .i32 v2, .int .i32 0, .bool false, .int .i64 0, .int .i64 0, .int .i64 0, .int .i32 0, .slice none 0 0, .slice none 0 0, .int .i32 0, .slice none 0 0]) by
    have hlf : leafP l 5 p = .ok (⟨⟨5, toBA v0, 0, v2, 0, false, 0, 0, 0, 0, 0⟩, v1, [], [], []⟩, p2) := by rw [HLF.out]; simp only [thenOk2, HX0.out, HX1.out, HX2.out]
    rw [hlf]
    exact ⟨⟨_, rfl, _, rfl, ⟨rfl, own_slrN (own_mono (own_fr HL1.out hfz (by have := HLB1.out; simp; omega)) (by have := HLB1.out; omega)) (fun _ => rfl) (by simp), SlR.nil_, SlR.nil_, SlR.nil_⟩, rfl⟩, HR3.out.fr hfz (by simp; omega), HF3.out.trans hfz (by simp)⟩)
  exact bodyPost_cell rfl rfl (setRow_heap _ _ _ _ _ _ gZ) undTx rfl infTx rfl HEND.out
set_option linter.unusedSimpArgs false in
set_option maxRecDepth 100000 in
set_option maxHeartbeats 4000000 in
theorem get7_any {w : World} {rb n c p : Nat} {A : Option Addr} {l : Bs} (h : Rd w rb A n c l p) (hT : TabsR rb w) :
    Calls Tryz.prog 66 #[.pointer (some ⟨rb, 0, none⟩), .int .i32 7] w (RdOut rb A n c l w (leafP l 7 p) (GetL w)) := by
  have hlt := h.lt
  have hb1 : Below w.heap.size w (w.alloc (.cells #[.int .i32 0, .string ⟨#[]⟩, .slice none 0 0, .slice none 0 0, .int .i64 0, .int .i32 0, .int .i32 0, .bool false, .int .i64 0, .int .i64 0, .int .i64 0, .int .i32 0, .slice none 0 0, .slice none 0 0, .int .i32 0, .slice none 0 0] 33)) := (Below.refl _ w).alloc (Nat.le_refl _) _
  have hb2 : Below w.heap.size w ((w.alloc (.cells #[.int .i32 0, .string ⟨#[]⟩, .slice none 0 0, .slice none 0 0, .int .i64 0, .int .i32 0, .int .i32 0, .bool false, .int .i64 0, .int .i64 0, .int .i64 0, .int .i32 0, .slice none 0 0, .slice none 0 0, .int .i32 0, .slice none 0 0] 33)).alloc (.cells #[.int .i32 7, .string ⟨#[]⟩, .slice none 0 0, .slice none 0 0, .int .i64 0, .int .i32 0, .int .i32 0, .bool false, .int .i64 0, .int .i64 0, .int .i64 0, .int .i32 0, .slice none 0 0, .slice none 0 0, .int .i32 0, .slice none 0 0] 33)) := hb1.alloc hb1.size _
  have HR0 := Lib.hid (h.below hb2)
  have HF0 := Lib.hid (Fr.of_below (own := [rb]) hb2)
  have HT0 := Lib.hid (hT.fr (Fr.of_below hb2))
  have HG0 := Lib.hid (heap_s1 w (.cells #[.int .i32 0, .string ⟨#[]⟩, .slice none 0 0, .slice none 0 0, .int .i64 0, .int .i32 0, .int .i32 0, .bool false, .int .i64 0, .int .i64 0, .int .i64 0, .int .i32 0, .slice none 0 0, .slice none 0 0, .int .i32 0, .slice none 0 0] 33) (.cells #[.int .i32 7, .string ⟨#[]⟩, .slice none 0 0, .slice none 0 0, .int .i64 0, .int .i32 0, .int .i32 0, .bool false, .int .i64 0, .int .i64 0, .int .i64 0, .int .i32 0, .slice none 0 0, .slice none 0 0, .int .i32 0, .slice none 0 0] 33))
  have HZ0 := Lib.hid (heap_under (o := (.cells #[.int .i32 7, .string ⟨#[]⟩, .slice none 0 0, .slice none 0 0, .int .i64 0, .int .i32 0, .int .i32 0, .bool false, .int .i64 0, .int .i64 0, .int .i64 0, .int .i32 0, .slice none 0 0, .slice none 0 0, .int .i32 0, .slice none 0 0] 33)) (heap_s0 w (.cells #[.int .i32 0, .string ⟨#[]⟩, .slice none 0 0, .slice none 0 0, .int .i64 0, .int .i32 0, .int .i32 0, .bool false, .int .i64 0, .int .i64 0, .int .i64 0, .int .i32 0, .slice none 0 0, .slice none 0 0, .int .i32 0, .slice none 0 0] 33)))
  have HLZ := Lib.hid (sz2 w (.cells #[.int .i32 0, .string ⟨#[]⟩, .slice none 0 0, .slice none 0 0, .int .i64 0, .int .i32 0, .int .i32 0, .bool false, .int .i64 0, .int .i64 0, .int .i64 0, .int .i32 0, .slice none 0 0, .slice none 0 0, .int .i32 0, .slice none 0 0] 33) (.cells #[.int .i32 7, .string ⟨#[]⟩, .slice none 0 0, .slice none 0 0, .int .i64 0, .int .i32 0, .int .i32 0, .bool false, .int .i64 0, .int .i64 0, .int .i64 0, .int .i32 0, .slice none 0 0, .slice none 0 0, .int .i32 0, .slice none 0 0] 33))
  have HLF := Lib.hid (show leafP l 7 p = (textP l 4096 p).then fun v0 p0 => (listP l 16 12 (aclP l) p0).then fun v1 p1 => (intP l p1).then fun v2 p2 => .ok (⟨⟨7, toBA v0, 0, v2, 0, false, 0, 0, 0, 0, 0⟩, [], v1.map aclV, [], []⟩, p2) from rfl)
  clear h hT hb1 hb2
  go_enter Tryz.func66, Tryz.ntmps66
  go_upto_region 2 with (first | (apply wpList_storeTop 33 33; exact rfl; exact rfl; exact rfl; (first | (with_reducible rfl) | (exact sz1 _ _) | (exact sz2 _ _ _)); exact rfl; exact infTx; exact rfl; (first | exact oneTx _ | simp [Value.oneCell'])) | fail)
  change Code.wp _ _ _ _ ((w.alloc (.cells #[.int .i32 0, .string ⟨#[]⟩, .slice none 0 0, .slice none 0 0, .int .i64 0, .int .i32 0, .int .i32 0, .bool false, .int .i64 0, .int .i64 0, .int .i64 0, .int .i32 0, .slice none 0 0, .slice none 0 0, .int .i32 0, .slice none 0 0] 33)).alloc (.cells #[.int .i32 7, .string ⟨#[]⟩, .slice none 0 0, .slice none 0 0, .int .i64 0, .int .i32 0, .int .i32 0, .bool false, .int .i64 0, .int .i64 0, .int .i64 0, .int .i32 0, .slice none 0 0, .slice none 0 0, .int .i32 0, .slice none 0 0] 33))
  generalize ((w.alloc (.cells #[.int .i32 0, .string ⟨#[]⟩, .slice none 0 0, .slice none 0 0, .int .i64 0, .int .i32 0, .int .i32 0, .bool false, .int .i64 0, .int .i64 0, .int .i64 0, .int .i32 0, .slice none 0 0, .slice none 0 0, .int .i32 0, .slice none 0 0] 33)).alloc (.cells #[.int .i32 7, .string ⟨#[]⟩, .slice none 0 0, .slice none 0 0, .int .i64 0, .int .i32 0, .int .i32 0, .bool false, .int .i64 0, .int .i64 0, .int .i64 0, .int .i32 0, .slice none 0 0, .slice none 0 0, .int .i32 0, .slice none 0 0] 33)) = W0 at *
  go_wp2_with fail
  refine (part_any 7 W0).mono ?_
  rintro e wq ⟨rfl, rfl⟩
  rename World => W0
  rw [show partB 7 = true from rfl]
  go_wp2_with fail
  have hN := rText_any 4096 4096 rfl HR0.out (by decide) HT0.out
  rcases hX0 : textP l 4096 p with ⟨q, k⟩ | ⟨v0, p0⟩
  · have HG := Lib.hid (show leafP l 7 p = .error (q, k) by rw [HLF.out]; simp only [thenOk2, thenErr, hX0])
    rw [hX0] at hN
    refine hN.mono ?_
    rintro e w9 ⟨rfl, hr, hf⟩
    refine ⟨rfl, ?_⟩
    rw [HG.out]
    exact ⟨rfl, hr, HF0.out.transJ hf⟩
  rw [hX0] at hN
  have HX0 := Lib.hid hX0
  clear hX0
  refine hN.mono ?_
  rintro e w1 ⟨⟨u, rfl, rfl⟩, hr, hf⟩
  have hg := (hf.block _ (Array.getElem?_eq_some_iff.1 HG0.out).1 (by simp; omega)).trans HG0.out
  have z : w1.frozen? ⟨w.heap.size + 1, 1, none⟩ = false := by simp [World.frozen?, hg]
  have y : w1.cell? ⟨w.heap.size + 1, 1, none⟩ = some (.string ⟨#[]⟩) := by rw [cellH hg]; rfl
  have HG1 := Lib.hid (show (w1.setCell ⟨w.heap.size + 1, 1, none⟩ (.string (toBA v0))).heap[w.heap.size + 1]? = some (.cells #[.int .i32 7, .string (toBA v0), .slice none 0 0, .slice none 0 0, .int .i64 0, .int .i32 0, .int .i32 0, .bool false, .int .i64 0, .int .i64 0, .int .i64 0, .int .i32 0, .slice none 0 0, .slice none 0 0, .int .i32 0, .slice none 0 0] 33 (0, 0)) from heap_setJ (o := 1) hg _)
  have HZ1 := Lib.hid ((heap_otherJ w1 (w.heap.size + 1) 1 (.string (toBA v0)) (by omega)).trans ((hf.block _ (Array.getElem?_eq_some_iff.1 HZ0.out).1 (by simp; omega)).trans HZ0.out))
  have HR1 := Lib.hid (hr.fr (fr_setJ w1 (w.heap.size + 1) 1 (.string (toBA v0))) (by simp; omega))
  have HF1 := Lib.hid ((HF0.out.transJ hf).trans (fr_setJ w1 (w.heap.size + 1) 1 (.string (toBA v0))) (by simp))
  have HT1 := Lib.hid ((HT0.out.fr hf).set (show rb < w.heap.size + 1 by omega) 1 (.string (toBA v0)))
  clear hr hf hN hg
  go_wp2_with fail
  clear z y
  generalize (w1.setCell ⟨w.heap.size + 1, 1, none⟩ (.string (toBA v0))) = W1 at *
  have hN := getAclD_any HR1.out HT1.out
  rcases hX1 : listP l 16 12 (aclP l) p0 with ⟨q, k⟩ | ⟨v1, p1⟩
  · have HG := Lib.hid (show leafP l 7 p = .error (q, k) by rw [HLF.out]; simp only [thenOk2, thenErr, HX0.out, hX1])
    rw [hX1] at hN
    refine hN.mono ?_
    rintro e w9 ⟨rfl, hr, hf⟩
    refine ⟨rfl, ?_⟩
    rw [HG.out]
    exact ⟨rfl, hr, HF1.out.transJ hf⟩
  rw [hX1] at hN
  have HX1 := Lib.hid hX1
  clear hX1
  refine hN.mono ?_
  rintro e w2 ⟨⟨u, rfl, A1, c1, rfl, hrow⟩, hr, hf⟩
  have hg := (hf.block _ (Array.getElem?_eq_some_iff.1 HG1.out).1 (by simp; omega)).trans HG1.out
  have z : w2.frozen? ⟨w.heap.size + 1, 3, none⟩ = false := by simp [World.frozen?, hg]
  have y : w2.cell? ⟨w.heap.size + 1, 3, none⟩ = some (.slice none 0 0) := by rw [cellH hg]; rfl
  have HG2 := Lib.hid (show (w2.setCell ⟨w.heap.size + 1, 3, none⟩ (.slice A1 v1.length c1)).heap[w.heap.size + 1]? = some (.cells #[.int .i32 7, .string (toBA v0), .slice none 0 0, .slice A1 v1.length c1, .int .i64 0, .int .i32 0, .int .i32 0, .bool false, .int .i64 0, .int .i64 0, .int .i64 0, .int .i32 0, .slice none 0 0, .slice none 0 0, .int .i32 0, .slice none 0 0] 33 (0, 0)) from heap_setJ (o := 3) hg _)
  have HZ2 := Lib.hid ((heap_otherJ w2 (w.heap.size + 1) 3 (.slice A1 v1.length c1) (by omega)).trans ((hf.block _ (Array.getElem?_eq_some_iff.1 HZ1.out).1 (by simp; omega)).trans HZ1.out))
  have HR2 := Lib.hid (hr.fr (fr_setJ w2 (w.heap.size + 1) 3 (.slice A1 v1.length c1)) (by simp; omega))
  have HF2 := Lib.hid ((HF1.out.transJ hf).trans (fr_setJ w2 (w.heap.size + 1) 3 (.slice A1 v1.length c1)) (by simp))
  have HT2 := Lib.hid ((HT1.out.fr hf).set (show rb < w.heap.size + 1 by omega) 3 (.slice A1 v1.length c1))
  obtain ⟨B1, hB1⟩ : ∃ B, B = W1.heap.size := ⟨_, rfl⟩
  rw [← hB1] at hrow
  have HLB1 := Lib.hid (show w.heap.size + 2 ≤ B1 by rw [hB1]; have h8 := (Array.getElem?_eq_some_iff.1 HG1.out).1; omega)
  have HL1 := Lib.hid (own_fr hrow (fr_setJ w2 (w.heap.size + 1) 3 (.slice A1 v1.length c1)) (by have := HLB1.out; simp; omega))
  clear hrow hB1
  clear hr hf hN hg
  go_wp2_with fail
  clear z y
  generalize (w2.setCell ⟨w.heap.size + 1, 3, none⟩ (.slice A1 v1.length c1)) = W2 at *
  have hN := rInt_any HR2.out
  rcases hX2 : intP l p1 with ⟨q, k⟩ | ⟨v2, p2⟩
  · have HG := Lib.hid (show leafP l 7 p = .error (q, k) by rw [HLF.out]; simp only [thenOk2, thenErr, HX0.out, HX1.out, hX2])
    rw [hX2] at hN
    refine hN.mono ?_
    rintro e w9 ⟨rfl, hr, hf⟩
    refine ⟨rfl, ?_⟩
    rw [HG.out]
    exact ⟨rfl, hr, HF2.out.transJ hf⟩
  rw [hX2] at hN
  have HX2 := Lib.hid hX2
  clear hX2
  refine hN.mono ?_
  rintro e w3 ⟨⟨u, rfl, rfl⟩, hr, hf⟩
  have hg := (hf.block _ (Array.getElem?_eq_some_iff.1 HG2.out).1 (by simp; omega)).trans HG2.out
  have z : w3.frozen? ⟨w.heap.size + 1, 5, none⟩ = false := by simp [World.frozen?, hg]
  have y : w3.cell? ⟨w.heap.size + 1, 5, none⟩ = some (.int .i32 0) := by rw [cellH hg]; rfl
  have HG3 := Lib.hid (show (w3.setCell ⟨w.heap.size + 1, 5, none⟩ (.int .i32 v2)).heap[w.heap.size + 1]? = some (.cells #[.int .i32 7, .string (toBA v0), .slice none 0 0, .slice A1 v1.length c1, .int .i64 0, .int .i32 v2, .int .i32 0, .bool false, .int .i64 0, .int .i64 0, .int .i64 0, .int .i32 0, .slice none 0 0, .slice none 0 0, .int .i32 0, .slice none 0 0] 33 (0, 0)) from heap_setJ (o := 5) hg _)
  have HZ3 := Lib.hid ((heap_otherJ w3 (w.heap.size + 1) 5 (.int .i32 v2) (by omega)).trans ((hf.block _ (Array.getElem?_eq_some_iff.1 HZ2.out).1 (by simp; omega)).trans HZ2.out))
  have HR3 := Lib.hid (hr.fr (fr_setJ w3 (w.heap.size + 1) 5 (.int .i32 v2)) (by simp; omega))
  have HF3 := Lib.hid ((HF2.out.transJ hf).trans (fr_setJ w3 (w.heap.size + 1) 5 (.int .i32 v2)) (by simp))
  have HT3 := Lib.hid ((HT2.out.fr hf).set (show rb < w.heap.size + 1 by omega) 5 (.int .i32 v2))
  have HL1 := Lib.hid (row_keep (o := 5) (v := .int .i32 v2) HL1.out hf (by have := HLB1.out; omega) (show w.heap.size + 1 < B1 by have := HLB1.out; omega))
  clear hr hf hN hg
  go_upto_region 31 with fail
  clear z y
  generalize (w3.setCell ⟨w.heap.size + 1, 5, none⟩ (.int .i32 v2)) = V at *
  have gX := HG3.out
  have gZ := HZ3.out
  go_wp2_with (first | (apply wpList_loadRow 33 33; exact rfl; exact rfl; exact rfl; assumption; exact undTx; exact rfl; exact infTx) | (apply wpList_storeRow 33 33; exact rfl; exact rfl; exact rfl; exact rfl; assumption; exact infTx; exact rfl; simp [Value.oneCell']) | fail)
  have hfz := fr_setRow9 V w.heap.size #[.int .i32 7, .string (toBA v0), .slice none 0 0, .slice A1 v1.length c1, .int .i64 0, .int .i32 v2, .int .i32 0, .bool false, .int .i64 0, .int .i64 0, .int .i64 0, .int .i32 0, .slice none 0 0, .slice none 0 0, .int .i32 0, .slice none 0 0]
  have HEND := Lib.hid (show RdOut rb A n c l w (leafP l 7 p) (GetL w) (.returned (txV ⟨⟨7, toBA v0, 0, v2, 0, false, 0, 0, 0, 0, 0⟩, (none, 0, 0), (A1, v1.length, c1), (none, 0, 0), (none, 0, 0), (none, 0, 0)⟩)) (V.setRow w.heap.size #[.int .i32 7, .string (toBA v0), .slice none 0 0, .slice A1 v1.length c1, .int .i64 0, .int .i32 v2, .int .i32 0, .bool false, .int .i64 0, .int .i64 0, .int .i64 0, .int .i32 0, .slice none 0 0, .slice none 0 0, .int .i32 0, .slice none 0 0]) by
    have hlf : leafP l 7 p = .ok (⟨⟨7, toBA v0, 0, v2, 0, false, 0, 0, 0, 0, 0⟩, [], v1.map aclV, [], []⟩, p2) := by rw [HLF.out]; simp only [thenOk2, HX0.out, HX1.out, HX2.out]
    rw [hlf]
    exact ⟨⟨_, rfl, _, rfl, ⟨rfl, SlR.nil_, own_slrN (own_mono (own_fr HL1.out hfz (by have := HLB1.out; simp; omega)) (by have := HLB1.out; omega)) (fun _ => rfl) (by simp), SlR.nil_, SlR.nil_⟩, rfl⟩, HR3.out.fr hfz (by simp; omega), HF3.out.trans hfz (by simp)⟩)
  exact bodyPost_cell rfl rfl (setRow_heap _ _ _ _ _ _ gZ) undTx rfl infTx rfl HEND.out
set_option linter.unusedSimpArgs false in
set_option maxRecDepth 100000 in
set_option maxHeartbeats 4000000 in
theorem get13_any {w : World} {rb n c p : Nat} {A : Option Addr} {l : Bs} (h : Rd w rb A n c l p) (hT : TabsR rb w) :
    Calls Tryz.prog 66 #[.pointer (some ⟨rb, 0, none⟩), .int .i32 13] w (RdOut rb A n c l w (leafP l 13 p) (GetL w)) := by
  have hlt := h.lt
  have hb1 : Below w.heap.size w (w.alloc (.cells #[.int .i32 0, .string ⟨#[]⟩, .slice none 0 0, .slice none 0 0, .int .i64 0, .int .i32 0, .int .i32 0, .bool false, .int .i64 0, .int .i64 0, .int .i64 0, .int .i32 0, .slice none 0 0, .slice none 0 0, .int .i32 0, .slice none 0 0] 33)) := (Below.refl _ w).alloc (Nat.le_refl _) _
  have hb2 : Below w.heap.size w ((w.alloc (.cells #[.int .i32 0, .string ⟨#[]⟩, .slice none 0 0, .slice none 0 0, .int .i64 0, .int .i32 0, .int .i32 0, .bool false, .int .i64 0, .int .i64 0, .int .i64 0, .int .i32 0, .slice none 0 0, .slice none 0 0, .int .i32 0, .slice none 0 0] 33)).alloc (.cells #[.int .i32 13, .string ⟨#[]⟩, .slice none 0 0, .slice none 0 0, .int .i64 0, .int .i32 0, .int .i32 0, .bool false, .int .i64 0, .int .i64 0, .int .i64 0, .int .i32 0, .slice none 0 0, .slice none 0 0, .int .i32 0, .slice none 0 0] 33)) := hb1.alloc hb1.size _
  have HR0 := Lib.hid (h.below hb2)
  have HF0 := Lib.hid (Fr.of_below (own := [rb]) hb2)
  have HT0 := Lib.hid (hT.fr (Fr.of_below hb2))
  have HG0 := Lib.hid (heap_s1 w (.cells #[.int .i32 0, .string ⟨#[]⟩, .slice none 0 0, .slice none 0 0, .int .i64 0, .int .i32 0, .int .i32 0, .bool false, .int .i64 0, .int .i64 0, .int .i64 0, .int .i32 0, .slice none 0 0, .slice none 0 0, .int .i32 0, .slice none 0 0] 33) (.cells #[.int .i32 13, .string ⟨#[]⟩, .slice none 0 0, .slice none 0 0, .int .i64 0, .int .i32 0, .int .i32 0, .bool false, .int .i64 0, .int .i64 0, .int .i64 0, .int .i32 0, .slice none 0 0, .slice none 0 0, .int .i32 0, .slice none 0 0] 33))
  have HZ0 := Lib.hid (heap_under (o := (.cells #[.int .i32 13, .string ⟨#[]⟩, .slice none 0 0, .slice none 0 0, .int .i64 0, .int .i32 0, .int .i32 0, .bool false, .int .i64 0, .int .i64 0, .int .i64 0, .int .i32 0, .slice none 0 0, .slice none 0 0, .int .i32 0, .slice none 0 0] 33)) (heap_s0 w (.cells #[.int .i32 0, .string ⟨#[]⟩, .slice none 0 0, .slice none 0 0, .int .i64 0, .int .i32 0, .int .i32 0, .bool false, .int .i64 0, .int .i64 0, .int .i64 0, .int .i32 0, .slice none 0 0, .slice none 0 0, .int .i32 0, .slice none 0 0] 33)))
  have HLZ := Lib.hid (sz2 w (.cells #[.int .i32 0, .string ⟨#[]⟩, .slice none 0 0, .slice none 0 0, .int .i64 0, .int .i32 0, .int .i32 0, .bool false, .int .i64 0, .int .i64 0, .int .i64 0, .int .i32 0, .slice none 0 0, .slice none 0 0, .int .i32 0, .slice none 0 0] 33) (.cells #[.int .i32 13, .string ⟨#[]⟩, .slice none 0 0, .slice none 0 0, .int .i64 0, .int .i32 0, .int .i32 0, .bool false, .int .i64 0, .int .i64 0, .int .i64 0, .int .i32 0, .slice none 0 0, .slice none 0 0, .int .i32 0, .slice none 0 0] 33))
  have HLF := Lib.hid (show leafP l 13 p = (textP l 4096 p).then fun v0 p0 => (intP l p0).then fun v1 p1 => .ok (⟨⟨13, toBA v0, 0, v1, 0, false, 0, 0, 0, 0, 0⟩, [], [], [], []⟩, p1) from rfl)
  clear h hT hb1 hb2
  go_enter Tryz.func66, Tryz.ntmps66
  go_upto_region 2 with (first | (apply wpList_storeTop 33 33; exact rfl; exact rfl; exact rfl; (first | (with_reducible rfl) | (exact sz1 _ _) | (exact sz2 _ _ _)); exact rfl; exact infTx; exact rfl; (first | exact oneTx _ | simp [Value.oneCell'])) | fail)
  change Code.wp _ _ _ _ ((w.alloc (.cells #[.int .i32 0, .string ⟨#[]⟩, .slice none 0 0, .slice none 0 0, .int .i64 0, .int .i32 0, .int .i32 0, .bool false, .int .i64 0, .int .i64 0, .int .i64 0, .int .i32 0, .slice none 0 0, .slice none 0 0, .int .i32 0, .slice none 0 0] 33)).alloc (.cells #[.int .i32 13, .string ⟨#[]⟩, .slice none 0 0, .slice none 0 0, .int .i64 0, .int .i32 0, .int .i32 0, .bool false, .int .i64 0, .int .i64 0, .int .i64 0, .int .i32 0, .slice none 0 0, .slice none 0 0, .int .i32 0, .slice none 0 0] 33))
  generalize ((w.alloc (.cells #[.int .i32 0, .string ⟨#[]⟩, .slice none 0 0, .slice none 0 0, .int .i64 0, .int .i32 0, .int .i32 0, .bool false, .int .i64 0, .int .i64 0, .int .i64 0, .int .i32 0, .slice none 0 0, .slice none 0 0, .int .i32 0, .slice none 0 0] 33)).alloc (.cells #[.int .i32 13, .string ⟨#[]⟩, .slice none 0 0, .slice none 0 0, .int .i64 0, .int .i32 0, .int .i32 0, .bool false, .int .i64 0, .int .i64 0, .int .i64 0, .int .i32 0, .slice none 0 0, .slice none 0 0, .int .i32 0, .slice none 0 0] 33)) = W0 at *
  go_wp2_with fail
  refine (part_any 13 W0).mono ?_
  rintro e wq ⟨rfl, rfl⟩
  rename World => W0
  rw [show partB 13 = true from rfl]
  go_wp2_with fail
  have hN := rText_any 4096 4096 rfl HR0.out (by decide) HT0.out
  rcases hX0 : textP l 4096 p with ⟨q, k⟩ | ⟨v0, p0⟩
  · have HG := Lib.hid (show leafP l 13 p = .error (q, k) by rw [HLF.out]; simp only [thenOk2, thenErr, hX0])
    rw [hX0] at hN
    refine hN.mono ?_
    rintro e w9 ⟨rfl, hr, hf⟩
    refine ⟨rfl, ?_⟩
    rw [HG.out]
    exact ⟨rfl, hr, HF0.out.transJ hf⟩
  rw [hX0] at hN
  have HX0 := Lib.hid hX0
  clear hX0
  refine hN.mono ?_
  rintro e w1 ⟨⟨u, rfl, rfl⟩, hr, hf⟩
  have hg := (hf.block _ (Array.getElem?_eq_some_iff.1 HG0.out).1 (by simp; omega)).trans HG0.out
  have z : w1.frozen? ⟨w.heap.size + 1, 1, none⟩ = false := by simp [World.frozen?, hg]
  have y : w1.cell? ⟨w.heap.size + 1, 1, none⟩ = some (.string ⟨#[]⟩) := by rw [cellH hg]; rfl
  have HG1 := Lib.hid (show (w1.setCell ⟨w.heap.size + 1, 1, none⟩ (.string (toBA v0))).heap[w.heap.size + 1]? = some (.cells #[.int .i32 13, .string (toBA v0), .slice none 0 0, .slice none 0 0, .int .i64 0, .int .i32 0, .int .i32 0, .bool false, .int .i64 0, .int .i64 0, .int .i64 0, .int .i32 0, .slice none 0 0, .slice none 0 0, .int .i32 0, .slice none 0 0] 33 (0, 0)) from heap_setJ (o := 1) hg _)
  have HZ1 := Lib.hid ((heap_otherJ w1 (w.heap.size + 1) 1 (.string (toBA v0)) (by omega)).trans ((hf.block _ (Array.getElem?_eq_some_iff.1 HZ0.out).1 (by simp; omega)).trans HZ0.out))
  have HR1 := Lib.hid (hr.fr (fr_setJ w1 (w.heap.size + 1) 1 (.string (toBA v0))) (by simp; omega))
  have HF1 := Lib.hid ((HF0.out.transJ hf).trans (fr_setJ w1 (w.heap.size + 1) 1 (.string (toBA v0))) (by simp))
  have HT1 := Lib.hid ((HT0.out.fr hf).set (show rb < w.heap.size + 1 by omega) 1 (.string (toBA v0)))
  clear hr hf hN hg
  go_wp2_with fail
  clear z y
  generalize (w1.setCell ⟨w.heap.size + 1, 1, none⟩ (.string (toBA v0))) = W1 at *
  have hN := rInt_any HR1.out
  rcases hX1 : intP l p0 with ⟨q, k⟩ | ⟨v1, p1⟩
  · have HG := Lib.hid (show leafP l 13 p = .error (q, k) by rw [HLF.out]; simp only [thenOk2, thenErr, HX0.out, hX1])
    rw [hX1] at hN
    refine hN.mono ?_
    rintro e w9 ⟨rfl, hr, hf⟩
    refine ⟨rfl, ?_⟩
    rw [HG.out]
    exact ⟨rfl, hr, HF1.out.transJ hf⟩
  rw [hX1] at hN
  have HX1 := Lib.hid hX1
  clear hX1
  refine hN.mono ?_
  rintro e w2 ⟨⟨u, rfl, rfl⟩, hr, hf⟩
  have hg := (hf.block _ (Array.getElem?_eq_some_iff.1 HG1.out).1 (by simp; omega)).trans HG1.out
  have z : w2.frozen? ⟨w.heap.size + 1, 5, none⟩ = false := by simp [World.frozen?, hg]
  have y : w2.cell? ⟨w.heap.size + 1, 5, none⟩ = some (.int .i32 0) := by rw [cellH hg]; rfl
  have HG2 := Lib.hid (show (w2.setCell ⟨w.heap.size + 1, 5, none⟩ (.int .i32 v1)).heap[w.heap.size + 1]? = some (.cells #[.int .i32 13, .string (toBA v0), .slice none 0 0, .slice none 0 0, .int .i64 0, .int .i32 v1, .int .i32 0, .bool false, .int .i64 0, .int .i64 0, .int .i64 0, .int .i32 0, .slice none 0 0, .slice none 0 0, .int .i32 0, .slice none 0 0] 33 (0, 0)) from heap_setJ (o := 5) hg _)
  have HZ2 := Lib.hid ((heap_otherJ w2 (w.heap.size + 1) 5 (.int .i32 v1) (by omega)).trans ((hf.block _ (Array.getElem?_eq_some_iff.1 HZ1.out).1 (by simp; omega)).trans HZ1.out))
  have HR2 := Lib.hid (hr.fr (fr_setJ w2 (w.heap.size + 1) 5 (.int .i32 v1)) (by simp; omega))
  have HF2 := Lib.hid ((HF1.out.transJ hf).trans (fr_setJ w2 (w.heap.size + 1) 5 (.int .i32 v1)) (by simp))
  have HT2 := Lib.hid ((HT1.out.fr hf).set (show rb < w.heap.size + 1 by omega) 5 (.int .i32 v1))
  clear hr hf hN hg
  go_upto_region 31 with fail
  clear z y
  generalize (w2.setCell ⟨w.heap.size + 1, 5, none⟩ (.int .i32 v1)) = V at *
  have gX := HG2.out
  have gZ := HZ2.out
  go_wp2_with (first | (apply wpList_loadRow 33 33; exact rfl; exact rfl; exact rfl; assumption; exact undTx; exact rfl; exact infTx) | (apply wpList_storeRow 33 33; exact rfl; exact rfl; exact rfl; exact rfl; assumption; exact infTx; exact rfl; simp [Value.oneCell']) | fail)
  have hfz := fr_setRow9 V w.heap.size #[.int .i32 13, .string (toBA v0), .slice none 0 0, .slice none 0 0, .int .i64 0, .int .i32 v1, .int .i32 0, .bool false, .int .i64 0, .int .i64 0, .int .i64 0, .int .i32 0, .slice none 0 0, .slice none 0 0, .int .i32 0, .slice none 0 0]
  have HEND := Lib.hid (show RdOut rb A n c l w (leafP l 13 p) (GetL w) (.returned (txV ⟨⟨13, toBA v0, 0, v1, 0, false, 0, 0, 0, 0, 0⟩, (none, 0, 0), (none, 0, 0), (none, 0, 0), (none, 0, 0), (none, 0, 0)⟩)) (V.setRow w.heap.size #[.int .i32 13, .string (toBA v0), .slice none 0 0, .slice none 0 0, .int .i64 0, .int .i32 v1, .int .i32 0, .bool false, .int .i64 0, .int .i64 0, .int .i64 0, .int .i32 0, .slice none 0 0, .slice none 0 0, .int .i32 0, .slice none 0 0]) by
    have hlf : leafP l 13 p = .ok (⟨⟨13, toBA v0, 0, v1, 0, false, 0, 0, 0, 0, 0⟩, [], [], [], []⟩, p1) := by rw [HLF.out]; simp only [thenOk2, HX0.out, HX1.out]
    rw [hlf]
    exact ⟨⟨_, rfl, _, rfl, ⟨rfl, SlR.nil_, SlR.nil_, SlR.nil_, SlR.nil_⟩, rfl⟩, HR2.out.fr hfz (by simp; omega), HF2.out.trans hfz (by simp)⟩)
  exact bodyPost_cell rfl rfl (setRow_heap _ _ _ _ _ _ gZ) undTx rfl infTx rfl HEND.out
set_option linter.unusedSimpArgs false in
set_option maxRecDepth 100000 in
set_option maxHeartbeats 4000000 in
theorem get120_any {w : World} {rb n c p : Nat} {A : Option Addr} {l : Bs} (h : Rd w rb A n c l p) (hT : TabsR rb w) :
    Calls Tryz.prog 66 #[.pointer (some ⟨rb, 0, none⟩), .int .i32 120] w (RdOut rb A n c l w (leafP l 120 p) (GetL w)) := by
  have hlt := h.lt
  have hb1 : Below w.heap.size w (w.alloc (.cells #[.int .i32 0, .string ⟨#[]⟩, .slice none 0 0, .slice none 0 0, .int .i64 0, .int .i32 0, .int .i32 0, .bool false, .int .i64 0, .int .i64 0, .int .i64 0, .int .i32 0, .slice none 0 0, .slice none 0 0, .int .i32 0, .slice none 0 0] 33)) := (Below.refl _ w).alloc (Nat.le_refl _) _
  have hb2 : Below w.heap.size w ((w.alloc (.cells #[.int .i32 0, .string ⟨#[]⟩, .slice none 0 0, .slice none 0 0, .int .i64 0, .int .i32 0, .int .i32 0, .bool false, .int .i64 0, .int .i64 0, .int .i64 0, .int .i32 0, .slice none 0 0, .slice none 0 0, .int .i32 0, .slice none 0 0] 33)).alloc (.cells #[.int .i32 120, .string ⟨#[]⟩, .slice none 0 0, .slice none 0 0, .int .i64 0, .int .i32 0, .int .i32 0, .bool false, .int .i64 0, .int .i64 0, .int .i64 0, .int .i32 0, .slice none 0 0, .slice none 0 0, .int .i32 0, .slice none 0 0] 33)) := hb1.alloc hb1.size _
  have HR0 := Lib.hid (h.below hb2)
  have HF0 := Lib.hid (Fr.of_below (own := [rb]) hb2)
  have HT0 := Lib.hid (hT.fr (Fr.of_below hb2))
  have HG0 := Lib.hid (heap_s1 w (.cells #[.int .i32 0, .string ⟨#[]⟩, .slice none 0 0, .slice none 0 0, .int .i64 0, .int .i32 0, .int .i32 0, .bool false, .int .i64 0, .int .i64 0, .int .i64 0, .int .i32 0, .slice none 0 0, .slice none 0 0, .int .i32 0, .slice none 0 0] 33) (.cells #[.int .i32 120, .string ⟨#[]⟩, .slice none 0 0, .slice none 0 0, .int .i64 0, .int .i32 0, .int .i32 0, .bool false, .int .i64 0, .int .i64 0, .int .i64 0, .int .i32 0, .slice none 0 0, .slice none 0 0, .int .i32 0, .slice none 0 0] 33))
  have HZ0 := Lib.hid (heap_under (o := (.cells #[.int .i32 120, .string ⟨#[]⟩, .slice none 0 0, .slice none 0 0, .int .i64 0, .int .i32 0, .int .i32 0, .bool false, .int .i64 0, .int .i64 0, .int .i64 0, .int .i32 0, .slice none 0 0, .slice none 0 0, .int .i32 0, .slice none 0 0] 33)) (heap_s0 w (.cells #[.int .i32 0, .string ⟨#[]⟩, .slice none 0 0, .slice none 0 0, .int .i64 0, .int .i32 0, .int .i32 0, .bool false, .int .i64 0, .int .i64 0, .int .i64 0, .int .i32 0, .slice none 0 0, .slice none 0 0, .int .i32 0, .slice none 0 0] 33)))
  have HLZ := Lib.hid (sz2 w (.cells #[.int .i32 0, .string ⟨#[]⟩, .slice none 0 0, .slice none 0 0, .int .i64 0, .int .i32 0, .int .i32 0, .bool false, .int .i64 0, .int .i64 0, .int .i64 0, .int .i32 0, .slice none 0 0, .slice none 0 0, .int .i32 0, .slice none 0 0] 33) (.cells #[.int .i32 120, .string ⟨#[]⟩, .slice none 0 0, .slice none 0 0, .int .i64 0, .int .i32 0, .int .i32 0, .bool false, .int .i64 0, .int .i64 0, .int .i64 0, .int .i32 0, .slice none 0 0, .slice none 0 0, .int .i32 0, .slice none 0 0] 33))
  have HLF := Lib.hid (show leafP l 120 p = (textP l 4096 p).then fun v0 p0 => (longP l p0).then fun v1 p1 => (longP l p1).then fun v2 p2 => .ok (⟨⟨120, toBA v0, 0, 0, 0, true, v1, v2, 0, 0, 0⟩, [], [], [], []⟩, p2) from rfl)
  clear h hT hb1 hb2
  go_enter Tryz.func66, Tryz.ntmps66
  go_upto_region 2 with (first | (apply wpList_storeTop 33 33; exact rfl; exact rfl; exact rfl; (first | (with_reducible rfl) | (exact sz1 _ _) | (exact sz2 _ _ _)); exact rfl; exact infTx; exact rfl; (first | exact oneTx _ | simp [Value.oneCell'])) | fail)
  change Code.wp _ _ _ _ ((w.alloc (.cells #[.int .i32 0, .string ⟨#[]⟩, .slice none 0 0, .slice none 0 0, .int .i64 0, .int .i32 0, .int .i32 0, .bool false, .int .i64 0, .int .i64 0, .int .i64 0, .int .i32 0, .slice none 0 0, .slice none 0 0, .int .i32 0, .slice none 0 0] 33)).alloc (.cells #[.int .i32 120, .string ⟨#[]⟩, .slice none 0 0, .slice none 0 0, .int .i64 0, .int .i32 0, .int .i32 0, .bool false, .int .i64 0, .int .i64 0, .int .i64 0, .int .i32 0, .slice none 0 0, .slice none 0 0, .int .i32 0, .slice none 0 0] 33))
  generalize ((w.alloc (.cells #[.int .i32 0, .string ⟨#[]⟩, .slice none 0 0, .slice none 0 0, .int .i64 0, .int .i32 0, .int .i32 0, .bool false, .int .i64 0, .int .i64 0, .int .i64 0, .int .i32 0, .slice none 0 0, .slice none 0 0, .int .i32 0, .slice none 0 0] 33)).alloc (.cells #[.int .i32 120, .string ⟨#[]⟩, .slice none 0 0, .slice none 0 0, .int .i64 0, .int .i32 0, .int .i32 0, .bool false, .int .i64 0, .int .i64 0, .int .i64 0, .int .i32 0, .slice none 0 0, .slice none 0 0, .int .i32 0, .slice none 0 0] 33)) = W0 at *
  go_wp2_with fail
  refine (part_any 120 W0).mono ?_
  rintro e wq ⟨rfl, rfl⟩
  rename World => W0
  rw [show partB 120 = true from rfl]
  go_wp2_with fail
  have hN := rText_any 4096 4096 rfl HR0.out (by decide) HT0.out
  rcases hX0 : textP l 4096 p with ⟨q, k⟩ | ⟨v0, p0⟩
  · have HG := Lib.hid (show leafP l 120 p = .error (q, k) by rw [HLF.out]; simp only [thenOk2, thenErr, hX0])
    rw [hX0] at hN
    refine hN.mono ?_
    rintro e w9 ⟨rfl, hr, hf⟩
    refine ⟨rfl, ?_⟩
    rw [HG.out]
    exact ⟨rfl, hr, HF0.out.transJ hf⟩
  rw [hX0] at hN
  have HX0 := Lib.hid hX0
  clear hX0
  refine hN.mono ?_
  rintro e w1 ⟨⟨u, rfl, rfl⟩, hr, hf⟩
  have hg := (hf.block _ (Array.getElem?_eq_some_iff.1 HG0.out).1 (by simp; omega)).trans HG0.out
  have z : w1.frozen? ⟨w.heap.size + 1, 1, none⟩ = false := by simp [World.frozen?, hg]
  have y : w1.cell? ⟨w.heap.size + 1, 1, none⟩ = some (.string ⟨#[]⟩) := by rw [cellH hg]; rfl
  have HG1 := Lib.hid (show (w1.setCell ⟨w.heap.size + 1, 1, none⟩ (.string (toBA v0))).heap[w.heap.size + 1]? = some (.cells #[.int .i32 120, .string (toBA v0), .slice none 0 0, .slice none 0 0, .int .i64 0, .int .i32 0, .int .i32 0, .bool false, .int .i64 0, .int .i64 0, .int .i64 0, .int .i32 0, .slice none 0 0, .slice none 0 0, .int .i32 0, .slice none 0 0] 33 (0, 0)) from heap_setJ (o := 1) hg _)
  have HZ1 := Lib.hid ((heap_otherJ w1 (w.heap.size + 1) 1 (.string (toBA v0)) (by omega)).trans ((hf.block _ (Array.getElem?_eq_some_iff.1 HZ0.out).1 (by simp; omega)).trans HZ0.out))
  have HR1 := Lib.hid (hr.fr (fr_setJ w1 (w.heap.size + 1) 1 (.string (toBA v0))) (by simp; omega))
  have HF1 := Lib.hid ((HF0.out.transJ hf).trans (fr_setJ w1 (w.heap.size + 1) 1 (.string (toBA v0))) (by simp))
  have HT1 := Lib.hid ((HT0.out.fr hf).set (show rb < w.heap.size + 1 by omega) 1 (.string (toBA v0)))
  clear hr hf hN hg
  go_upto_region 19 with fail
  clear z y
  generalize (w1.setCell ⟨w.heap.size + 1, 1, none⟩ (.string (toBA v0))) = W1 at *
  have hg := HG1.out
  have z : W1.frozen? ⟨w.heap.size + 1, 7, none⟩ = false := by simp [World.frozen?, hg]
  have y : W1.cell? ⟨w.heap.size + 1, 7, none⟩ = some (.bool false) := by rw [cellH hg]; rfl
  have HG2 := Lib.hid (show (W1.setCell ⟨w.heap.size + 1, 7, none⟩ (.bool true)).heap[w.heap.size + 1]? = some (.cells #[.int .i32 120, .string (toBA v0), .slice none 0 0, .slice none 0 0, .int .i64 0, .int .i32 0, .int .i32 0, .bool true, .int .i64 0, .int .i64 0, .int .i64 0, .int .i32 0, .slice none 0 0, .slice none 0 0, .int .i32 0, .slice none 0 0] 33 (0, 0)) from heap_setJ (o := 7) hg _)
  have HZ2 := Lib.hid ((heap_otherJ W1 (w.heap.size + 1) 7 (.bool true) (by omega)).trans HZ1.out)
  have HR2 := Lib.hid (HR1.out.fr (fr_setJ W1 (w.heap.size + 1) 7 (.bool true)) (by simp; omega))
  have HF2 := Lib.hid (HF1.out.trans (fr_setJ W1 (w.heap.size + 1) 7 (.bool true)) (by simp))
  have HT2 := Lib.hid (HT1.out.set (show rb < w.heap.size + 1 by omega) 7 (.bool true))
  clear hg
  go_wp2_with fail
  clear z y
  generalize (W1.setCell ⟨w.heap.size + 1, 7, none⟩ (.bool true)) = W2 at *
  have hN := rLong_any HR2.out
  rcases hX1 : longP l p0 with ⟨q, k⟩ | ⟨v1, p1⟩
  · have HG := Lib.hid (show leafP l 120 p = .error (q, k) by rw [HLF.out]; simp only [thenOk2, thenErr, HX0.out, hX1])
    rw [hX1] at hN
    refine hN.mono ?_
    rintro e w9 ⟨rfl, hr, hf⟩
    refine ⟨rfl, ?_⟩
    rw [HG.out]
    exact ⟨rfl, hr, HF2.out.transJ hf⟩
  rw [hX1] at hN
  have HX1 := Lib.hid hX1
  clear hX1
  refine hN.mono ?_
  rintro e w3 ⟨⟨u, rfl, rfl⟩, hr, hf⟩
  have hg := (hf.block _ (Array.getElem?_eq_some_iff.1 HG2.out).1 (by simp; omega)).trans HG2.out
  have z : w3.frozen? ⟨w.heap.size + 1, 8, none⟩ = false := by simp [World.frozen?, hg]
  have y : w3.cell? ⟨w.heap.size + 1, 8, none⟩ = some (.int .i64 0) := by rw [cellH hg]; rfl
  have HG3 := Lib.hid (show (w3.setCell ⟨w.heap.size + 1, 8, none⟩ (.int .i64 v1)).heap[w.heap.size + 1]? = some (.cells #[.int .i32 120, .string (toBA v0), .slice none 0 0, .slice none 0 0, .int .i64 0, .int .i32 0, .int .i32 0, .bool true, .int .i64 v1, .int .i64 0, .int .i64 0, .int .i32 0, .slice none 0 0, .slice none 0 0, .int .i32 0, .slice none 0 0] 33 (0, 0)) from heap_setJ (o := 8) hg _)
  have HZ3 := Lib.hid ((heap_otherJ w3 (w.heap.size + 1) 8 (.int .i64 v1) (by omega)).trans ((hf.block _ (Array.getElem?_eq_some_iff.1 HZ2.out).1 (by simp; omega)).trans HZ2.out))
  have HR3 := Lib.hid (hr.fr (fr_setJ w3 (w.heap.size + 1) 8 (.int .i64 v1)) (by simp; omega))
  have HF3 := Lib.hid ((HF2.out.transJ hf).trans (fr_setJ w3 (w.heap.size + 1) 8 (.int .i64 v1)) (by simp))
  have HT3 := Lib.hid ((HT2.out.fr hf).set (show rb < w.heap.size + 1 by omega) 8 (.int .i64 v1))
  clear hr hf hN hg
  go_wp2_with fail
  clear z y
  generalize (w3.setCell ⟨w.heap.size + 1, 8, none⟩ (.int .i64 v1)) = W3 at *
  have hN := rLong_any HR3.out
  rcases hX2 : longP l p1 with ⟨q, k⟩ | ⟨v2, p2⟩
  · have HG := Lib.hid (show leafP l 120 p = .error (q, k) by rw [HLF.out]; simp only [thenOk2, thenErr, HX0.out, HX1.out, hX2])
    rw [hX2] at hN
    refine hN.mono ?_
    rintro e w9 ⟨rfl, hr, hf⟩
    refine ⟨rfl, ?_⟩
    rw [HG.out]
    exact ⟨rfl, hr, HF3.out.transJ hf⟩
  rw [hX2] at hN
  have HX2 := Lib.hid hX2
  clear hX2
  refine hN.mono ?_
  rintro e w4 ⟨⟨u, rfl, rfl⟩, hr, hf⟩
  have hg := (hf.block _ (Array.getElem?_eq_some_iff.1 HG3.out).1 (by simp; omega)).trans HG3.out
  have z : w4.frozen? ⟨w.heap.size + 1, 9, none⟩ = false := by simp [World.frozen?, hg]
  have y : w4.cell? ⟨w.heap.size + 1, 9, none⟩ = some (.int .i64 0) := by rw [cellH hg]; rfl
  have HG4 := Lib.hid (show (w4.setCell ⟨w.heap.size + 1, 9, none⟩ (.int .i64 v2)).heap[w.heap.size + 1]? = some (.cells #[.int .i32 120, .string (toBA v0), .slice none 0 0, .slice none 0 0, .int .i64 0, .int .i32 0, .int .i32 0, .bool true, .int .i64 v1, .int .i64 v2, .int .i64 0, .int .i32 0, .slice none 0 0, .slice none 0 0, .int .i32 0, .slice none 0 0] 33 (0, 0)) from heap_setJ (o := 9) hg _)
  have HZ4 := Lib.hid ((heap_otherJ w4 (w.heap.size + 1) 9 (.int .i64 v2) (by omega)).trans ((hf.block _ (Array.getElem?_eq_some_iff.1 HZ3.out).1 (by simp; omega)).trans HZ3.out))
  have HR4 := Lib.hid (hr.fr (fr_setJ w4 (w.heap.size + 1) 9 (.int .i64 v2)) (by simp; omega))
  have HF4 := Lib.hid ((HF3.out.transJ hf).trans (fr_setJ w4 (w.heap.size + 1) 9 (.int .i64 v2)) (by simp))
  have HT4 := Lib.hid ((HT3.out.fr hf).set (show rb < w.heap.size + 1 by omega) 9 (.int .i64 v2))
  clear hr hf hN hg
  go_upto_region 31 with fail
  clear z y
  generalize (w4.setCell ⟨w.heap.size + 1, 9, none⟩ (.int .i64 v2)) = V at *
  have gX := HG4.out
  have gZ := HZ4.out
  go_wp2_with (first | (apply wpList_loadRow 33 33; exact rfl; exact rfl; exact rfl; assumption; exact undTx; exact rfl; exact infTx) | (apply wpList_storeRow 33 33; exact rfl; exact rfl; exact rfl; exact rfl; assumption; exact infTx; exact rfl; simp [Value.oneCell']) | fail)
  have hfz := fr_setRow9 V w.heap.size #[.int .i32 120, .string (toBA v0), .slice none 0 0, .slice none 0 0, .int .i64 0, .int .i32 0, .int .i32 0, .bool true, .int .i64 v1, .int .i64 v2, .int .i64 0, .int .i32 0, .slice none 0 0, .slice none 0 0, .int .i32 0, .slice none 0 0]
  have HEND := Lib.hid (show RdOut rb A n c l w (leafP l 120 p) (GetL w) (.returned (txV ⟨⟨120, toBA v0, 0, 0, 0, true, v1, v2, 0, 0, 0⟩, (none, 0, 0), (none, 0, 0), (none, 0, 0), (none, 0, 0), (none, 0, 0)⟩)) (V.setRow w.heap.size #[.int .i32 120, .string (toBA v0), .slice none 0 0, .slice none 0 0, .int .i64 0, .int .i32 0, .int .i32 0, .bool true, .int .i64 v1, .int .i64 v2, .int .i64 0, .int .i32 0, .slice none 0 0, .slice none 0 0, .int .i32 0, .slice none 0 0]) by
    have hlf : leafP l 120 p = .ok (⟨⟨120, toBA v0, 0, 0, 0, true, v1, v2, 0, 0, 0⟩, [], [], [], []⟩, p2) := by rw [HLF.out]; simp only [thenOk2, HX0.out, HX1.out, HX2.out]
    rw [hlf]
    exact ⟨⟨_, rfl, _, rfl, ⟨rfl, SlR.nil_, SlR.nil_, SlR.nil_, SlR.nil_⟩, rfl⟩, HR4.out.fr hfz (by simp; omega), HF4.out.trans hfz (by simp)⟩)
  exact bodyPost_cell rfl rfl (setRow_heap _ _ _ _ _ _ gZ) undTx rfl infTx rfl HEND.out
set_option linter.unusedSimpArgs false in
set_option maxRecDepth 100000 in
set_option maxHeartbeats 4000000 in
theorem getM10_any {w : World} {rb n c p : Nat} {A : Option Addr} {l : Bs} (h : Rd w rb A n c l p) (hT : TabsR rb w) :
    Calls Tryz.prog 66 #[.pointer (some ⟨rb, 0, none⟩), .int .i32 (-10)] w (RdOut rb A n c l w (leafP l (-10) p) (GetL w)) := by
  have hlt := h.lt
  have hb1 : Below w.heap.size w (w.alloc (.cells #[.int .i32 0, .string ⟨#[]⟩, .slice none 0 0, .slice none 0 0, .int .i64 0, .int .i32 0, .int .i32 0, .bool false, .int .i64 0, .int .i64 0, .int .i64 0, .int .i32 0, .slice none 0 0, .slice none 0 0, .int .i32 0, .slice none 0 0] 33)) := (Below.refl _ w).alloc (Nat.le_refl _) _
  have hb2 : Below w.heap.size w ((w.alloc (.cells #[.int .i32 0, .string ⟨#[]⟩, .slice none 0 0, .slice none 0 0, .int .i64 0, .int .i32 0, .int .i32 0, .bool false, .int .i64 0, .int .i64 0, .int .i64 0, .int .i32 0, .slice none 0 0, .slice none 0 0, .int .i32 0, .slice none 0 0] 33)).alloc (.cells #[.int .i32 (-10), .string ⟨#[]⟩, .slice none 0 0, .slice none 0 0, .int .i64 0, .int .i32 0, .int .i32 0, .bool false, .int .i64 0, .int .i64 0, .int .i64 0, .int .i32 0, .slice none 0 0, .slice none 0 0, .int .i32 0, .slice none 0 0] 33)) := hb1.alloc hb1.size _
  have HR0 := Lib.hid (h.below hb2)
  have HF0 := Lib.hid (Fr.of_below (own := [rb]) hb2)
  have HT0 := Lib.hid (hT.fr (Fr.of_below hb2))
  have HG0 := Lib.hid (heap_s1 w (.cells #[.int .i32 0, .string ⟨#[]⟩, .slice none 0 0, .slice none 0 0, .int .i64 0, .int .i32 0, .int .i32 0, .bool false, .int .i64 0, .int .i64 0, .int .i64 0, .int .i32 0, .slice none 0 0, .slice none 0 0, .int .i32 0, .slice none 0 0] 33) (.cells #[.int .i32 (-10), .string ⟨#[]⟩, .slice none 0 0, .slice none 0 0, .int .i64 0, .int .i32 0, .int .i32 0, .bool false, .int .i64 0, .int .i64 0, .int .i64 0, .int .i32 0, .slice none 0 0, .slice none 0 0, .int .i32 0, .slice none 0 0] 33))
  have HZ0 := Lib.hid (heap_under (o := (.cells #[.int .i32 (-10), .string ⟨#[]⟩, .slice none 0 0, .slice none 0 0, .int .i64 0, .int .i32 0, .int .i32 0, .bool false, .int .i64 0, .int .i64 0, .int .i64 0, .int .i32 0, .slice none 0 0, .slice none 0 0, .int .i32 0, .slice none 0 0] 33)) (heap_s0 w (.cells #[.int .i32 0, .string ⟨#[]⟩, .slice none 0 0, .slice none 0 0, .int .i64 0, .int .i32 0, .int .i32 0, .bool false, .int .i64 0, .int .i64 0, .int .i64 0, .int .i32 0, .slice none 0 0, .slice none 0 0, .int .i32 0, .slice none 0 0] 33)))
  have HLZ := Lib.hid (sz2 w (.cells #[.int .i32 0, .string ⟨#[]⟩, .slice none 0 0, .slice none 0 0, .int .i64 0, .int .i32 0, .int .i32 0, .bool false, .int .i64 0, .int .i64 0, .int .i64 0, .int .i32 0, .slice none 0 0, .slice none 0 0, .int .i32 0, .slice none 0 0] 33) (.cells #[.int .i32 (-10), .string ⟨#[]⟩, .slice none 0 0, .slice none 0 0, .int .i64 0, .int .i32 0, .int .i32 0, .bool false, .int .i64 0, .int .i64 0, .int .i64 0, .int .i32 0, .slice none 0 0, .slice none 0 0, .int .i32 0, .slice none 0 0] 33))
  have HLF := Lib.hid (show leafP l (-10) p = (intP l p).then fun v0 p0 => (listP l 16 8 (idP l) p0).then fun v1 p1 => .ok (⟨⟨(-10), ⟨#[]⟩, 0, 0, 0, false, 0, 0, 0, v0, 0⟩, [], [], v1.map idV, []⟩, p1) from rfl)
  clear h hT hb1 hb2
  go_enter Tryz.func66, Tryz.ntmps66
  go_upto_region 2 with (first | (apply wpList_storeTop 33 33; exact rfl; exact rfl; exact rfl; (first | (with_reducible rfl) | (exact sz1 _ _) | (exact sz2 _ _ _)); exact rfl; exact infTx; exact rfl; (first | exact oneTx _ | simp [Value.oneCell'])) | fail)
  change Code.wp _ _ _ _ ((w.alloc (.cells #[.int .i32 0, .string ⟨#[]⟩, .slice none 0 0, .slice none 0 0, .int .i64 0, .int .i32 0, .int .i32 0, .bool false, .int .i64 0, .int .i64 0, .int .i64 0, .int .i32 0, .slice none 0 0, .slice none 0 0, .int .i32 0, .slice none 0 0] 33)).alloc (.cells #[.int .i32 (-10), .string ⟨#[]⟩, .slice none 0 0, .slice none 0 0, .int .i64 0, .int .i32 0, .int .i32 0, .bool false, .int .i64 0, .int .i64 0, .int .i64 0, .int .i32 0, .slice none 0 0, .slice none 0 0, .int .i32 0, .slice none 0 0] 33))
  generalize ((w.alloc (.cells #[.int .i32 0, .string ⟨#[]⟩, .slice none 0 0, .slice none 0 0, .int .i64 0, .int .i32 0, .int .i32 0, .bool false, .int .i64 0, .int .i64 0, .int .i64 0, .int .i32 0, .slice none 0 0, .slice none 0 0, .int .i32 0, .slice none 0 0] 33)).alloc (.cells #[.int .i32 (-10), .string ⟨#[]⟩, .slice none 0 0, .slice none 0 0, .int .i64 0, .int .i32 0, .int .i32 0, .bool false, .int .i64 0, .int .i64 0, .int .i64 0, .int .i32 0, .slice none 0 0, .slice none 0 0, .int .i32 0, .slice none 0 0] 33)) = W0 at *
  go_wp2_with fail
  refine (part_any (-10) W0).mono ?_
  rintro e wq ⟨rfl, rfl⟩
  rename World => W0
  rw [show partB (-10) = false from rfl]
  go_wp2_with fail
  have hN := rInt_any HR0.out
  rcases hX0 : intP l p with ⟨q, k⟩ | ⟨v0, p0⟩
  · have HG := Lib.hid (show leafP l (-10) p = .error (q, k) by rw [HLF.out]; simp only [thenOk2, thenErr, hX0])
    rw [hX0] at hN
    refine hN.mono ?_
    rintro e w9 ⟨rfl, hr, hf⟩
    refine ⟨rfl, ?_⟩
    rw [HG.out]
    exact ⟨rfl, hr, HF0.out.transJ hf⟩
  rw [hX0] at hN
  have HX0 := Lib.hid hX0
  clear hX0
  refine hN.mono ?_
  rintro e w1 ⟨⟨u, rfl, rfl⟩, hr, hf⟩
  have hg := (hf.block _ (Array.getElem?_eq_some_iff.1 HG0.out).1 (by simp; omega)).trans HG0.out
  have z : w1.frozen? ⟨w.heap.size + 1, 11, none⟩ = false := by simp [World.frozen?, hg]
  have y : w1.cell? ⟨w.heap.size + 1, 11, none⟩ = some (.int .i32 0) := by rw [cellH hg]; rfl
  have HG1 := Lib.hid (show (w1.setCell ⟨w.heap.size + 1, 11, none⟩ (.int .i32 v0)).heap[w.heap.size + 1]? = some (.cells #[.int .i32 (-10), .string ⟨#[]⟩, .slice none 0 0, .slice none 0 0, .int .i64 0, .int .i32 0, .int .i32 0, .bool false, .int .i64 0, .int .i64 0, .int .i64 0, .int .i32 v0, .slice none 0 0, .slice none 0 0, .int .i32 0, .slice none 0 0] 33 (0, 0)) from heap_setJ (o := 11) hg _)
  have HZ1 := Lib.hid ((heap_otherJ w1 (w.heap.size + 1) 11 (.int .i32 v0) (by omega)).trans ((hf.block _ (Array.getElem?_eq_some_iff.1 HZ0.out).1 (by simp; omega)).trans HZ0.out))
  have HR1 := Lib.hid (hr.fr (fr_setJ w1 (w.heap.size + 1) 11 (.int .i32 v0)) (by simp; omega))
  have HF1 := Lib.hid ((HF0.out.transJ hf).trans (fr_setJ w1 (w.heap.size + 1) 11 (.int .i32 v0)) (by simp))
  have HT1 := Lib.hid ((HT0.out.fr hf).set (show rb < w.heap.size + 1 by omega) 11 (.int .i32 v0))
  clear hr hf hN hg
  go_wp2_with fail
  clear z y
  generalize (w1.setCell ⟨w.heap.size + 1, 11, none⟩ (.int .i32 v0)) = W1 at *
  have hN := getIdsD_any HR1.out HT1.out
  rcases hX1 : listP l 16 8 (idP l) p0 with ⟨q, k⟩ | ⟨v1, p1⟩
  · have HG := Lib.hid (show leafP l (-10) p = .error (q, k) by rw [HLF.out]; simp only [thenOk2, thenErr, HX0.out, hX1])
    rw [hX1] at hN
    refine hN.mono ?_
    rintro e w9 ⟨rfl, hr, hf⟩
    refine ⟨rfl, ?_⟩
    rw [HG.out]
    exact ⟨rfl, hr, HF1.out.transJ hf⟩
  rw [hX1] at hN
  have HX1 := Lib.hid hX1
  clear hX1
  refine hN.mono ?_
  rintro e w2 ⟨⟨u, rfl, A1, c1, rfl, hrow⟩, hr, hf⟩
  have hg := (hf.block _ (Array.getElem?_eq_some_iff.1 HG1.out).1 (by simp; omega)).trans HG1.out
  have z : w2.frozen? ⟨w.heap.size + 1, 12, none⟩ = false := by simp [World.frozen?, hg]
  have y : w2.cell? ⟨w.heap.size + 1, 12, none⟩ = some (.slice none 0 0) := by rw [cellH hg]; rfl
  have HG2 := Lib.hid (show (w2.setCell ⟨w.heap.size + 1, 12, none⟩ (.slice A1 v1.length c1)).heap[w.heap.size + 1]? = some (.cells #[.int .i32 (-10), .string ⟨#[]⟩, .slice none 0 0, .slice none 0 0, .int .i64 0, .int .i32 0, .int .i32 0, .bool false, .int .i64 0, .int .i64 0, .int .i64 0, .int .i32 v0, .slice A1 v1.length c1, .slice none 0 0, .int .i32 0, .slice none 0 0] 33 (0, 0)) from heap_setJ (o := 12) hg _)
  have HZ2 := Lib.hid ((heap_otherJ w2 (w.heap.size + 1) 12 (.slice A1 v1.length c1) (by omega)).trans ((hf.block _ (Array.getElem?_eq_some_iff.1 HZ1.out).1 (by simp; omega)).trans HZ1.out))
  have HR2 := Lib.hid (hr.fr (fr_setJ w2 (w.heap.size + 1) 12 (.slice A1 v1.length c1)) (by simp; omega))
  have HF2 := Lib.hid ((HF1.out.transJ hf).trans (fr_setJ w2 (w.heap.size + 1) 12 (.slice A1 v1.length c1)) (by simp))
  have HT2 := Lib.hid ((HT1.out.fr hf).set (show rb < w.heap.size + 1 by omega) 12 (.slice A1 v1.length c1))
  obtain ⟨B1, hB1⟩ : ∃ B, B = W1.heap.size := ⟨_, rfl⟩
  rw [← hB1] at hrow
  have HLB1 := Lib.hid (show w.heap.size + 2 ≤ B1 by rw [hB1]; have h8 := (Array.getElem?_eq_some_iff.1 HG1.out).1; omega)
  have HL1 := Lib.hid (own_fr hrow (fr_setJ w2 (w.heap.size + 1) 12 (.slice A1 v1.length c1)) (by have := HLB1.out; simp; omega))
  clear hrow hB1
  clear hr hf hN hg
  go_upto_region 31 with fail
  clear z y
  generalize (w2.setCell ⟨w.heap.size + 1, 12, none⟩ (.slice A1 v1.length c1)) = V at *
  have gX := HG2.out
  have gZ := HZ2.out
  go_wp2_with (first | (apply wpList_loadRow 33 33; exact rfl; exact rfl; exact rfl; assumption; exact undTx; exact rfl; exact infTx) | (apply wpList_storeRow 33 33; exact rfl; exact rfl; exact rfl; exact rfl; assumption; exact infTx; exact rfl; simp [Value.oneCell']) | fail)
  have hfz := fr_setRow9 V w.heap.size #[.int .i32 (-10), .string ⟨#[]⟩, .slice none 0 0, .slice none 0 0, .int .i64 0, .int .i32 0, .int .i32 0, .bool false, .int .i64 0, .int .i64 0, .int .i64 0, .int .i32 v0, .slice A1 v1.length c1, .slice none 0 0, .int .i32 0, .slice none 0 0]
  have HEND := Lib.hid (show RdOut rb A n c l w (leafP l (-10) p) (GetL w) (.returned (txV ⟨⟨(-10), ⟨#[]⟩, 0, 0, 0, false, 0, 0, 0, v0, 0⟩, (none, 0, 0), (none, 0, 0), (A1, v1.length, c1), (none, 0, 0), (none, 0, 0)⟩)) (V.setRow w.heap.size #[.int .i32 (-10), .string ⟨#[]⟩, .slice none 0 0, .slice none 0 0, .int .i64 0, .int .i32 0, .int .i32 0, .bool false, .int .i64 0, .int .i64 0, .int .i64 0, .int .i32 v0, .slice A1 v1.length c1, .slice none 0 0, .int .i32 0, .slice none 0 0]) by
    have hlf : leafP l (-10) p = .ok (⟨⟨(-10), ⟨#[]⟩, 0, 0, 0, false, 0, 0, 0, v0, 0⟩, [], [], v1.map idV, []⟩, p1) := by rw [HLF.out]; simp only [thenOk2, HX0.out, HX1.out]
    rw [hlf]
    exact ⟨⟨_, rfl, _, rfl, ⟨rfl, SlR.nil_, SlR.nil_, own_slrN (own_mono (own_fr HL1.out hfz (by have := HLB1.out; simp; omega)) (by have := HLB1.out; omega)) (fun _ => rfl) (by simp), SlR.nil_⟩, rfl⟩, HR2.out.fr hfz (by simp; omega), HF2.out.trans hfz (by simp)⟩)
  exact bodyPost_cell rfl rfl (setRow_heap _ _ _ _ _ _ gZ) undTx rfl infTx rfl HEND.out
set_option linter.unusedSimpArgs false in
set_option maxRecDepth 100000 in
set_option maxHeartbeats 4000000 in
theorem getM1_any {w : World} {rb n c p : Nat} {A : Option Addr} {l : Bs} (h : Rd w rb A n c l p) (hT : TabsR rb w) :
    Calls Tryz.prog 66 #[.pointer (some ⟨rb, 0, none⟩), .int .i32 (-1)] w (RdOut rb A n c l w (leafP l (-1) p) (GetL w)) := by
  have hlt := h.lt
  have hb1 : Below w.heap.size w (w.alloc (.cells #[.int .i32 0, .string ⟨#[]⟩, .slice none 0 0, .slice none 0 0, .int .i64 0, .int .i32 0, .int .i32 0, .bool false, .int .i64 0, .int .i64 0, .int .i64 0, .int .i32 0, .slice none 0 0, .slice none 0 0, .int .i32 0, .slice none 0 0] 33)) := (Below.refl _ w).alloc (Nat.le_refl _) _
  have hb2 : Below w.heap.size w ((w.alloc (.cells #[.int .i32 0, .string ⟨#[]⟩, .slice none 0 0, .slice none 0 0, .int .i64 0, .int .i32 0, .int .i32 0, .bool false, .int .i64 0, .int .i64 0, .int .i64 0, .int .i32 0, .slice none 0 0, .slice none 0 0, .int .i32 0, .slice none 0 0] 33)).alloc (.cells #[.int .i32 (-1), .string ⟨#[]⟩, .slice none 0 0, .slice none 0 0, .int .i64 0, .int .i32 0, .int .i32 0, .bool false, .int .i64 0, .int .i64 0, .int .i64 0, .int .i32 0, .slice none 0 0, .slice none 0 0, .int .i32 0, .slice none 0 0] 33)) := hb1.alloc hb1.size _
  have HR0 := Lib.hid (h.below hb2)
  have HF0 := Lib.hid (Fr.of_below (own := [rb]) hb2)
  have HT0 := Lib.hid (hT.fr (Fr.of_below hb2))
  have HG0 := Lib.hid (heap_s1 w (.cells #[.int .i32 0, .string ⟨#[]⟩, .slice none 0 0, .slice none 0 0, .int .i64 0, .int .i32 0, .int .i32 0, .bool false, .int .i64 0, .int .i64 0, .int .i64 0, .int .i32 0, .slice none 0 0, .slice none 0 0, .int .i32 0, .slice none 0 0] 33) (.cells #[.int .i32 (-1), .string ⟨#[]⟩, .slice none 0 0, .slice none 0 0, .int .i64 0, .int .i32 0, .int .i32 0, .bool false, .int .i64 0, .int .i64 0, .int .i64 0, .int .i32 0, .slice none 0 0, .slice none 0 0, .int .i32 0, .slice none 0 0] 33))
  have HZ0 := Lib.hid (heap_under (o := (.cells #[.int .i32 (-1), .string ⟨#[]⟩, .slice none 0 0, .slice none 0 0, .int .i64 0, .int .i32 0, .int .i32 0, .bool false, .int .i64 0, .int .i64 0, .int .i64 0, .int .i32 0, .slice none 0 0, .slice none 0 0, .int .i32 0, .slice none 0 0] 33)) (heap_s0 w (.cells #[.int .i32 0, .string ⟨#[]⟩, .slice none 0 0, .slice none 0 0, .int .i64 0, .int .i32 0, .int .i32 0, .bool false, .int .i64 0, .int .i64 0, .int .i64 0, .int .i32 0, .slice none 0 0, .slice none 0 0, .int .i32 0, .slice none 0 0] 33)))
  have HLZ := Lib.hid (sz2 w (.cells #[.int .i32 0, .string ⟨#[]⟩, .slice none 0 0, .slice none 0 0, .int .i64 0, .int .i32 0, .int .i32 0, .bool false, .int .i64 0, .int .i64 0, .int .i64 0, .int .i32 0, .slice none 0 0, .slice none 0 0, .int .i32 0, .slice none 0 0] 33) (.cells #[.int .i32 (-1), .string ⟨#[]⟩, .slice none 0 0, .slice none 0 0, .int .i64 0, .int .i32 0, .int .i32 0, .bool false, .int .i64 0, .int .i64 0, .int .i64 0, .int .i32 0, .slice none 0 0, .slice none 0 0, .int .i32 0, .slice none 0 0] 33))
  have HLF := Lib.hid (show leafP l (-1) p = (intP l p).then fun v0 p0 => .ok (⟨⟨(-1), ⟨#[]⟩, 0, 0, 0, false, 0, 0, 0, 0, v0⟩, [], [], [], []⟩, p0) from rfl)
  clear h hT hb1 hb2
  go_enter Tryz.func66, Tryz.ntmps66
  go_upto_region 2 with (first | (apply wpList_storeTop 33 33; exact rfl; exact rfl; exact rfl; (first | (with_reducible rfl) | (exact sz1 _ _) | (exact sz2 _ _ _)); exact rfl; exact infTx; exact rfl; (first | exact oneTx _ | simp [Value.oneCell'])) | fail)
  change Code.wp _ _ _ _ ((w.alloc (.cells #[.int .i32 0, .string ⟨#[]⟩, .slice none 0 0, .slice none 0 0, .int .i64 0, .int .i32 0, .int .i32 0, .bool false, .int .i64 0, .int .i64 0, .int .i64 0, .int .i32 0, .slice none 0 0, .slice none 0 0, .int .i32 0, .slice none 0 0] 33)).alloc (.cells #[.int .i32 (-1), .string ⟨#[]⟩, .slice none 0 0, .slice none 0 0, .int .i64 0, .int .i32 0, .int .i32 0, .bool false, .int .i64 0, .int .i64 0, .int .i64 0, .int .i32 0, .slice none 0 0, .slice none 0 0, .int .i32 0, .slice none 0 0] 33))
  generalize ((w.alloc (.cells #[.int .i32 0, .string ⟨#[]⟩, .slice none 0 0, .slice none 0 0, .int .i64 0, .int .i32 0, .int .i32 0, .bool false, .int .i64 0, .int .i64 0, .int .i64 0, .int .i32 0, .slice none 0 0, .slice none 0 0, .int .i32 0, .slice none 0 0] 33)).alloc (.cells #[.int .i32 (-1), .string ⟨#[]⟩, .slice none 0 0, .slice none 0 0, .int .i64 0, .int .i32 0, .int .i32 0, .bool false, .int .i64 0, .int .i64 0, .int .i64 0, .int .i32 0, .slice none 0 0, .slice none 0 0, .int .i32 0, .slice none 0 0] 33)) = W0 at *
  go_wp2_with fail
  refine (part_any (-1) W0).mono ?_
  rintro e wq ⟨rfl, rfl⟩
  rename World => W0
  rw [show partB (-1) = false from rfl]
  go_wp2_with fail
  have hN := rInt_any HR0.out
  rcases hX0 : intP l p with ⟨q, k⟩ | ⟨v0, p0⟩
  · have HG := Lib.hid (show leafP l (-1) p = .error (q, k) by rw [HLF.out]; simp only [thenOk2, thenErr, hX0])
    rw [hX0] at hN
    refine hN.mono ?_
    rintro e w9 ⟨rfl, hr, hf⟩
    refine ⟨rfl, ?_⟩
    rw [HG.out]
    exact ⟨rfl, hr, HF0.out.transJ hf⟩
  rw [hX0] at hN
  have HX0 := Lib.hid hX0
  clear hX0
  refine hN.mono ?_
  rintro e w1 ⟨⟨u, rfl, rfl⟩, hr, hf⟩
  have hg := (hf.block _ (Array.getElem?_eq_some_iff.1 HG0.out).1 (by simp; omega)).trans HG0.out
  have z : w1.frozen? ⟨w.heap.size + 1, 14, none⟩ = false := by simp [World.frozen?, hg]
  have y : w1.cell? ⟨w.heap.size + 1, 14, none⟩ = some (.int .i32 0) := by rw [cellH hg]; rfl
  have HG1 := Lib.hid (show (w1.setCell ⟨w.heap.size + 1, 14, none⟩ (.int .i32 v0)).heap[w.heap.size + 1]? = some (.cells #[.int .i32 (-1), .string ⟨#[]⟩, .slice none 0 0, .slice none 0 0, .int .i64 0, .int .i32 0, .int .i32 0, .bool false, .int .i64 0, .int .i64 0, .int .i64 0, .int .i32 0, .slice none 0 0, .slice none 0 0, .int .i32 v0, .slice none 0 0] 33 (0, 0)) from heap_setJ (o := 14) hg _)
  have HZ1 := Lib.hid ((heap_otherJ w1 (w.heap.size + 1) 14 (.int .i32 v0) (by omega)).trans ((hf.block _ (Array.getElem?_eq_some_iff.1 HZ0.out).1 (by simp; omega)).trans HZ0.out))
  have HR1 := Lib.hid (hr.fr (fr_setJ w1 (w.heap.size + 1) 14 (.int .i32 v0)) (by simp; omega))
  have HF1 := Lib.hid ((HF0.out.transJ hf).trans (fr_setJ w1 (w.heap.size + 1) 14 (.int .i32 v0)) (by simp))
  have HT1 := Lib.hid ((HT0.out.fr hf).set (show rb < w.heap.size + 1 by omega) 14 (.int .i32 v0))
  clear hr hf hN hg
  go_upto_region 31 with fail
  clear z y
  generalize (w1.setCell ⟨w.heap.size + 1, 14, none⟩ (.int .i32 v0)) = V at *
  have gX := HG1.out
  have gZ := HZ1.out
  go_wp2_with (first | (apply wpList_loadRow 33 33; exact rfl; exact rfl; exact rfl; assumption; exact undTx; exact rfl; exact infTx) | (apply wpList_storeRow 33 33; exact rfl; exact rfl; exact rfl; exact rfl; assumption; exact infTx; exact rfl; simp [Value.oneCell']) | fail)
  have hfz := fr_setRow9 V w.heap.size #[.int .i32 (-1), .string ⟨#[]⟩, .slice none 0 0, .slice none 0 0, .int .i64 0, .int .i32 0, .int .i32 0, .bool false, .int .i64 0, .int .i64 0, .int .i64 0, .int .i32 0, .slice none 0 0, .slice none 0 0, .int .i32 v0, .slice none 0 0]
  have HEND := Lib.hid (show RdOut rb A n c l w (leafP l (-1) p) (GetL w) (.returned (txV ⟨⟨(-1), ⟨#[]⟩, 0, 0, 0, false, 0, 0, 0, 0, v0⟩, (none, 0, 0), (none, 0, 0), (none, 0, 0), (none, 0, 0), (none, 0, 0)⟩)) (V.setRow w.heap.size #[.int .i32 (-1), .string ⟨#[]⟩, .slice none 0 0, .slice none 0 0, .int .i64 0, .int .i32 0, .int .i32 0, .bool false, .int .i64 0, .int .i64 0, .int .i64 0, .int .i32 0, .slice none 0 0, .slice none 0 0, .int .i32 v0, .slice none 0 0]) by
    have hlf : leafP l (-1) p = .ok (⟨⟨(-1), ⟨#[]⟩, 0, 0, 0, false, 0, 0, 0, 0, v0⟩, [], [], [], []⟩, p0) := by rw [HLF.out]; simp only [thenOk2, HX0.out]
    rw [hlf]
    exact ⟨⟨_, rfl, _, rfl, ⟨rfl, SlR.nil_, SlR.nil_, SlR.nil_, SlR.nil_⟩, rfl⟩, HR1.out.fr hfz (by simp; omega), HF1.out.trans hfz (by simp)⟩)
  exact bodyPost_cell rfl rfl (setRow_heap _ _ _ _ _ _ gZ) undTx rfl infTx rfl HEND.out
end Go.Proofs.YthpjneobmmpbnaaGreatDoor
namespace Go.Proofs.YthpjneobmmpbnaaGreatDoor
open Go.RowKit Go.MapKept Go.Maps
open Go.ChangeMaps (setBlock heap_setBlock_same heap_setBlock_other)
set_option linter.unusedSectionVars false
/-- a kind of keys -/
structure KeyK (α : Type) where
  T : TypeId
  f : α → Value
  inj : ∀ {x y : α}, f x = f y → x = y
  law : Keyed Tryz.prog T
  ok : α → Prop
  key : ∀ a, ok a → ∃ kl, keyOf Tryz.prog T (f a) = some kl
/-- block b of w is a map of these keys and values -/
def MapK {α : Type} (K : KeyK α) (w : World) (b : Nat) (l : List (α × Value)) : Prop := MapV w Tryz.prog K.T b (l.map fun x => (K.f x.1, x.2))
theorem erase_filterK {α : Type} [DecidableEq α] : ∀ (l : List (α × Value)) (j : Nat) (x : α × Value) (i : α), l[j]? = some x → x.1 = i → (l.map (·.1)).Nodup → l.eraseIdx j = l.filter (fun x => decide (x.1 ≠ i))
  | [], _, _, _, h, _, _ => by simp at h
  | y :: r, 0, x, i, h, e, hn => by
    have hyx : y = x := by simpa using h
    rw [List.map_cons, List.nodup_cons] at hn
    have hyi : y.1 = i := by rw [hyx]; exact e
    rw [List.eraseIdx_cons_zero, List.filter_cons_of_neg (by simp [hyi])]
    symm
    rw [List.filter_eq_self]
    intro z hz
    have : z.1 ≠ i := fun e2 => hn.1 (List.mem_map.2 ⟨z, hz, e2.trans hyi.symm⟩)
    simpa using this
  | y :: r, j + 1, x, i, h, e, hn => by
    rw [List.getElem?_cons_succ] at h
    rw [List.map_cons, List.nodup_cons] at hn
    have hy : y.1 ≠ i := fun e2 => hn.1 (List.mem_map.2 ⟨x, List.mem_of_getElem? h, e.trans e2.symm⟩)
    rw [List.eraseIdx_cons_succ, List.filter_cons_of_pos (by simpa using hy), erase_filterK r j x i h e hn.2]
section
variable {α : Type} [DecidableEq α] {K : KeyK α} {w w' : World} {t e : TypeId} {b : Nat} {l : List (α × Value)}
theorem MapK.made (w : World) : MapK K (w.alloc (.map #[] 0)) w.heap.size [] := MapV.made _ _ _
theorem MapK.lt (h : MapK K w b l) : b < w.heap.size := MapV.lt h
theorem MapK.of_heap (h : MapK K w b l) (hh : w'.heap[b]? = w.heap[b]?) : MapK K w' b l := MapV.of_heap h hh
theorem MapK.apart (h : MapK K w b l) : (l.map (·.1)).Nodup := by
  have := MapV.apart h
  rw [List.pairwise_map] at this
  show (l.map (·.1)).Pairwise (· ≠ ·)
  rw [List.pairwise_map]
  exact this.imp fun {a b} hne e => hne (by rw [e])
theorem MapK.lookup (h : MapK K w b l) (ht : Tryz.prog.underlying t = some (.map K.T e)) (c : Bool) {z : Value} (hz : ∀ w : World, (zeroValue e).run Tryz.prog w = .ok z w) {i : α} (hi : K.ok i) :
    (∃ v, (i, v) ∈ l ∧ ∀ w' : World, w'.heap[b]? = w.heap[b]? → (Instr.lookup t (.map (some b)) (K.f i) c).run Tryz.prog w' = .ok (if c then .tuple #[v, .bool true] else v) w') ∨
    ((∀ p ∈ l, p.1 ≠ i) ∧ ∀ w' : World, w'.heap[b]? = w.heap[b]? → (Instr.lookup t (.map (some b)) (K.f i) c).run Tryz.prog w' = .ok (if c then .tuple #[z, .bool false] else z) w') := by
  rcases MapV.lookup h K.law ht c hz (K.key i hi).choose_spec with ⟨v, hm, hr⟩ | ⟨hn, hr⟩
  · obtain ⟨x, hx, ex⟩ := List.mem_map.1 hm
    have e1 : x.1 = i := K.inj (congrArg Prod.fst ex)
    have e2 : x.2 = v := congrArg Prod.snd ex
    exact .inl ⟨v, by rw [← e1, ← e2]; exact hx, hr⟩
  · exact .inr ⟨fun p hp e => hn _ (List.mem_map.2 ⟨p, hp, rfl⟩) (by rw [e]), hr⟩
theorem MapK.update (h : MapK K w b l) (ht : Tryz.prog.underlying t = some (.map K.T e)) {i : α} (hi : K.ok i) (val : Value) :
    ∃ w' l', (Instr.mapUpdate t (.map (some b)) (K.f i) val).run Tryz.prog w = .ok () w' ∧ MapK K w' b l' ∧ w.grownBy w' (some b) ∧ w'.heap.size = w.heap.size ∧
      (((∀ p ∈ l, p.1 ≠ i) ∧ l' = l ++ [(i, val)]) ∨ ∃ j old, l[j]? = some (i, old) ∧ l' = l.set j (i, val)) := by
  obtain ⟨w', l', h1, h2, h3, h4, h5⟩ := MapV.update (val := val) h K.law ht (K.key i hi).choose_spec
  rcases h5 with ⟨hn, rfl⟩ | ⟨j, old, hj, rfl⟩
  · exact ⟨w', l ++ [(i, val)], h1, by show MapV _ _ _ _ _; rw [List.map_append]; exact h2, h3, h4, .inl ⟨fun p hp e => hn _ (List.mem_map.2 ⟨p, hp, rfl⟩) (by rw [e]), rfl⟩⟩
  · rw [List.getElem?_map] at hj
    cases hl : l[j]? with
    | none => rw [hl] at hj; cases hj
    | some x =>
      rw [hl] at hj
      have hj : ((K.f x.1, x.2) : Value × Value) = (K.f i, old) := by simpa using hj
      have e1 : x.1 = i := K.inj (congrArg Prod.fst hj)
      have e2 : x.2 = old := congrArg Prod.snd hj
      refine ⟨w', l.set j (i, val), h1, by show MapV _ _ _ _ _; rw [List.map_set]; exact h2, h3, h4, .inr ⟨j, old, by rw [hl, ← e1, ← e2], rfl⟩⟩
theorem MapK.delete {ty : TypeId} (h : MapK K w b l) (ht : Tryz.prog.underlying t = some (.map K.T e)) {i : α} (hi : K.ok i) :
    ∃ w' l', (Builtin.delete_ #[t, K.T] ty #[.map (some b), K.f i]).run Tryz.prog w = .ok (.tuple #[]) w' ∧ MapK K w' b l' ∧ w.grownBy w' (some b) ∧ w'.heap.size = w.heap.size ∧ l' = l.filter (fun x => decide (x.1 ≠ i)) := by
  have hap := h.apart
  obtain ⟨w', l', h1, h2, h3, h4, h5⟩ := MapV.delete (ty := ty) h K.law ht (K.key i hi).choose_spec
  rcases h5 with ⟨hn, rfl⟩ | ⟨j, old, hj, rfl⟩
  · refine ⟨w', l, h1, h2, h3, h4, ?_⟩
    symm
    rw [List.filter_eq_self]
    intro x hx
    have : x.1 ≠ i := fun e => hn _ (List.mem_map.2 ⟨x, hx, rfl⟩) (by rw [e])
    simpa using this
  · rw [List.getElem?_map] at hj
    cases hl : l[j]? with
    | none => rw [hl] at hj; cases hj
    | some x =>
      rw [hl] at hj
      have hj : ((K.f x.1, x.2) : Value × Value) = (K.f i, old) := by simpa using hj
      have e1 : x.1 = i := K.inj (congrArg Prod.fst hj)
      have hE : l.eraseIdx j = l.filter (fun x => decide (x.1 ≠ i)) := erase_filterK l j x i hl e1 hap
      refine ⟨w', l.eraseIdx j, h1, ?_, h3, h4, hE⟩
      show MapV _ _ _ _ _
      rw [ChangeMaps.map_eraseIdx]
      exact h2
end
theorem MapK.fr {α : Type} {K : KeyK α} {own : List Nat} {w w' : World} {b : Nat} {l : List (α × Value)} (h : MapK K w b l) (hf : Fr own w w') (hn : b ∉ own) : MapK K w' b l := MapV.of_heap h (hf.block b (MapV.lt h) hn)
theorem pw_injK {α β : Type} (f : α → β) : ∀ {l : List α}, l.Pairwise (fun x y => f x ≠ f y) → ∀ {x y : α}, x ∈ l → y ∈ l → f x = f y → x = y
  | a :: l, h, x, y, hx, hy, e => by
    rw [List.pairwise_cons] at h
    rcases List.mem_cons.1 hx with h1 | h1 <;> rcases List.mem_cons.1 hy with h2 | h2
    · rw [h1, h2]
    · subst h1; exact absurd e (h.1 y h2)
    · subst h2; exact absurd e.symm (h.1 x h1)
    · exact pw_injK f h.2 h1 h2 e
section
variable {α : Type} [DecidableEq α] {K : KeyK α}
/-- block r ranges over block b, a map of these; 'left' says who is still to come -/
def RgK {α : Type} (K : KeyK α) (w : World) (b r : Nat) (l : List (α × Value)) (left : α → Bool) : Prop :=
  r ≠ b ∧ ∃ es clock since seen c0, w.heap[b]? = some (.map es clock) ∧ Stamped es clock ∧ es.toList.map (fun e => (e.key, e.val)) = l.map (fun x => ((K.f x.1, x.2) : Value × Value)) ∧
    w.heap[r]? = some (.mapIter (some b) since seen c0) ∧ (∀ x ∈ es.toList, x.born < since) ∧ since ≤ c0 ∧ since ≤ clock ∧ ∀ x ∈ es.toList, ∀ i, x.key = K.f i → left i = !seen.contains x.born
theorem RgK.keep {w w' : World} {b r : Nat} {l : List (α × Value)} {left : α → Bool} (h : RgK K w b r l left) (h1 : w'.heap[b]? = w.heap[b]?) (h2 : w'.heap[r]? = w.heap[r]?) : RgK K w' b r l left := by
  obtain ⟨hne, es, clock, since, seen, c0, a1, a2, a3, a4, a5⟩ := h
  exact ⟨hne, es, clock, since, seen, c0, h1.trans a1, a2, a3, h2.trans a4, a5⟩
theorem MapK.range {w : World} {b : Nat} {l : List (α × Value)} (h : MapK K w b l) {t e : TypeId} (ht : Tryz.prog.underlying t = some (.map K.T e)) :
    ∃ w', (Instr.range t (.map (some b))).run Tryz.prog w = .ok (.pointer (some ⟨w.heap.size, 0, none⟩)) w' ∧ RgK K w' b w.heap.size l (fun _ => true) ∧ Below w.heap.size w w' ∧ w'.heap.size = w.heap.size + 1 := by
  obtain ⟨es, clock, hb, hs, hl, _⟩ := h
  have hlt := (Array.getElem?_eq_some_iff.1 hb).1
  refine ⟨_, run_range_map w t K.T e b es clock ht hb, ⟨by omega, es, clock, clock, #[], clock, (Below.heap_alloc _ _ b hlt).trans hb, hs, hl, heap_alloc_new _ _, ((stamped_iff es clock).1 hs).1, Nat.le_refl _, Nat.le_refl _, fun x _ i _ => by simp⟩, (Below.refl _ w).alloc (Nat.le_refl _) _, by simp⟩
theorem RgK.next {w : World} {b r : Nat} {l : List (α × Value)} {left : α → Bool} (h : RgK K w b r l left) :
    ((∀ p ∈ l, left p.1 = false) ∧ ∀ ty, (Instr.next (.pointer (some ⟨r, 0, none⟩)) false ty).run Tryz.prog w = .ok (.tuple #[.bool false]) w) ∨
    ∃ i v, (i, v) ∈ l ∧ left i = true ∧ ∃ w', (∀ ty, (Instr.next (.pointer (some ⟨r, 0, none⟩)) false ty).run Tryz.prog w = .ok (.tuple #[.bool true, K.f i, v]) w') ∧ RgK K w' b r l (fun j => left j && decide (j ≠ i)) ∧ w.grownBy w' (some r) ∧ w'.heap.size = w.heap.size ∧ w'.rangeLeft b r < w.rangeLeft b r ∧
      (Instr.entry (.pointer (some ⟨r, 0, none⟩))).run Tryz.prog w' = .ok (.tuple #[K.f i, v]) w' := by
  obtain ⟨hne, es, clock, since, seen, c0, hb, hs, hl, hr, hold, hsc, hsk, hleft⟩ := h
  obtain ⟨_, hbn, hkn⟩ := (stamped_iff es clock).1 hs
  have hbn' : es.toList.Pairwise (fun x y => x.born ≠ y.born) := by
    have := hbn; unfold List.Nodup at this; rwa [List.pairwise_map] at this
  have key : ∀ x ∈ es.toList, ∃ i v, x.key = K.f i ∧ x.val = v ∧ (i, v) ∈ l := fun x hx => by
    have hm : (x.key, x.val) ∈ l.map (fun x => ((K.f x.1, x.2) : Value × Value)) := by rw [← hl]; exact List.mem_map.2 ⟨x, hx, rfl⟩
    obtain ⟨p, hp, e⟩ := List.mem_map.1 hm
    injection e with e1 e2
    exact ⟨p.1, p.2, e1.symm, e2.symm, hp⟩
  have back : ∀ p ∈ l, ∃ x ∈ es.toList, x.key = K.f p.1 := fun p hp => by
    have hm : ((K.f p.1, p.2) : Value × Value) ∈ es.toList.map (fun e => (e.key, e.val)) := by rw [hl]; exact List.mem_map.2 ⟨p, hp, rfl⟩
    obtain ⟨x, hx, e⟩ := List.mem_map.1 hm
    injection e with e1 e2
    exact ⟨x, hx, e1⟩
  by_cases hz : (leftOf es seen).size = 0
  · left
    refine ⟨fun p hp => ?_, fun ty => ?_⟩
    · obtain ⟨x, hx, e1⟩ := back p hp
      rw [hleft x hx p.1 e1, all_seen es seen hz x hx, Bool.not_true]
    · rcases run_next_at (P := Tryz.prog) w ty r b since c0 seen es clock hr hb hold hsc with ⟨_, hrun⟩ | ⟨e, he, _⟩
      · exact hrun
      · have : (leftOf es seen).toList = [] := by rw [Array.eq_empty_of_size_eq_zero hz]
        rw [this] at he; cases he
  · right
    rcases run_next_at (P := Tryz.prog) w 0 r b since c0 seen es clock hr hb hold hsc with ⟨h0, _⟩ | ⟨e, he, w1, hal, hrun⟩
    · exact absurd h0 hz
    · obtain ⟨hem, hes⟩ := mem_left he
      obtain ⟨i, v, ek, ev, hm⟩ := key e hem
      have hr1 : w1.heap[r]? = some (.mapIter (some b) since seen c0) := by rcases hal with rfl | rfl <;> exact hr
      have hb1 : w1.heap[b]? = some (.map es clock) := by rcases hal with rfl | rfl <;> exact hb
      have hset := heap_set (o' := .mapIter (some b) since (seen.push e.born) clock) hr1
      have hb' : (setBlock w1 r (.mapIter (some b) since (seen.push e.born) clock)).heap[b]? = some (.map es clock) := (hset.2 b (fun e1 => hne e1.symm)).trans hb1
      rw [ek, ev] at hrun
      refine ⟨i, v, hm, by rw [hleft e hem i ek, hes]; rfl, _, fun ty => ?_, ⟨hne, es, clock, since, seen.push e.born, clock, hb', hs, hl, hset.1, hold, hsk, hsk, fun x hx j hj => ?_⟩, ?_, ?_, ?_, ?_⟩
      · exact hrun
      · show (left j && decide (j ≠ i)) = _
        rw [hleft x hx j hj, contains_push]
        by_cases hji : j = i
        · have hxe : x = e := pw_injK (fun z : MapEntry => z.key) hkn hx hem (by rw [hj, ek, hji])
          subst hxe
          simp [hji]
        · have hb2 : (x.born == e.born) = false := beq_eq_false_iff_ne.2 fun hbb => hji (by
            have hxe : x = e := pw_injK (fun z : MapEntry => z.born) hbn' hx hem hbb
            subst hxe
            rw [ek] at hj
            exact (K.inj hj).symm)
          rw [hb2, decide_eq_true hji]
          simp
      · rcases hal with rfl | rfl <;> exact ⟨rfl, rfl, rfl, by simp [setBlock], fun i _ hi => hset.2 i (fun e1 => hi (by rw [e1]))⟩
      · rcases hal with rfl | rfl <;> simp [setBlock]
      · unfold World.rangeLeft
        have hset1 : (setBlock w1 r (.mapIter (some b) since (seen.push e.born) clock)).heap[r]? = some (.mapIter (some b) since (seen.push e.born) clock) := hset.1
        rw [hb', hset1, hb, hr]
        exact left_shrinks es seen e he
      · have := run_entry_at (P := Tryz.prog) _ r b since seen es clock e hset.1 hb' hem hbn
        rwa [ek, ev] at this
end
end Go.Proofs.YthpjneobmmpbnaaGreatDoor
