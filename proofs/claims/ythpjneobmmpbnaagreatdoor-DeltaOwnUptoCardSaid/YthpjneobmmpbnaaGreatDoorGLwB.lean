/- The walk of DeltaBack. Condition: a delta's lists have at most 2^20, the bytes are at most 2^40. -/
import Derived.Test.YthpjneobmmpbnaaGreatDoorGLwS
import Derived.Test.YthpjneobmmpbnaaGreatDoorGDbK
namespace Go.Proofs.YthpjneobmmpbnaaGreatDoor
open Go.RowKit Go.MapKept Go.Maps
theorem ids_small {z : Int} {v : TxF} {k : Nat} (h : ownE z v k = 0) (ht : v.n.ty = -10) : v.ids.length ≤ 16 := by
  have := (lf_of h).1.s ht
  exact this.1.2.2.2.1
theorem enc_small {d : DlT} (h : rightE d = 0) (hs : DlSm 1048576 d) : (encB d).length ≤ 1099511627775 := by
  have hp := right_put h hs
  have hb := right_body h hs
  have hl : (bodyB d.t).length ≤ 1099511620000 := by
    unfold bodyB
    split
    · have h1 := flatLen partBs 40000004 d.t.subs fun x hx => by
        obtain ⟨j, hj, rfl⟩ := List.getElem_of_mem hx
        have := hp.s j hj; rw [getElem!_pos d.t.subs j hj] at this
        exact partBs_len this.1 this.2
      have h2 := Nat.mul_le_mul_right 40000004 hp.n
      rw [List.length_append, beB_len]; omega
    · have h1 := pathB_len hp.z rfl
      have h2 := bufB_le hp.z
      have h3 := aclsB_len hp.z
      have h5 := txtsB_len hp.z
      unfold leafB
      split
      · simp only [List.length_append, beB_len]; omega
      split
      · omega
      split
      · simp only [List.length_append, beB_len]; omega
      split
      · simp only [List.length_append, beB_len]; omega
      split
      · simp only [List.length_append, beB_len]; omega
      split
      · simp only [List.length_append, beB_len]; omega
      split
      · rename_i ht
        have h4 := ids_small hb.o ht
        have h6 := flatLen idB 2097160 d.t.v.ids fun x hx => by rw [idB_len]; have := hp.z.idss x hx; omega
        have := Nat.mul_le_mul_right 2097160 h4
        simp only [List.length_append, beB_len, idsB]; omega
      split
      · omega
      split
      · simp only [beB_len]; omega
      · simp
  unfold encB
  rw [List.length_append, headB_len]; omega
theorem noDl_sm : DlSm 1048576 noDl := by
  refine ⟨⟨z64, z32, z64, z64⟩, .mk _ _ ?_ (fun j hj => absurd hj (by simp))⟩
  exact smV (by unfold in32; omega) (Nat.zero_le _) z64 z32 z32 z64 z64 z64 z32 z32 (Nat.zero_le _) okA.nil okI.nil okS.nil
theorem decD_no {l : Bs} (h : (decD l).2.2 ≠ 0) : (decD l).1 = noDl ∧ (decD l).2.1 ≤ l.length := by
  have hk := readP_in l
  unfold decD at h ⊢
  rcases hr : readP l with ⟨p, k⟩ | ⟨d, p⟩
  · rw [hr] at hk
    exact ⟨rfl, hk.1⟩
  · rw [hr] at h hk
    dsimp only at h ⊢
    by_cases h1 : p < l.length
    · rw [if_pos h1]; exact ⟨rfl, hk⟩
    · rw [if_neg h1] at h ⊢
      by_cases h2 : rightE d ≠ 0
      · rw [if_pos h2]; exact ⟨rfl, Nat.le_refl _⟩
      · rw [if_neg h2] at h; exact absurd rfl h
theorem wpList_bdDlW {ops : Array Oper} {rest : List Oper} {o : Oper} {a : Act} {w : World} {Q : Exit → Act → World → Prop} (hw : Region.wanted o (yielded ops a.tmps) = true) (ho : o.op = .build 35 #[]) (h : wpList Tryz.prog ops Q rest (a.put o.dst (dlV zDl)) w) : wpList Tryz.prog ops Q (o :: rest) a w := by
  have e : Tryz.prog.built 35 ((#[] : Array (Nat × Operand)).map fun (i, x) => (i, a.eval x)).toList = some #[.int .i64 0, .int .i32 0, .int .i64 0, .int .i64 0, .int .i32 0, .string ⟨#[]⟩, .slice none 0 0, .slice none 0 0, .int .i64 0, .int .i32 0, .int .i32 0, .bool false, .int .i64 0, .int .i64 0, .int .i64 0, .int .i32 0, .slice none 0 0, .slice none 0 0, .int .i32 0, .slice none 0 0] := by
    have : Tryz.prog.built 35 [] = some #[.int .i64 0, .int .i32 0, .int .i64 0, .int .i64 0, .int .i32 0, .string ⟨#[]⟩, .slice none 0 0, .slice none 0 0, .int .i64 0, .int .i32 0, .int .i32 0, .bool false, .int .i64 0, .int .i64 0, .int .i64 0, .int .i32 0, .slice none 0 0, .slice none 0 0, .int .i32 0, .slice none 0 0] := by kernel_rfl
    simpa using this
  refine wpList_step fun K hK => ?_
  rw [if_pos hw]
  refine wp_build 35 #[] ho (by rw [e]; rfl) (hK _ _ ?_)
  rw [e]
  exact h
theorem slice_up8 (A : Option Addr) (n c k : Nat) (hk : k ≤ n) (w : World) (hc : n ≤ c) : (Instr.sliceAt 22 (.slice A n c) none (some (.int .i64 ↑k)) none).run Tryz.prog w = .ok (.slice A k c) w := by
  have h0 : (0 : Int) ≤ ↑k := by omega
  have h1 : ((k : Nat) : Int) ≤ ↑c := by omega
  have h2 : ((k : Nat) : Int) ≤ ↑n := by omega
  go_simp
/-- a cut that is short of the end -/
theorem cut_nat (z : Int) {m : Nat} (h0 : 0 < m) (hm : m ≤ 1099511627775) : ∃ k : Nat, k < m ∧ (wrap64 (z.tmod ↑m + ↑m)).tmod ↑m = (k : Int) := by
  have h1 := Int.tmod_lt_of_pos z (show (0 : Int) < (m : Int) by omega)
  have h2 := Int.lt_tmod_of_pos z (show (0 : Int) < (m : Int) by omega)
  have h3 : wrap64 (z.tmod ↑m + ↑m) = z.tmod ↑m + ↑m := by
    generalize z.tmod ↑m = y at *
    unfold wrap64; omega
  rw [h3, Int.tmod_eq_emod_of_nonneg (by omega)]
  have h4 := Int.emod_nonneg (z.tmod ↑m + ↑m) (show (m : Int) ≠ 0 by omega)
  have h5 := Int.emod_lt_of_pos (z.tmod ↑m + ↑m) (show (0 : Int) < (m : Int) by omega)
  generalize (z.tmod ↑m + ↑m) % ↑m = y at *
  exact ⟨y.toNat, by omega, by omega⟩
set_option linter.unusedSimpArgs false in
set_option maxRecDepth 100000 in
set_option maxHeartbeats 20000000 in
theorem deltaBack_any (h : DlH) (d : DlT) (A : Option Addr) (n c : Nat) (l : Bs) (z : Int) (w : World) (R : Nat → Prop) (hd : DlAt w R h d) (hE : Env w) (hsm : DlSm 1048576 d) (hA : ArgC w A n c l) (hz : in64 z) : Calls Tryz.prog 7 #[dlV h, .slice A n c, .int .i64 z] w (RetB w true) := by
  have hb1 : Below w.heap.size w (w.alloc (.cells #[.int .i64 h.se, .int .i32 h.xi, .int .i64 h.zx, .int .i64 h.ti, .int .i32 h.t.n.ty, .string h.t.n.path, slV h.t.d, slV h.t.a, .int .i64 h.t.n.ow, .int .i32 h.t.n.ve, .int .i32 h.t.n.cr, .bool h.t.n.qh, .int .i64 h.t.n.qc, .int .i64 h.t.n.qb, .int .i64 h.t.n.si, .int .i32 h.t.n.st, slV h.t.i, slV h.t.p, .int .i32 h.t.n.co, slV h.t.s] 35)) := (Below.refl _ w).alloc (Nat.le_refl _) _
  have HB1 := Lib.hid hb1
  have HE := Lib.hid hE
  have g0 := heap_s0 w (.cells #[.int .i64 h.se, .int .i32 h.xi, .int .i64 h.zx, .int .i64 h.ti, .int .i32 h.t.n.ty, .string h.t.n.path, slV h.t.d, slV h.t.a, .int .i64 h.t.n.ow, .int .i32 h.t.n.ve, .int .i32 h.t.n.cr, .bool h.t.n.qh, .int .i64 h.t.n.qc, .int .i64 h.t.n.qb, .int .i64 h.t.n.si, .int .i32 h.t.n.st, slV h.t.i, slV h.t.p, .int .i32 h.t.n.co, slV h.t.s] 35)
  have HZ := Lib.hid (sz1 w (.cells #[.int .i64 h.se, .int .i32 h.xi, .int .i64 h.zx, .int .i64 h.ti, .int .i32 h.t.n.ty, .string h.t.n.path, slV h.t.d, slV h.t.a, .int .i64 h.t.n.ow, .int .i32 h.t.n.ve, .int .i32 h.t.n.cr, .bool h.t.n.qh, .int .i64 h.t.n.qc, .int .i64 h.t.n.qb, .int .i64 h.t.n.si, .int .i32 h.t.n.st, slV h.t.i, slV h.t.p, .int .i32 h.t.n.co, slV h.t.s] 35))
  have HSM := Lib.hid hsm; have HZZ := Lib.hid hz
  have HDW := Lib.hid (fun (V : World) (hV : Below w.heap.size w V) => (show DlAt V (fun _ => True) h d from ⟨hd.1, TxAt.tru hd.2 hV⟩))
  have HAW := Lib.hid (fun (V : World) (hV : Below w.heap.size w V) => (show ArgC V A n c l from hA.below hV))
  have HAL := Lib.hid (alive13_any (w.alloc (.cells #[.int .i64 h.se, .int .i32 h.xi, .int .i64 h.zx, .int .i64 h.ti, .int .i32 h.t.n.ty, .string h.t.n.path, slV h.t.d, slV h.t.a, .int .i64 h.t.n.ow, .int .i32 h.t.n.ve, .int .i32 h.t.n.cr, .bool h.t.n.qh, .int .i64 h.t.n.qc, .int .i64 h.t.n.qb, .int .i64 h.t.n.si, .int .i32 h.t.n.st, slV h.t.i, slV h.t.p, .int .i32 h.t.n.co, slV h.t.s] 35)) (hE.below (Nat.le_refl _) hb1))
  clear hb1 hd hE hsm hA hz
  go_enter Tryz.func7, Tryz.ntmps7
  go_upto_region 1 with fail
  change Code.wp _ _ _ _ (w.alloc (.cells #[.int .i64 h.se, .int .i32 h.xi, .int .i64 h.zx, .int .i64 h.ti, .int .i32 h.t.n.ty, .string h.t.n.path, slV h.t.d, slV h.t.a, .int .i64 h.t.n.ow, .int .i32 h.t.n.ve, .int .i32 h.t.n.cr, .bool h.t.n.qh, .int .i64 h.t.n.qc, .int .i64 h.t.n.qb, .int .i64 h.t.n.si, .int .i32 h.t.n.st, slV h.t.i, slV h.t.p, .int .i32 h.t.n.co, slV h.t.s] 35))
  generalize w.alloc (.cells #[.int .i64 h.se, .int .i32 h.xi, .int .i64 h.zx, .int .i64 h.ti, .int .i32 h.t.n.ty, .string h.t.n.path, slV h.t.d, slV h.t.a, .int .i64 h.t.n.ow, .int .i32 h.t.n.ve, .int .i32 h.t.n.cr, .bool h.t.n.qh, .int .i64 h.t.n.qc, .int .i64 h.t.n.qb, .int .i64 h.t.n.si, .int .i32 h.t.n.st, slV h.t.i, slV h.t.p, .int .i32 h.t.n.co, slV h.t.s] 35) = V at *
  go_wp2_with fail
  refine HAL.out.mono ?_
  rintro e w0 ⟨rfl, hb0⟩
  have HB0 := Lib.hid (HB1.out.trans (hb0.mono HB1.out.size))
  replace g0 := (hb0.block w.heap.size (by have := HZ.out; omega)).trans g0
  have HLT := Lib.hid (Array.getElem?_eq_some_iff.1 g0).1
  clear hb0 HB1 HAL
  have HG1 := Lib.hid (bigDl_any d h w0 _ (HDW.out _ HB0.out) HSM.out)
  go_wp2_with (first | (apply wpList_loadRow 35 35; exact rfl; exact rfl; exact rfl; assumption; exact undDl; exact rfl; exact infDl) | fail)
  refine HG1.out.mono ?_
  rintro e w1 ⟨⟨b, rfl⟩, hb⟩
  have HB1 := Lib.hid (HB0.out.trans (hb.mono HB0.out.size))
  have g1 := (hb.block _ (Array.getElem?_eq_some_iff.1 g0).1).trans g0
  clear hb g0 HB0
  clear HG1
  cases b
  case true =>
    go_wp2_with fail
    go_ret
    exact RetB.mk HB1.out rfl
  have HE1 := Lib.hid (encode_any h d w1 _ (HDW.out _ HB1.out) (HE.out.below (Nat.le_refl _) HB1.out) HSM.out)
  go_wp2_with (first | (apply wpList_loadRow 35 35; exact rfl; exact rfl; exact rfl; assumption; exact undDl; exact rfl; exact infDl) | fail)
  refine HE1.out.mono ?_
  rintro e w2 ⟨hb, hm⟩
  have HB2 := Lib.hid (HB1.out.trans (hb.mono HB1.out.size))
  have g2 := (hb.block _ (Array.getElem?_eq_some_iff.1 g1).1).trans g1
  clear hb g1 HB1
  clear HE1
  have HRG := Lib.hid (right13_any h d w2 _ (HDW.out _ HB2.out) (HE.out.below (Nat.le_refl _) HB2.out) HSM.out)
  rcases hm with ⟨hr, rfl⟩ | ⟨hr, A1, c1, rfl, hrow⟩
  · obtain ⟨x, hx⟩ : ∃ x, rightE d = x := ⟨_, rfl⟩
    rw [hx] at hr
    rw [hx]
    have HXX := Lib.hid hx
    clear hx
    have b1 : (x != 0) = true := bne_iff_ne.2 hr
    have b2 : (x == 0) = false := beq_eq_false_iff_ne.2 hr
    have b3 : (x != x) = false := by simp
    clear hr
    go_wp2_with (first | (apply wpList_loadRow 35 35; exact rfl; exact rfl; exact rfl; assumption; exact undDl; exact rfl; exact infDl) | fail)
    refine HRG.out.mono ?_
    rintro e w3 ⟨rfl, hb⟩
    have HB3 := Lib.hid (HB2.out.trans (hb.mono HB2.out.size))
    have g3 := (hb.block _ (Array.getElem?_eq_some_iff.1 g2).1).trans g2
    clear hb g2 HB2
    clear HRG
    rw [HXX.out]
    have HDC := Lib.hid (decode_any (HAW.out _ HB3.out) (HE.out.below (Nat.le_refl _) HB3.out))
    have HNL := Lib.hid (show l.length = n from (HAW.out _ HB3.out).1.len)
    have HAV := Lib.hid (fun (V : World) (hV : Below w3.heap.size w3 V) => (HAW.out V (HB3.out.trans (hV.mono HB3.out.size))).1)
    go_wp2_with fail
    refine HDC.out.mono ?_
    rintro e v1 ⟨hb, hx, rfl, hdx⟩
    have hbv : Below v1.heap.size v1 (v1.alloc (.cells #[.int .i64 hx.se, .int .i32 hx.xi, .int .i64 hx.zx, .int .i64 hx.ti, .int .i32 hx.t.n.ty, .string hx.t.n.path, slV hx.t.d, slV hx.t.a, .int .i64 hx.t.n.ow, .int .i32 hx.t.n.ve, .int .i32 hx.t.n.cr, .bool hx.t.n.qh, .int .i64 hx.t.n.qc, .int .i64 hx.t.n.qb, .int .i64 hx.t.n.si, .int .i32 hx.t.n.st, slV hx.t.i, slV hx.t.p, .int .i32 hx.t.n.co, slV hx.t.s] 35)) := (Below.refl _ v1).alloc (Nat.le_refl _) _
    have HBW := Lib.hid (hb.trans (hbv.mono hb.size))
    have HB1 := Lib.hid (HB3.out.trans (HBW.out.mono HB3.out.size))
    have y1 := heap_s0 v1 (.cells #[.int .i64 hx.se, .int .i32 hx.xi, .int .i64 hx.zx, .int .i64 hx.ti, .int .i32 hx.t.n.ty, .string hx.t.n.path, slV hx.t.d, slV hx.t.a, .int .i64 hx.t.n.ow, .int .i32 hx.t.n.ve, .int .i32 hx.t.n.cr, .bool hx.t.n.qh, .int .i64 hx.t.n.qc, .int .i64 hx.t.n.qb, .int .i64 hx.t.n.si, .int .i32 hx.t.n.st, slV hx.t.i, slV hx.t.p, .int .i32 hx.t.n.co, slV hx.t.s] 35)
    have HY := Lib.hid (show DlAt (v1.alloc (.cells #[.int .i64 hx.se, .int .i32 hx.xi, .int .i64 hx.zx, .int .i64 hx.ti, .int .i32 hx.t.n.ty, .string hx.t.n.path, slV hx.t.d, slV hx.t.a, .int .i64 hx.t.n.ow, .int .i32 hx.t.n.ve, .int .i32 hx.t.n.cr, .bool hx.t.n.qh, .int .i64 hx.t.n.qc, .int .i64 hx.t.n.qb, .int .i64 hx.t.n.si, .int .i32 hx.t.n.st, slV hx.t.i, slV hx.t.p, .int .i32 hx.t.n.co, slV hx.t.s] 35)) (fun _ => True) hx (decD l).1 from ⟨hdx.1, TxAt.tru hdx.2 hbv⟩)
    have HDX := Lib.hid (fun (V : World) (hV : Below (v1.alloc (.cells #[.int .i64 hx.se, .int .i32 hx.xi, .int .i64 hx.zx, .int .i64 hx.ti, .int .i32 hx.t.n.ty, .string hx.t.n.path, slV hx.t.d, slV hx.t.a, .int .i64 hx.t.n.ow, .int .i32 hx.t.n.ve, .int .i32 hx.t.n.cr, .bool hx.t.n.qh, .int .i64 hx.t.n.qc, .int .i64 hx.t.n.qb, .int .i64 hx.t.n.si, .int .i32 hx.t.n.st, slV hx.t.i, slV hx.t.p, .int .i32 hx.t.n.co, slV hx.t.s] 35)).heap.size (v1.alloc (.cells #[.int .i64 hx.se, .int .i32 hx.xi, .int .i64 hx.zx, .int .i64 hx.ti, .int .i32 hx.t.n.ty, .string hx.t.n.path, slV hx.t.d, slV hx.t.a, .int .i64 hx.t.n.ow, .int .i32 hx.t.n.ve, .int .i32 hx.t.n.cr, .bool hx.t.n.qh, .int .i64 hx.t.n.qc, .int .i64 hx.t.n.qb, .int .i64 hx.t.n.si, .int .i32 hx.t.n.st, slV hx.t.i, slV hx.t.p, .int .i32 hx.t.n.co, slV hx.t.s] 35)) V) => (show DlAt V (fun _ => True) hx (decD l).1 from ⟨HY.out.1, TxAt.tru HY.out.2 hV⟩))
    clear hb HDC HB3 g3 hdx hbv HY
    go_upto_region 16 with (first | (apply wpList_storeTop 35 35; exact rfl; exact rfl; exact rfl; (first | (with_reducible rfl) | (exact sz1 _ _) | (exact sz2 _ _ _)); exact rfl; exact infDl; exact rfl; (first | exact oneDl _ | simp [Value.oneCell'])) | fail)
    change Code.wp _ _ _ _ (v1.alloc (.cells #[.int .i64 hx.se, .int .i32 hx.xi, .int .i64 hx.zx, .int .i64 hx.ti, .int .i32 hx.t.n.ty, .string hx.t.n.path, slV hx.t.d, slV hx.t.a, .int .i64 hx.t.n.ow, .int .i32 hx.t.n.ve, .int .i32 hx.t.n.cr, .bool hx.t.n.qh, .int .i64 hx.t.n.qc, .int .i64 hx.t.n.qb, .int .i64 hx.t.n.si, .int .i32 hx.t.n.st, slV hx.t.i, slV hx.t.p, .int .i32 hx.t.n.co, slV hx.t.s] 35))
    generalize v1.alloc (.cells #[.int .i64 hx.se, .int .i32 hx.xi, .int .i64 hx.zx, .int .i64 hx.ti, .int .i32 hx.t.n.ty, .string hx.t.n.path, slV hx.t.d, slV hx.t.a, .int .i64 hx.t.n.ow, .int .i32 hx.t.n.ve, .int .i32 hx.t.n.cr, .bool hx.t.n.qh, .int .i64 hx.t.n.qc, .int .i64 hx.t.n.qb, .int .i64 hx.t.n.si, .int .i32 hx.t.n.st, slV hx.t.i, slV hx.t.p, .int .i32 hx.t.n.co, slV hx.t.s] 35) = U1 at *
    by_cases hq : (decD l).2.2 = 0
    · obtain ⟨x, -, hxd, hxr, hxs, hxe⟩ := decD_ok hq
      rw [hxd] at HDX
      rw [hxd]
      dsimp only at HDX ⊢
      clear hq
      have HXR := Lib.hid hxr; have HXS := Lib.hid hxs; have HXE := Lib.hid hxe
      clear hxd hxr hxs hxe
      have HEX := Lib.hid (encode_any hx x U1 _ (HDX.out _ (Below.refl _ _)) (HE.out.below (Nat.le_refl _) HB1.out) HXS.out)
      go_wp2_with (first | (apply wpList_loadRow 35 35; exact rfl; exact rfl; exact rfl; assumption; exact undDl; exact rfl; exact infDl) | fail)
      refine HEX.out.mono ?_
      rintro e v2 ⟨hb, hm⟩
      rcases hm with ⟨hr, -⟩ | ⟨-, A7, c7, rfl, hrow⟩
      · exact absurd HXR.out hr
      have HRX := Lib.hid (right13_any hx x v2 _ (HDX.out _ hb) (HE.out.below (Nat.le_refl _) (HB1.out.trans (hb.mono HB1.out.size))) HXS.out)
      have HB2 := Lib.hid (HB1.out.trans (hb.mono HB1.out.size))
      have y2 := (hb.block _ (Array.getElem?_eq_some_iff.1 y1).1).trans y1
      have HR7 := Lib.hid (Row8.sl hrow rfl)
      have CV1 := conv_slT (c := c7) HR7.out
      have CV2 := conv_slT (c := c) (HAV.out v2 (HBW.out.trans (hb.mono HBW.out.size)))
      rw [← HXE.out] at CV1 ⊢
      rw [HNL.out] at CV1 ⊢
      have hse : ((toBA l).toList == (toBA l).toList) = true := str_eq rfl
      clear hb hrow HEX HB1 y1 HR7 HDX
      go_wp2_with (first | (apply wpList_loadRowW 35 35; exact rfl; exact rfl; exact rfl; assumption; exact undDl; exact rfl; exact infDl) | fail)
      refine HRX.out.mono ?_
      rintro e v3 ⟨rfl, hb⟩
      rw [HXR.out]
      have HB3 := Lib.hid (HB2.out.trans (hb.mono HB2.out.size))
      clear hb CV1 CV2 HRX y2
      go_wp2_with fail
      go_ret
      exact RetB.mk HB3.out rfl
    · obtain ⟨hx1, hx2⟩ := decD_no hq
      rw [hx1] at HDX
      rw [HNL.out] at hx2
      generalize (decD l).2.2 = e1 at hq ⊢
      generalize (decD l).2.1 = p1 at hx2 ⊢
      have b8 : (e1 != 0) = true := bne_iff_ne.2 hq
      have HSX := Lib.hid (sameDlG noDl noDl hx zDl U1 _ (fun _ => True) (HDX.out _ (Below.refl _ _)) (noDl_at _ _) noDl_sm noDl_sm)
      have q1 : (0 : Int) ≤ (p1 : Int) := by omega
      have q2 : (p1 : Int) ≤ (n : Int) := by omega
      clear hx1 hq HDX
      go_wp2_with (first | (apply wpList_loadRowW 35 35; exact rfl; exact rfl; exact rfl; assumption; exact undDl; exact rfl; exact infDl) | (refine wpList_bdDlW (by rfl) rfl ?_) | fail)
      refine HSX.out.mono ?_
      rintro e v2 ⟨rfl, hb⟩
      rw [sameD_eq rfl]
      have HB2 := Lib.hid (HB1.out.trans (hb.mono HB1.out.size))
      clear hb HSX HB1
      go_wp2_with fail
      go_ret
      exact RetB.mk HB2.out rfl
  have HR0 := Lib.hid hr
  have HDF := Lib.hid (dec_fwd hr HSM.out)
  have HDM := Lib.hid (dec_more hr HSM.out 0)
  have HDU := Lib.hid (fun (k : Nat) (hk : k < (encB d).length) => dec_cut hr HSM.out hk)
  have HPS := Lib.hid (show 0 < (encB d).length by unfold encB; rw [List.length_append, headB_len]; omega)
  have HLE := Lib.hid (enc_small hr HSM.out)
  clear hr
  go_wp2_with (first | (apply wpList_loadRow 35 35; exact rfl; exact rfl; exact rfl; assumption; exact undDl; exact rfl; exact infDl) | fail)
  refine HRG.out.mono ?_
  rintro e w3 ⟨rfl, hb⟩
  replace hrow : Row8 w3 _ _ _ _ _ := own_later hrow hb
  have HB3 := Lib.hid (HB2.out.trans (hb.mono HB2.out.size))
  have g3 := (hb.block _ (Array.getElem?_eq_some_iff.1 g2).1).trans g2
  clear hb g2 HB2
  clear HRG
  rw [HR0.out]
  generalize encB d = L at *
  obtain ⟨m, hm⟩ : ∃ m, L.length = m := ⟨_, rfl⟩
  rw [hm] at hrow HDM HDU HPS HLE
  rw [hm]
  have HM := Lib.hid hm
  have HAR := Lib.hid (fun (V : World) (hV : Below w3.heap.size w3 V) => (hrow.argC hm (Nat.le_succ_of_le HLE.out)).below hV)
  clear hrow hm
  have HD1 := Lib.hid (decode_any (HAR.out _ (Below.refl _ _)) (HE.out.below (Nat.le_refl _) HB3.out))
  go_wp2_with fail
  refine HD1.out.mono ?_
  rintro e w4 ⟨hb, h3, rfl, hd3⟩
  rw [HDF.out] at hd3
  rw [HDF.out]
  dsimp only at hd3 ⊢
  have hbb : Below w4.heap.size w4 (w4.alloc (.cells #[.int .i64 h3.se, .int .i32 h3.xi, .int .i64 h3.zx, .int .i64 h3.ti, .int .i32 h3.t.n.ty, .string h3.t.n.path, slV h3.t.d, slV h3.t.a, .int .i64 h3.t.n.ow, .int .i32 h3.t.n.ve, .int .i32 h3.t.n.cr, .bool h3.t.n.qh, .int .i64 h3.t.n.qc, .int .i64 h3.t.n.qb, .int .i64 h3.t.n.si, .int .i32 h3.t.n.st, slV h3.t.i, slV h3.t.p, .int .i32 h3.t.n.co, slV h3.t.s] 35)) := (Below.refl _ w4).alloc (Nat.le_refl _) _
  have HC4 := Lib.hid (hb.trans (hbb.mono hb.size))
  have g4 := (HC4.out.block _ (Array.getElem?_eq_some_iff.1 g3).1).trans g3
  have y4 := heap_s0 w4 (.cells #[.int .i64 h3.se, .int .i32 h3.xi, .int .i64 h3.zx, .int .i64 h3.ti, .int .i32 h3.t.n.ty, .string h3.t.n.path, slV h3.t.d, slV h3.t.a, .int .i64 h3.t.n.ow, .int .i32 h3.t.n.ve, .int .i32 h3.t.n.cr, .bool h3.t.n.qh, .int .i64 h3.t.n.qc, .int .i64 h3.t.n.qb, .int .i64 h3.t.n.si, .int .i32 h3.t.n.st, slV h3.t.i, slV h3.t.p, .int .i32 h3.t.n.co, slV h3.t.s] 35)
  have HY := Lib.hid (show DlAt (w4.alloc (.cells #[.int .i64 h3.se, .int .i32 h3.xi, .int .i64 h3.zx, .int .i64 h3.ti, .int .i32 h3.t.n.ty, .string h3.t.n.path, slV h3.t.d, slV h3.t.a, .int .i64 h3.t.n.ow, .int .i32 h3.t.n.ve, .int .i32 h3.t.n.cr, .bool h3.t.n.qh, .int .i64 h3.t.n.qc, .int .i64 h3.t.n.qb, .int .i64 h3.t.n.si, .int .i32 h3.t.n.st, slV h3.t.i, slV h3.t.p, .int .i32 h3.t.n.co, slV h3.t.s] 35)) (fun _ => True) h3 d from ⟨hd3.1, TxAt.tru hd3.2 hbb⟩)
  have HDY := Lib.hid (fun (V : World) (hV : Below (w4.alloc (.cells #[.int .i64 h3.se, .int .i32 h3.xi, .int .i64 h3.zx, .int .i64 h3.ti, .int .i32 h3.t.n.ty, .string h3.t.n.path, slV h3.t.d, slV h3.t.a, .int .i64 h3.t.n.ow, .int .i32 h3.t.n.ve, .int .i32 h3.t.n.cr, .bool h3.t.n.qh, .int .i64 h3.t.n.qc, .int .i64 h3.t.n.qb, .int .i64 h3.t.n.si, .int .i32 h3.t.n.st, slV h3.t.i, slV h3.t.p, .int .i32 h3.t.n.co, slV h3.t.s] 35)).heap.size (w4.alloc (.cells #[.int .i64 h3.se, .int .i32 h3.xi, .int .i64 h3.zx, .int .i64 h3.ti, .int .i32 h3.t.n.ty, .string h3.t.n.path, slV h3.t.d, slV h3.t.a, .int .i64 h3.t.n.ow, .int .i32 h3.t.n.ve, .int .i32 h3.t.n.cr, .bool h3.t.n.qh, .int .i64 h3.t.n.qc, .int .i64 h3.t.n.qb, .int .i64 h3.t.n.si, .int .i32 h3.t.n.st, slV h3.t.i, slV h3.t.p, .int .i32 h3.t.n.co, slV h3.t.s] 35)) V) => (show DlAt V (fun _ => True) h3 d from ⟨HY.out.1, TxAt.tru HY.out.2 hV⟩))
  clear hb hbb hd3 HY HD1 g3 HDF
  go_upto_region 10 with (first | (apply wpList_storeTop 35 35; exact rfl; exact rfl; exact rfl; (first | (with_reducible rfl) | (exact sz1 _ _) | (exact sz2 _ _ _)); exact rfl; exact infDl; exact rfl; (first | exact oneDl _ | simp [Value.oneCell'])) | fail)
  change Code.wp _ _ _ _ (w4.alloc (.cells #[.int .i64 h3.se, .int .i32 h3.xi, .int .i64 h3.zx, .int .i64 h3.ti, .int .i32 h3.t.n.ty, .string h3.t.n.path, slV h3.t.d, slV h3.t.a, .int .i64 h3.t.n.ow, .int .i32 h3.t.n.ve, .int .i32 h3.t.n.cr, .bool h3.t.n.qh, .int .i64 h3.t.n.qc, .int .i64 h3.t.n.qb, .int .i64 h3.t.n.si, .int .i32 h3.t.n.st, slV h3.t.i, slV h3.t.p, .int .i32 h3.t.n.co, slV h3.t.s] 35))
  generalize w4.alloc (.cells #[.int .i64 h3.se, .int .i32 h3.xi, .int .i64 h3.zx, .int .i64 h3.ti, .int .i32 h3.t.n.ty, .string h3.t.n.path, slV h3.t.d, slV h3.t.a, .int .i64 h3.t.n.ow, .int .i32 h3.t.n.ve, .int .i32 h3.t.n.cr, .bool h3.t.n.qh, .int .i64 h3.t.n.qc, .int .i64 h3.t.n.qb, .int .i64 h3.t.n.si, .int .i32 h3.t.n.st, slV h3.t.i, slV h3.t.p, .int .i32 h3.t.n.co, slV h3.t.s] 35) = W4 at *
  have hm0 : ((m : Int) == 0) = false := beq_eq_false_iff_ne.2 (by have := HPS.out; omega)
  have hm1 : ¬ ((m : Int) = 0) := by have := HPS.out; omega
  go_upto_region 11 with fail
  clear hm0 hm1
  obtain ⟨k, hk, hke⟩ := cut_nat z HPS.out HLE.out
  rw [hke]
  have hsl := fun w => slice_up8 A1 m c1 k (Nat.le_of_lt hk) w (HAR.out _ (Below.refl _ _)).2.2.2
  have HD2 := Lib.hid (decode_any (w := W4) (A := A1) (n := k) (c := c1) (l := L.take k) ⟨(HAR.out _ HC4.out).1.upTo (Nat.le_of_lt hk), fun e => absurd ((HAR.out _ HC4.out).2.1 e).1 (by have := HPS.out; omega), by have := HLE.out; omega, by have := (HAR.out _ HC4.out).2.2.2; omega⟩ (HE.out.below (Nat.le_refl _) (HB3.out.trans (HC4.out.mono HB3.out.size))))
  have HQ5 := Lib.hid (HDU.out k hk)
  clear hke
  go_wp2_with fail
  refine HD2.out.mono ?_
  rintro e w5 ⟨hb, h5, rfl, -⟩
  clear HD2 hsl
  have hq5 := HQ5.out
  generalize (decD (L.take k)).2.2 = e5 at hq5 ⊢
  generalize (decD (L.take k)).2.1 = p5
  clear HQ5 hk
  have hbb : Below w5.heap.size w5 (w5.alloc (.cells #[.int .i64 h5.se, .int .i32 h5.xi, .int .i64 h5.zx, .int .i64 h5.ti, .int .i32 h5.t.n.ty, .string h5.t.n.path, slV h5.t.d, slV h5.t.a, .int .i64 h5.t.n.ow, .int .i32 h5.t.n.ve, .int .i32 h5.t.n.cr, .bool h5.t.n.qh, .int .i64 h5.t.n.qc, .int .i64 h5.t.n.qb, .int .i64 h5.t.n.si, .int .i32 h5.t.n.st, slV h5.t.i, slV h5.t.p, .int .i32 h5.t.n.co, slV h5.t.s] 35)) := (Below.refl _ w5).alloc (Nat.le_refl _) _
  have hb2 := hb.trans (hbb.mono hb.size)
  have HC5 := Lib.hid (HC4.out.trans (hb2.mono HC4.out.size))
  have g5 := (hb2.block _ (Array.getElem?_eq_some_iff.1 g4).1).trans g4
  have y5 := (hb2.block _ (Array.getElem?_eq_some_iff.1 y4).1).trans y4
  have HS5 := Lib.hid hb2
  clear hb hbb hb2 g4 y4
  go_upto_region 12 with (first | (apply wpList_storeTop 35 35; exact rfl; exact rfl; exact rfl; (first | (with_reducible rfl) | (exact sz1 _ _) | (exact sz2 _ _ _)); exact rfl; exact infDl; exact rfl; (first | exact oneDl _ | simp [Value.oneCell'])) | fail)
  change Code.wp _ _ _ _ (w5.alloc (.cells #[.int .i64 h5.se, .int .i32 h5.xi, .int .i64 h5.zx, .int .i64 h5.ti, .int .i32 h5.t.n.ty, .string h5.t.n.path, slV h5.t.d, slV h5.t.a, .int .i64 h5.t.n.ow, .int .i32 h5.t.n.ve, .int .i32 h5.t.n.cr, .bool h5.t.n.qh, .int .i64 h5.t.n.qc, .int .i64 h5.t.n.qb, .int .i64 h5.t.n.si, .int .i32 h5.t.n.st, slV h5.t.i, slV h5.t.p, .int .i32 h5.t.n.co, slV h5.t.s] 35))
  generalize w5.alloc (.cells #[.int .i64 h5.se, .int .i32 h5.xi, .int .i64 h5.zx, .int .i64 h5.ti, .int .i32 h5.t.n.ty, .string h5.t.n.path, slV h5.t.d, slV h5.t.a, .int .i64 h5.t.n.ow, .int .i32 h5.t.n.ve, .int .i32 h5.t.n.cr, .bool h5.t.n.qh, .int .i64 h5.t.n.qc, .int .i64 h5.t.n.qb, .int .i64 h5.t.n.si, .int .i32 h5.t.n.st, slV h5.t.i, slV h5.t.p, .int .i32 h5.t.n.co, slV h5.t.s] 35) = W5 at *
  have hba : Below W5.heap.size W5 (W5.alloc (.cells #[] 5)) := (Below.refl _ W5).alloc (Nat.le_refl _) _
  have HO0 := Lib.hid (own_empty (T := 5) (k := 1) W5)
  have HSA := Lib.hid (show Sl (W5.alloc (.cells #[] 5)) (W5.alloc (.cells #[] 5)).heap.size enc8 1 A1 m L from (HAR.out _ (HC5.out.trans (hba.mono HC5.out.size))).1)
  have HN0 := Lib.hid (HAR.out _ HC5.out).2.1
  have HBA := Lib.hid hba
  clear hba
  go_wp2_with (at_builtin; refine wpList_app8 rfl _ _ rfl W5.heap.size (some ⟨W5.heap.size, 0, none⟩) 0 0 [] ?hx1 HO0.out A1 m c1 L ?hy1 HSA.out HN0.out (by have := HLE.out; omega) HBA.out.size ?hk1)
  (try case hx1 => rfl)
  (try case hy1 => rfl)
  case hk1 =>
  intro A6 c6 w6 hv6 hg6
  (try rw [Nat.zero_add] at hv6)
  (try rw [Nat.zero_add])
  (try rw [List.nil_append] at hv6)
  have hb6 : Below W5.heap.size W5 w6 := HBA.out.grown hg6 HBA.out.size (fun j hj => by simp [Value.ownBlock] at hj; omega)
  have HB6 := Lib.hid hb6
  have HV6 := Lib.hid hv6
  clear hb6 hv6 hg6 HSA HO0 HN0 HBA
  have hba : Below w6.heap.size w6 (w6.alloc (.cells #[.int .u8 0] 5)) := (Below.refl _ w6).alloc (Nat.le_refl _) _
  have HO7 := Lib.hid (own_later HV6.out hba)
  have HS7 := Lib.hid (show Sl (w6.alloc (.cells #[.int .u8 0] 5)) (w6.alloc (.cells #[.int .u8 0] 5)).heap.size enc8 1 (some ⟨w6.heap.size, 0, none⟩) 1 [(0 : UInt8)] from by
    have h9 := heap_alloc_new w6 (.cells #[.int .u8 0] 5)
    refine ⟨rfl, fun _ => ⟨w6.heap.size, 0, rfl, (Array.getElem?_eq_some_iff.1 h9).1, fun j hj a u hu => ?_⟩⟩
    have hj0 : j = 0 := by omega
    subst hj0
    rw [cellH h9]
    match a, hu with
    | 0, hu => exact hu)
  have HZ7 := Lib.hid (show W5.heap.size ≤ (w6.alloc (.cells #[.int .u8 0] 5)).heap.size from Nat.le_trans HB6.out.size hba.size)
  have HB7 := Lib.hid (HB6.out.trans (hba.mono HB6.out.size))
  clear hba
  go_wp2_with (at_builtin; refine wpList_app8 rfl _ _ rfl W5.heap.size A6 m c6 L ?hx2 HO7.out (some ⟨w6.heap.size, 0, none⟩) 1 1 [(0 : UInt8)] ?hy2 HS7.out (fun e => by cases e) (by have := HLE.out; omega) HZ7.out ?hk2)
  (try case hx2 => rfl)
  (try case hy2 => rfl)
  case hk2 =>
  intro A8 c8 w8 hv8 hg8
  have hb8 : Below W5.heap.size W5 w8 := HB7.out.grown hg8 HB7.out.size (fun j hj => by
    rcases own_at HO7.out with ⟨e, _⟩ | ⟨g, cur, e, hg, _⟩
    · rw [e] at hj; simp [Value.ownBlock] at hj
    · rw [e] at hj; simp [Value.ownBlock] at hj; omega)
  have hv9 : Row8 w8 W5.heap.size A8 (m + 1) c8 (L ++ [0]) := by unfold Row8; rw [List.flatMap_append, List.flatMap_singleton]; exact hv8
  have HD8 := Lib.hid (decode_any (Row8.argC hv9 (by rw [List.length_append, HM.out]; rfl) (by have := HLE.out; omega)) (HE.out.below (Nat.le_refl _) ((HB3.out.trans (HC5.out.mono HB3.out.size)).trans (hb8.mono (HB3.out.trans (HC5.out.mono HB3.out.size)).size))))
  have HB8 := Lib.hid hb8
  clear hv8 hv9 hg8 hb8 HO7 HS7 HZ7 HB7 HV6 HB6
  go_wp2_with fail
  refine HD8.out.mono ?_
  rintro e w9 ⟨hb, h9, rfl, -⟩
  rw [HDM.out]
  dsimp only
  have hbb : Below w9.heap.size w9 (w9.alloc (.cells #[.int .i64 h9.se, .int .i32 h9.xi, .int .i64 h9.zx, .int .i64 h9.ti, .int .i32 h9.t.n.ty, .string h9.t.n.path, slV h9.t.d, slV h9.t.a, .int .i64 h9.t.n.ow, .int .i32 h9.t.n.ve, .int .i32 h9.t.n.cr, .bool h9.t.n.qh, .int .i64 h9.t.n.qc, .int .i64 h9.t.n.qb, .int .i64 h9.t.n.si, .int .i32 h9.t.n.st, slV h9.t.i, slV h9.t.p, .int .i32 h9.t.n.co, slV h9.t.s] 35)) := (Below.refl _ w9).alloc (Nat.le_refl _) _
  have hb2 := (HB8.out.trans (hb.mono HB8.out.size)).trans (hbb.mono (HB8.out.trans (hb.mono HB8.out.size)).size)
  have HC9 := Lib.hid (HC5.out.trans (hb2.mono HC5.out.size))
  have g9 := (hb2.block _ (Array.getElem?_eq_some_iff.1 g5).1).trans g5
  have y9 := (hb2.block _ (Array.getElem?_eq_some_iff.1 y5).1).trans y5
  have HS9 := Lib.hid (HS5.out.trans (hb2.mono HS5.out.size))
  clear hb hbb hb2 g5 y5 HD8 HB8 HDM
  go_upto_region 13 with (first | (apply wpList_storeTop 35 35; exact rfl; exact rfl; exact rfl; (first | (with_reducible rfl) | (exact sz1 _ _) | (exact sz2 _ _ _)); exact rfl; exact infDl; exact rfl; (first | exact oneDl _ | simp [Value.oneCell'])) | fail)
  change Code.wp _ _ _ _ (w9.alloc (.cells #[.int .i64 h9.se, .int .i32 h9.xi, .int .i64 h9.zx, .int .i64 h9.ti, .int .i32 h9.t.n.ty, .string h9.t.n.path, slV h9.t.d, slV h9.t.a, .int .i64 h9.t.n.ow, .int .i32 h9.t.n.ve, .int .i32 h9.t.n.cr, .bool h9.t.n.qh, .int .i64 h9.t.n.qc, .int .i64 h9.t.n.qb, .int .i64 h9.t.n.si, .int .i32 h9.t.n.st, slV h9.t.i, slV h9.t.p, .int .i32 h9.t.n.co, slV h9.t.s] 35))
  generalize w9.alloc (.cells #[.int .i64 h9.se, .int .i32 h9.xi, .int .i64 h9.zx, .int .i64 h9.ti, .int .i32 h9.t.n.ty, .string h9.t.n.path, slV h9.t.d, slV h9.t.a, .int .i64 h9.t.n.ow, .int .i32 h9.t.n.ve, .int .i32 h9.t.n.cr, .bool h9.t.n.qh, .int .i64 h9.t.n.qc, .int .i64 h9.t.n.qb, .int .i64 h9.t.n.si, .int .i32 h9.t.n.st, slV h9.t.i, slV h9.t.p, .int .i32 h9.t.n.co, slV h9.t.s] 35) = W9 at *
  have HB9 := Lib.hid (HB3.out.trans (HC9.out.mono HB3.out.size))
  have HSA := Lib.hid (sameDlG d d h3 h W9 _ _ (HDY.out _ HS9.out) (HDW.out _ HB9.out) HSM.out HSM.out)
  have b1 : (e5 == 0) = false := beq_eq_false_iff_ne.2 hq5
  go_wp2_with (first | (apply wpList_loadRowW 35 35; exact rfl; exact rfl; exact rfl; assumption; exact undDl; exact rfl; exact infDl) | fail)
  refine HSA.out.mono ?_
  rintro e w10 ⟨rfl, hb⟩
  rw [sameD_eq rfl]
  have HB10 := Lib.hid (HB9.out.trans (hb.mono HB9.out.size))
  have g10 := (hb.block _ (Array.getElem?_eq_some_iff.1 g9).1).trans g9
  clear hb HSA HB9 HC9 HS9 HDY HAR g9 y9 HDU HM HLE HPS
  have HDC := Lib.hid (decode_any (HAW.out _ HB10.out) (HE.out.below (Nat.le_refl _) HB10.out))
  have HNL := Lib.hid (show l.length = n from (HAW.out _ HB10.out).1.len)
  have HAV := Lib.hid (fun (V : World) (hV : Below w10.heap.size w10 V) => (HAW.out V (HB10.out.trans (hV.mono HB10.out.size))).1)
  go_wp2_with fail
  refine HDC.out.mono ?_
  rintro e v1 ⟨hb, hx, rfl, hdx⟩
  have hbv : Below v1.heap.size v1 (v1.alloc (.cells #[.int .i64 hx.se, .int .i32 hx.xi, .int .i64 hx.zx, .int .i64 hx.ti, .int .i32 hx.t.n.ty, .string hx.t.n.path, slV hx.t.d, slV hx.t.a, .int .i64 hx.t.n.ow, .int .i32 hx.t.n.ve, .int .i32 hx.t.n.cr, .bool hx.t.n.qh, .int .i64 hx.t.n.qc, .int .i64 hx.t.n.qb, .int .i64 hx.t.n.si, .int .i32 hx.t.n.st, slV hx.t.i, slV hx.t.p, .int .i32 hx.t.n.co, slV hx.t.s] 35)) := (Below.refl _ v1).alloc (Nat.le_refl _) _
  have HBW := Lib.hid (hb.trans (hbv.mono hb.size))
  have HB1 := Lib.hid (HB10.out.trans (HBW.out.mono HB10.out.size))
  have y1 := heap_s0 v1 (.cells #[.int .i64 hx.se, .int .i32 hx.xi, .int .i64 hx.zx, .int .i64 hx.ti, .int .i32 hx.t.n.ty, .string hx.t.n.path, slV hx.t.d, slV hx.t.a, .int .i64 hx.t.n.ow, .int .i32 hx.t.n.ve, .int .i32 hx.t.n.cr, .bool hx.t.n.qh, .int .i64 hx.t.n.qc, .int .i64 hx.t.n.qb, .int .i64 hx.t.n.si, .int .i32 hx.t.n.st, slV hx.t.i, slV hx.t.p, .int .i32 hx.t.n.co, slV hx.t.s] 35)
  have HY := Lib.hid (show DlAt (v1.alloc (.cells #[.int .i64 hx.se, .int .i32 hx.xi, .int .i64 hx.zx, .int .i64 hx.ti, .int .i32 hx.t.n.ty, .string hx.t.n.path, slV hx.t.d, slV hx.t.a, .int .i64 hx.t.n.ow, .int .i32 hx.t.n.ve, .int .i32 hx.t.n.cr, .bool hx.t.n.qh, .int .i64 hx.t.n.qc, .int .i64 hx.t.n.qb, .int .i64 hx.t.n.si, .int .i32 hx.t.n.st, slV hx.t.i, slV hx.t.p, .int .i32 hx.t.n.co, slV hx.t.s] 35)) (fun _ => True) hx (decD l).1 from ⟨hdx.1, TxAt.tru hdx.2 hbv⟩)
  have HDX := Lib.hid (fun (V : World) (hV : Below (v1.alloc (.cells #[.int .i64 hx.se, .int .i32 hx.xi, .int .i64 hx.zx, .int .i64 hx.ti, .int .i32 hx.t.n.ty, .string hx.t.n.path, slV hx.t.d, slV hx.t.a, .int .i64 hx.t.n.ow, .int .i32 hx.t.n.ve, .int .i32 hx.t.n.cr, .bool hx.t.n.qh, .int .i64 hx.t.n.qc, .int .i64 hx.t.n.qb, .int .i64 hx.t.n.si, .int .i32 hx.t.n.st, slV hx.t.i, slV hx.t.p, .int .i32 hx.t.n.co, slV hx.t.s] 35)).heap.size (v1.alloc (.cells #[.int .i64 hx.se, .int .i32 hx.xi, .int .i64 hx.zx, .int .i64 hx.ti, .int .i32 hx.t.n.ty, .string hx.t.n.path, slV hx.t.d, slV hx.t.a, .int .i64 hx.t.n.ow, .int .i32 hx.t.n.ve, .int .i32 hx.t.n.cr, .bool hx.t.n.qh, .int .i64 hx.t.n.qc, .int .i64 hx.t.n.qb, .int .i64 hx.t.n.si, .int .i32 hx.t.n.st, slV hx.t.i, slV hx.t.p, .int .i32 hx.t.n.co, slV hx.t.s] 35)) V) => (show DlAt V (fun _ => True) hx (decD l).1 from ⟨HY.out.1, TxAt.tru HY.out.2 hV⟩))
  clear hb HDC HB10 g10 hdx hbv HY
  go_upto_region 16 with (first | (apply wpList_storeTop 35 35; exact rfl; exact rfl; exact rfl; (first | (with_reducible rfl) | (exact sz1 _ _) | (exact sz2 _ _ _)); exact rfl; exact infDl; exact rfl; (first | exact oneDl _ | simp [Value.oneCell'])) | fail)
  change Code.wp _ _ _ _ (v1.alloc (.cells #[.int .i64 hx.se, .int .i32 hx.xi, .int .i64 hx.zx, .int .i64 hx.ti, .int .i32 hx.t.n.ty, .string hx.t.n.path, slV hx.t.d, slV hx.t.a, .int .i64 hx.t.n.ow, .int .i32 hx.t.n.ve, .int .i32 hx.t.n.cr, .bool hx.t.n.qh, .int .i64 hx.t.n.qc, .int .i64 hx.t.n.qb, .int .i64 hx.t.n.si, .int .i32 hx.t.n.st, slV hx.t.i, slV hx.t.p, .int .i32 hx.t.n.co, slV hx.t.s] 35))
  generalize v1.alloc (.cells #[.int .i64 hx.se, .int .i32 hx.xi, .int .i64 hx.zx, .int .i64 hx.ti, .int .i32 hx.t.n.ty, .string hx.t.n.path, slV hx.t.d, slV hx.t.a, .int .i64 hx.t.n.ow, .int .i32 hx.t.n.ve, .int .i32 hx.t.n.cr, .bool hx.t.n.qh, .int .i64 hx.t.n.qc, .int .i64 hx.t.n.qb, .int .i64 hx.t.n.si, .int .i32 hx.t.n.st, slV hx.t.i, slV hx.t.p, .int .i32 hx.t.n.co, slV hx.t.s] 35) = U1 at *
  by_cases hq : (decD l).2.2 = 0
  · obtain ⟨x, -, hxd, hxr, hxs, hxe⟩ := decD_ok hq
    rw [hxd] at HDX
    rw [hxd]
    dsimp only at HDX ⊢
    clear hq
    have HXR := Lib.hid hxr; have HXS := Lib.hid hxs; have HXE := Lib.hid hxe
    clear hxd hxr hxs hxe
    have HEX := Lib.hid (encode_any hx x U1 _ (HDX.out _ (Below.refl _ _)) (HE.out.below (Nat.le_refl _) HB1.out) HXS.out)
    go_wp2_with (first | (apply wpList_loadRow 35 35; exact rfl; exact rfl; exact rfl; assumption; exact undDl; exact rfl; exact infDl) | fail)
    refine HEX.out.mono ?_
    rintro e v2 ⟨hb, hm⟩
    rcases hm with ⟨hr, -⟩ | ⟨-, A7, c7, rfl, hrow⟩
    · exact absurd HXR.out hr
    have HRX := Lib.hid (right13_any hx x v2 _ (HDX.out _ hb) (HE.out.below (Nat.le_refl _) (HB1.out.trans (hb.mono HB1.out.size))) HXS.out)
    have HB2 := Lib.hid (HB1.out.trans (hb.mono HB1.out.size))
    have y2 := (hb.block _ (Array.getElem?_eq_some_iff.1 y1).1).trans y1
    have HR7 := Lib.hid (Row8.sl hrow rfl)
    have CV1 := conv_slT (c := c7) HR7.out
    have CV2 := conv_slT (c := c) (HAV.out v2 (HBW.out.trans (hb.mono HBW.out.size)))
    rw [← HXE.out] at CV1 ⊢
    rw [HNL.out] at CV1 ⊢
    have hse : ((toBA l).toList == (toBA l).toList) = true := str_eq rfl
    clear hb hrow HEX HB1 y1 HR7 HDX
    go_wp2_with (first | (apply wpList_loadRowW 35 35; exact rfl; exact rfl; exact rfl; assumption; exact undDl; exact rfl; exact infDl) | fail)
    refine HRX.out.mono ?_
    rintro e v3 ⟨rfl, hb⟩
    rw [HXR.out]
    have HB3 := Lib.hid (HB2.out.trans (hb.mono HB2.out.size))
    clear hb CV1 CV2 HRX y2
    go_wp2_with fail
    go_ret
    exact RetB.mk HB3.out rfl
  · obtain ⟨hx1, hx2⟩ := decD_no hq
    rw [hx1] at HDX
    rw [HNL.out] at hx2
    generalize (decD l).2.2 = e1 at hq ⊢
    generalize (decD l).2.1 = p1 at hx2 ⊢
    have b8 : (e1 != 0) = true := bne_iff_ne.2 hq
    have HSX := Lib.hid (sameDlG noDl noDl hx zDl U1 _ (fun _ => True) (HDX.out _ (Below.refl _ _)) (noDl_at _ _) noDl_sm noDl_sm)
    have q1 : (0 : Int) ≤ (p1 : Int) := by omega
    have q2 : (p1 : Int) ≤ (n : Int) := by omega
    clear hx1 hq HDX
    go_wp2_with (first | (apply wpList_loadRowW 35 35; exact rfl; exact rfl; exact rfl; assumption; exact undDl; exact rfl; exact infDl) | (refine wpList_bdDlW (by rfl) rfl ?_) | fail)
    refine HSX.out.mono ?_
    rintro e v2 ⟨rfl, hb⟩
    rw [sameD_eq rfl]
    have HB2 := Lib.hid (HB1.out.trans (hb.mono HB1.out.size))
    clear hb HSX HB1
    go_wp2_with fail
    go_ret
    exact RetB.mk HB2.out rfl
end Go.Proofs.YthpjneobmmpbnaaGreatDoor
