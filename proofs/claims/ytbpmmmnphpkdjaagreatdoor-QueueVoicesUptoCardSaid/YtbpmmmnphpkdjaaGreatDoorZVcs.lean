/- The law QueueVoices. Condition: bulk at most 2^20. -/
import Derived.Test.YtbpmmmnphpkdjaaGreatDoorZVcP
import Derived.Test.YtbpmmmnphpkdjaaGreatDoorZOpD
namespace Go.Proofs.YtbpmmmnphpkdjaaGreatDoor
open Go.RowKit Go.MapKept Go.Maps
set_option linter.unusedSimpArgs false in
set_option maxRecDepth 100000 in
set_option maxHeartbeats 20000000 in
theorem queueVoices_any (bound voters : Int) (A0 : Option Addr) (n0 c0 : Nat) (l0 : List (DlH × DlT)) (A1 : Option Addr) (n1 c1 : Nat) (l1 : List (Int × Int)) (w : World) (hE : Env w)
    (o0 : Sl w w.heap.size (fun z : DlH × DlT => encDl z.1) 20 A0 n0 l0) (z0 : n0 ≤ 1048576) (q0 : ∀ j, j < n0 → DlAt w (· < w.heap.size) l0[j]!.1 l0[j]!.2 ∧ DlSm 1048576 l0[j]!.2)
    (o1 : Sl w w.heap.size encVo 2 A1 n1 l1) (z1 : n1 ≤ 1048576) :
    Calls Tryz.prog 5 #[.int .i64 bound, .int .i64 voters, .slice A0 n0 c0, .slice A1 n1 c1] w (RetB w true) := by
  have HE := Lib.hid hE; have HO0 := Lib.hid o0; have HO1 := Lib.hid o1; have HQ0 := Lib.hid q0
  have HL1 := Lib.hid o1.len
  have HLV := Lib.hid (live26_any w hE)
  clear hE o0 o1 q0
  go_enter Tryz.func5, Tryz.ntmps5
  go_wp2_with fail
  refine HLV.out.mono ?_
  rintro e w1 ⟨rfl, hb1⟩
  have HB1 := Lib.hid hb1; clear hb1 HLV
  by_cases hbad : bound < 0 ∨ 4096 < bound ∨ voters < 0 ∨ 9 < voters
  · have HN := Lib.hid (fun W => new_no bound voters W hbad)
    clear hbad
    go_wp2_with fail
    refine (HN.out _).mono ?_
    rintro e w2 ⟨rfl, hb⟩
    have HB2 := Lib.hid (HB1.out.trans (hb.mono HB1.out.size)); clear hb
    go_wp2_with fail
    refine (HN.out _).mono ?_
    rintro e w3 ⟨rfl, hb⟩
    have HB3 := Lib.hid (HB2.out.trans (hb.mono HB2.out.size)); clear hb HN
    go_wp2_with fail
    go_ret
    exact RetB.mk HB3.out rfl
  obtain ⟨v, rfl⟩ : ∃ v : Nat, voters = (v : Int) := ⟨voters.toNat, by omega⟩
  have HV := Lib.hid (show 0 ≤ bound ∧ bound ≤ 4096 ∧ v ≤ 9 by omega)
  clear hbad
  have HN := Lib.hid (fun W => new_ok bound v W HV.out.1 HV.out.2.1 HV.out.2.2)
  go_wp2_with fail
  refine (HN.out _).mono ?_
  rintro e w2 ⟨⟨ba, xa, Ra, rfl, hqa, ga⟩, hb2⟩
  have HQA := Lib.hid (And.intro hqa (And.intro ga hb2)); clear hqa ga hb2
  go_wp2_with fail
  refine (HN.out _).mono ?_
  rintro e w3 ⟨⟨bb, xb, Rb, rfl, hqb, gb⟩, hb3⟩
  have HTW := Lib.hid (TwoE.made HB1.out HQA.out.1 HQA.out.2.1 HQA.out.2.2 hqb gb hb3 (newS_inv bound v HV.out.1 HV.out.2.1 HV.out.2.2) (newS_inv bound v HV.out.1 HV.out.2.1 HV.out.2.2))
  have HFR := Lib.hid (Fresh.made bound v HV.out.1 HV.out.2.1 HV.out.2.2)
  clear hqb gb hb3 HQA HN HB1 HV
  go_wp2_with fail
  go_loopw [13, 14] (fun i _ wr => ∃ j : Nat, ∃ st xa Ra xb Rb, i = .int .i64 ↑j ∧ j ≤ n0 ∧ Fresh v st ∧ TwoE w wr ba bb st st xa Ra xb Rb) (fun i _ _ => n0 - (intOf i).toNat)
  case atStart => exact ⟨0, _, _, _, _, _, rfl, Nat.zero_le _, HFR.out, HTW.out⟩
  case round =>
  clear HTW HFR xa Ra xb Rb
  obtain ⟨j, st, xa, Ra, xb, Rb, rfl, hj, hfr, htw⟩ := hrel
  have HTW := Lib.hid htw; have HFR := Lib.hid hfr; clear htw hfr
  by_cases hlt : j < n0
  · have ⟨b, off, eb, _, hcb⟩ := HO0.out.cells hlt
    have HD := Lib.hid (HQ0.out j hlt)
    have HCB := Lib.hid hcb
    have hji : (j : Int) < (n0 : Int) := by omega
    have hj0 : (0 : Int) ≤ (j : Int) := by omega
    clear hcb
    subst eb
    generalize l0[j]!.2 = d at *
    generalize l0[j]!.1 = h at *
    go_wp2_with fail
    have HRW := Lib.hid (show ∀ V : World, Below w.heap.size w V → V.rangeAt b (off + j * 20) [.int .i64 h.se, .int .i32 h.xi, .int .i64 h.zx, .int .i64 h.ti, .int .i32 h.t.n.ty, .string h.t.n.path, slV h.t.d, slV h.t.a, .int .i64 h.t.n.ow, .int .i32 h.t.n.ve, .int .i32 h.t.n.cr, .bool h.t.n.qh, .int .i64 h.t.n.qc, .int .i64 h.t.n.qb, .int .i64 h.t.n.si, .int .i32 h.t.n.st, slV h.t.i, slV h.t.p, .int .i32 h.t.n.co, slV h.t.s] ∧ V.cell? ⟨b, off + j * 20 + 1, none⟩ = some (.int .i32 h.xi) ∧ V.cell? ⟨b, off + j * 20 + 2, none⟩ = some (.int .i64 h.zx) from fun V hV => by
      have g : ∀ (i : Nat) (u : Value), (encDl h)[i]? = some u → V.cell? ⟨b, off + j * 20 + i, none⟩ = some u := fun i u hu => keep1 (HCB.out i u hu) hV
      exact ⟨g, g 1 _ rfl, g 2 _ rfl⟩)
    have HB := Lib.hid HTW.out.b
    refine wp_region_M (S := fun V => V.rangeAt b (off + j * 20) [.int .i64 h.se, .int .i32 h.xi, .int .i64 h.zx, .int .i64 h.ti, .int .i32 h.t.n.ty, .string h.t.n.path, slV h.t.d, slV h.t.a, .int .i64 h.t.n.ow, .int .i32 h.t.n.ve, .int .i32 h.t.n.cr, .bool h.t.n.qh, .int .i64 h.t.n.qc, .int .i64 h.t.n.qb, .int .i64 h.t.n.si, .int .i32 h.t.n.st, slV h.t.i, slV h.t.p, .int .i32 h.t.n.co, slV h.t.s] ∧ V.cell? ⟨b, off + j * 20 + 1, none⟩ = some (.int .i32 h.xi) ∧ V.cell? ⟨b, off + j * 20 + 2, none⟩ = some (.int .i64 h.zx)) 17 (by kernel_rfl) (HRW.out _ (HB.out.trans ((drew_self _).mono HB.out.size))) (fun hHeld => ?_)
    replace HTW := Lib.hid (HTW.out.later (drew_self _))
    replace HB := Lib.hid HTW.out.b
    generalize wr.drew = V0 at *
    refine wpAnyM_take (i := 0) (v := .slice (some ⟨b, off, none⟩) n0 c0) rfl (by kernel_rfl) (fun _ _ _ h => h) (Or.inl ⟨by rfl, by intro w hSw; clear hSw; go_simp⟩) (by assumption) ?_
    (try simp only [Act.put, List.setIfInBounds_toArray, List.set_cons_zero, List.set_cons_succ])
    refine wpAnyM_take (i := 1) (v := .int .i64 ↑j) rfl (by kernel_rfl) (fun _ _ _ h => h) (Or.inl ⟨by rfl, by intro w hSw; clear hSw; go_simp⟩) (by assumption) ?_
    (try simp only [Act.put, List.setIfInBounds_toArray, List.set_cons_zero, List.set_cons_succ])
    refine wpAnyM_take (i := 2) (v := .pointer (some ⟨b, off + j * 20, none⟩)) rfl (by kernel_rfl) (fun _ _ _ h => h) (Or.inl ⟨by rfl, by intro w hSw; clear hSw; go_simp⟩) (by assumption) ?_
    (try simp only [Act.put, List.setIfInBounds_toArray, List.set_cons_zero, List.set_cons_succ])
    refine wpAnyM_take (i := 3) (v := .agg #[.int .i64 h.se, .int .i32 h.xi, .int .i64 h.zx, .int .i64 h.ti, .int .i32 h.t.n.ty, .string h.t.n.path, slV h.t.d, slV h.t.a, .int .i64 h.t.n.ow, .int .i32 h.t.n.ve, .int .i32 h.t.n.cr, .bool h.t.n.qh, .int .i64 h.t.n.qc, .int .i64 h.t.n.qb, .int .i64 h.t.n.si, .int .i32 h.t.n.st, slV h.t.i, slV h.t.p, .int .i32 h.t.n.co, slV h.t.s]) rfl (by kernel_rfl) (fun _ _ _ h => h) (yieldsIf_load_mid (by rfl) 54 _ rfl b (off + j * 20) rfl [.int .i64 h.se, .int .i32 h.xi, .int .i64 h.zx, .int .i64 h.ti, .int .i32 h.t.n.ty, .string h.t.n.path, slV h.t.d, slV h.t.a, .int .i64 h.t.n.ow, .int .i32 h.t.n.ve, .int .i32 h.t.n.cr, .bool h.t.n.qh, .int .i64 h.t.n.qc, .int .i64 h.t.n.qb, .int .i64 h.t.n.si, .int .i32 h.t.n.st, slV h.t.i, slV h.t.p, .int .i32 h.t.n.co, slV h.t.s] _ (fun _ h => h.1) undDl rfl infDl) (by assumption) ?_
    (try simp only [Act.put, List.setIfInBounds_toArray, List.set_cons_zero, List.set_cons_succ])
    refine wpAnyM_take (i := 4) (v := .slice (some ⟨b, off, none⟩) n0 c0) rfl (by kernel_rfl) (fun _ _ _ h => h) (Or.inl ⟨by rfl, by intro w hSw; clear hSw; go_simp⟩) (by assumption) ?_
    (try simp only [Act.put, List.setIfInBounds_toArray, List.set_cons_zero, List.set_cons_succ])
    refine wpAnyM_take (i := 5) (v := .int .i64 ↑j) rfl (by kernel_rfl) (fun _ _ _ h => h) (Or.inl ⟨by rfl, by intro w hSw; clear hSw; go_simp⟩) (by assumption) ?_
    (try simp only [Act.put, List.setIfInBounds_toArray, List.set_cons_zero, List.set_cons_succ])
    refine wpAnyM_take (i := 6) (v := .pointer (some ⟨b, off + j * 20, none⟩)) rfl (by kernel_rfl) (fun _ _ _ h => h) (Or.inl ⟨by rfl, by intro w hSw; clear hSw; go_simp⟩) (by assumption) ?_
    (try simp only [Act.put, List.setIfInBounds_toArray, List.set_cons_zero, List.set_cons_succ])
    refine wpAnyM_take (i := 7) (v := .pointer (some ⟨b, off + j * 20 + 1, none⟩)) rfl (by kernel_rfl) (fun _ _ _ h => h) (Or.inl ⟨by rfl, by intro w hSw; clear hSw; go_simp⟩) (by assumption) ?_
    (try simp only [Act.put, List.setIfInBounds_toArray, List.set_cons_zero, List.set_cons_succ])
    refine wpAnyM_take (i := 8) (v := .int .i32 h.xi) rfl (by kernel_rfl) (fun _ _ _ h => h) (Or.inl ⟨by rfl, by intro w hSw; obtain ⟨-, hSw, -⟩ := hSw; go_simp⟩) (by assumption) ?_
    (try simp only [Act.put, List.setIfInBounds_toArray, List.set_cons_zero, List.set_cons_succ])
    refine wpAnyM_take (i := 9) (v := .slice (some ⟨b, off, none⟩) n0 c0) rfl (by kernel_rfl) (fun _ _ _ h => h) (Or.inl ⟨by rfl, by intro w hSw; clear hSw; go_simp⟩) (by assumption) ?_
    (try simp only [Act.put, List.setIfInBounds_toArray, List.set_cons_zero, List.set_cons_succ])
    refine wpAnyM_take (i := 10) (v := .int .i64 ↑j) rfl (by kernel_rfl) (fun _ _ _ h => h) (Or.inl ⟨by rfl, by intro w hSw; clear hSw; go_simp⟩) (by assumption) ?_
    (try simp only [Act.put, List.setIfInBounds_toArray, List.set_cons_zero, List.set_cons_succ])
    refine wpAnyM_take (i := 11) (v := .pointer (some ⟨b, off + j * 20, none⟩)) rfl (by kernel_rfl) (fun _ _ _ h => h) (Or.inl ⟨by rfl, by intro w hSw; clear hSw; go_simp⟩) (by assumption) ?_
    (try simp only [Act.put, List.setIfInBounds_toArray, List.set_cons_zero, List.set_cons_succ])
    refine wpAnyM_take (i := 12) (v := .pointer (some ⟨b, off + j * 20 + 2, none⟩)) rfl (by kernel_rfl) (fun _ _ _ h => h) (Or.inl ⟨by rfl, by intro w hSw; clear hSw; go_simp⟩) (by assumption) ?_
    (try simp only [Act.put, List.setIfInBounds_toArray, List.set_cons_zero, List.set_cons_succ])
    refine wpAnyM_take (i := 13) (v := .int .i64 h.zx) rfl (by kernel_rfl) (fun _ _ _ h => h) (Or.inl ⟨by rfl, by intro w hSw; obtain ⟨-, -, hSw⟩ := hSw; go_simp⟩) (by assumption) ?_
    (try simp only [Act.put, List.setIfInBounds_toArray, List.set_cons_zero, List.set_cons_succ])
    refine wpAnyM_take (i := 14) (v := .agg #[.int .i32 h.xi, .int .i64 h.zx, .int .i32 (-1), .int .i32 0, .int .i32 0, .string ⟨#[]⟩, .int .i64 0, .int .i64 0, .int .i64 0, .int .i64 0, .int .i32 0, .int .i32 0, .int .i32 0, .int .i64 0, .int .i32 0, .int .i32 0, .int .i64 0, .slice none 0 0, .slice none 0 0, .slice none 0 0, .int .i32 0, .int .i64 0, .int .i32 0, .slice none 0 0, .slice none 0 0]) rfl (by kernel_rfl) (fun _ _ _ h => h) (Or.inl ⟨by rfl, by intro w hSw; clear hSw; go_simp⟩) (by assumption) ?_
    (try simp only [Act.put, List.setIfInBounds_toArray, List.set_cons_zero, List.set_cons_succ])
    refine wpAnyM_take (i := 15) (v := .agg #[.int .i64 h.se, .int .i32 h.xi, .int .i64 h.zx, .int .i64 h.ti, .int .i32 h.t.n.ty, .string h.t.n.path, slV h.t.d, slV h.t.a, .int .i64 h.t.n.ow, .int .i32 h.t.n.ve, .int .i32 h.t.n.cr, .bool h.t.n.qh, .int .i64 h.t.n.qc, .int .i64 h.t.n.qb, .int .i64 h.t.n.si, .int .i32 h.t.n.st, slV h.t.i, slV h.t.p, .int .i32 h.t.n.co, slV h.t.s, .int .i32 h.xi, .int .i64 h.zx, .int .i32 (-1), .int .i32 0, .int .i32 0, .string ⟨#[]⟩, .int .i64 0, .int .i64 0, .int .i64 0, .int .i64 0, .int .i32 0, .int .i32 0, .int .i32 0, .int .i64 0, .int .i32 0, .int .i32 0, .int .i64 0, .slice none 0 0, .slice none 0 0, .slice none 0 0, .int .i32 0, .int .i64 0, .int .i32 0, .slice none 0 0, .slice none 0 0]) rfl (by kernel_rfl) (fun _ _ _ h => h) (Or.inl ⟨by rfl, by intro w hSw; clear hSw; go_simp⟩) (by assumption) ?_
    (try simp only [Act.put, List.setIfInBounds_toArray, List.set_cons_zero, List.set_cons_succ])
    have HNX := Lib.hid (HTW.out.beyond (Nat.le_refl _))
    have HG := Lib.hid (heap_s0 V0 (.cells #[.int .i64 h.se, .int .i32 h.xi, .int .i64 h.zx, .int .i64 h.ti, .int .i32 h.t.n.ty, .string h.t.n.path, slV h.t.d, slV h.t.a, .int .i64 h.t.n.ow, .int .i32 h.t.n.ve, .int .i32 h.t.n.cr, .bool h.t.n.qh, .int .i64 h.t.n.qc, .int .i64 h.t.n.qb, .int .i64 h.t.n.si, .int .i32 h.t.n.st, slV h.t.i, slV h.t.p, .int .i32 h.t.n.co, slV h.t.s, .int .i32 h.xi, .int .i64 h.zx, .int .i32 (-1), .int .i32 0, .int .i32 0, .string ⟨#[]⟩, .int .i64 0, .int .i64 0, .int .i64 0, .int .i64 0, .int .i32 0, .int .i32 0, .int .i32 0, .int .i64 0, .int .i32 0, .int .i32 0, .int .i64 0, .slice none 0 0, .slice none 0 0, .slice none 0 0, .int .i32 0, .int .i64 0, .int .i32 0, .slice none 0 0, .slice none 0 0] 63))
    have HS := Lib.hid (sz1 V0 (.cells #[.int .i64 h.se, .int .i32 h.xi, .int .i64 h.zx, .int .i64 h.ti, .int .i32 h.t.n.ty, .string h.t.n.path, slV h.t.d, slV h.t.a, .int .i64 h.t.n.ow, .int .i32 h.t.n.ve, .int .i32 h.t.n.cr, .bool h.t.n.qh, .int .i64 h.t.n.qc, .int .i64 h.t.n.qb, .int .i64 h.t.n.si, .int .i32 h.t.n.st, slV h.t.i, slV h.t.p, .int .i32 h.t.n.co, slV h.t.s, .int .i32 h.xi, .int .i64 h.zx, .int .i32 (-1), .int .i32 0, .int .i32 0, .string ⟨#[]⟩, .int .i64 0, .int .i64 0, .int .i64 0, .int .i64 0, .int .i32 0, .int .i32 0, .int .i32 0, .int .i64 0, .int .i32 0, .int .i32 0, .int .i64 0, .slice none 0 0, .slice none 0 0, .slice none 0 0, .int .i32 0, .int .i64 0, .int .i32 0, .slice none 0 0, .slice none 0 0] 63))
    replace HTW := Lib.hid (HTW.out.later (show Below V0.heap.size V0 (V0.alloc (.cells #[.int .i64 h.se, .int .i32 h.xi, .int .i64 h.zx, .int .i64 h.ti, .int .i32 h.t.n.ty, .string h.t.n.path, slV h.t.d, slV h.t.a, .int .i64 h.t.n.ow, .int .i32 h.t.n.ve, .int .i32 h.t.n.cr, .bool h.t.n.qh, .int .i64 h.t.n.qc, .int .i64 h.t.n.qb, .int .i64 h.t.n.si, .int .i32 h.t.n.st, slV h.t.i, slV h.t.p, .int .i32 h.t.n.co, slV h.t.s, .int .i32 h.xi, .int .i64 h.zx, .int .i32 (-1), .int .i32 0, .int .i32 0, .string ⟨#[]⟩, .int .i64 0, .int .i64 0, .int .i64 0, .int .i64 0, .int .i32 0, .int .i32 0, .int .i32 0, .int .i64 0, .int .i32 0, .int .i32 0, .int .i64 0, .slice none 0 0, .slice none 0 0, .slice none 0 0, .int .i32 0, .int .i64 0, .int .i32 0, .slice none 0 0, .slice none 0 0] 63)) from (Below.refl _ V0).alloc (Nat.le_refl _) _))
    refine wpAnyM_one (i := 16) rfl (by kernel_rfl) (fun K hK => ?_)
    go_simp
    refine hK.out _ _ (HRW.out _ (HB.out.trans (((Below.refl _ V0).alloc (Nat.le_refl _) _).mono HB.out.size))) ?_
    clear hK K hHeld HRW HCB HB
    (try simp only [Act.put, List.setIfInBounds_toArray, List.set_cons_zero, List.set_cons_succ])
    refine wpAnyM_tail (n := 17) (by kernel_rfl) ?_
    simp only [List.drop_succ_cons, List.drop_zero]
    go_upto_region 13 with (apply wpList_storeTop 63 63; exact rfl; exact rfl; exact rfl; (first | (with_reducible rfl) | (exact sz1 _ _) | (exact sz2 _ _ _) | (exact sz3 _ _ _ _)); exact rfl; exact infPr; exact rfl; (first | exact onePr _ | simp [Value.oneCell']))
    generalize V0.alloc (.cells #[.int .i64 h.se, .int .i32 h.xi, .int .i64 h.zx, .int .i64 h.ti, .int .i32 h.t.n.ty, .string h.t.n.path, slV h.t.d, slV h.t.a, .int .i64 h.t.n.ow, .int .i32 h.t.n.ve, .int .i32 h.t.n.cr, .bool h.t.n.qh, .int .i64 h.t.n.qc, .int .i64 h.t.n.qb, .int .i64 h.t.n.si, .int .i32 h.t.n.st, slV h.t.i, slV h.t.p, .int .i32 h.t.n.co, slV h.t.s, .int .i32 h.xi, .int .i64 h.zx, .int .i32 (-1), .int .i32 0, .int .i32 0, .string ⟨#[]⟩, .int .i64 0, .int .i64 0, .int .i64 0, .int .i64 0, .int .i32 0, .int .i32 0, .int .i32 0, .int .i64 0, .int .i32 0, .int .i32 0, .int .i64 0, .slice none 0 0, .slice none 0 0, .slice none 0 0, .int .i32 0, .int .i64 0, .int .i32 0, .slice none 0 0, .slice none 0 0] 63) = W at *
    have HSO := Lib.hid (fun (V : World) (hV : Below W.heap.size W V) => (rangeAt_heapC (pre := []) (mid := [.int .i64 h.se, .int .i32 h.xi, .int .i64 h.zx, .int .i64 h.ti, .int .i32 h.t.n.ty, .string h.t.n.path, slV h.t.d, slV h.t.a, .int .i64 h.t.n.ow, .int .i32 h.t.n.ve, .int .i32 h.t.n.cr, .bool h.t.n.qh, .int .i64 h.t.n.qc, .int .i64 h.t.n.qb, .int .i64 h.t.n.si, .int .i32 h.t.n.st, slV h.t.i, slV h.t.p, .int .i32 h.t.n.co, slV h.t.s, .int .i32 h.xi, .int .i64 h.zx, .int .i32 (-1), .int .i32 0, .int .i32 0, .string ⟨#[]⟩, .int .i64 0, .int .i64 0, .int .i64 0, .int .i64 0, .int .i32 0, .int .i32 0, .int .i32 0, .int .i64 0, .int .i32 0, .int .i32 0, .int .i64 0, .slice none 0 0, .slice none 0 0, .slice none 0 0, .int .i32 0, .int .i64 0, .int .i32 0, .slice none 0 0, .slice none 0 0]) (post := []) ((hV.block _ (by have := HS.out; omega)).trans HG.out) (by simp) rfl : V.rangeAt V0.heap.size 0 [.int .i64 h.se, .int .i32 h.xi, .int .i64 h.zx, .int .i64 h.ti, .int .i32 h.t.n.ty, .string h.t.n.path, slV h.t.d, slV h.t.a, .int .i64 h.t.n.ow, .int .i32 h.t.n.ve, .int .i32 h.t.n.cr, .bool h.t.n.qh, .int .i64 h.t.n.qc, .int .i64 h.t.n.qb, .int .i64 h.t.n.si, .int .i32 h.t.n.st, slV h.t.i, slV h.t.p, .int .i32 h.t.n.co, slV h.t.s, .int .i32 h.xi, .int .i64 h.zx, .int .i32 (-1), .int .i32 0, .int .i32 0, .string ⟨#[]⟩, .int .i64 0, .int .i64 0, .int .i64 0, .int .i64 0, .int .i32 0, .int .i32 0, .int .i32 0, .int .i64 0, .int .i32 0, .int .i32 0, .int .i64 0, .slice none 0 0, .slice none 0 0, .slice none 0 0, .int .i32 0, .int .i64 0, .int .i32 0, .slice none 0 0, .slice none 0 0]))
    have HSW := Lib.hid (show V0.heap.size < W.drew.heap.size from Nat.lt_of_lt_of_le (by have := HS.out; omega) (drew_self W).size)
    replace HTW := Lib.hid (HTW.out.later (drew_self W))
    refine wp_region_M (S := fun V => V.rangeAt V0.heap.size 0 [.int .i64 h.se, .int .i32 h.xi, .int .i64 h.zx, .int .i64 h.ti, .int .i32 h.t.n.ty, .string h.t.n.path, slV h.t.d, slV h.t.a, .int .i64 h.t.n.ow, .int .i32 h.t.n.ve, .int .i32 h.t.n.cr, .bool h.t.n.qh, .int .i64 h.t.n.qc, .int .i64 h.t.n.qb, .int .i64 h.t.n.si, .int .i32 h.t.n.st, slV h.t.i, slV h.t.p, .int .i32 h.t.n.co, slV h.t.s, .int .i32 h.xi, .int .i64 h.zx, .int .i32 (-1), .int .i32 0, .int .i32 0, .string ⟨#[]⟩, .int .i64 0, .int .i64 0, .int .i64 0, .int .i64 0, .int .i32 0, .int .i32 0, .int .i32 0, .int .i64 0, .int .i32 0, .int .i32 0, .int .i64 0, .slice none 0 0, .slice none 0 0, .slice none 0 0, .int .i32 0, .int .i64 0, .int .i32 0, .slice none 0 0, .slice none 0 0]) 7 (by kernel_rfl) (HSO.out _ (drew_self W)) (fun hHeld => ?_)
    generalize W.drew = V1 at *
    clear HSO HG HS
    refine wpAnyM_take (i := 0) (v := .pointer (some ⟨ba, 0, none⟩)) rfl (by kernel_rfl) (fun _ _ _ h => h) (Or.inl ⟨by rfl, by intro w hSw; clear hSw; go_simp⟩) (by assumption) ?_
    (try simp only [Act.put, List.setIfInBounds_toArray, List.set_cons_zero, List.set_cons_succ])
    refine wpAnyM_take (i := 1) (v := .agg #[.int .i64 h.se, .int .i32 h.xi, .int .i64 h.zx, .int .i64 h.ti, .int .i32 h.t.n.ty, .string h.t.n.path, slV h.t.d, slV h.t.a, .int .i64 h.t.n.ow, .int .i32 h.t.n.ve, .int .i32 h.t.n.cr, .bool h.t.n.qh, .int .i64 h.t.n.qc, .int .i64 h.t.n.qb, .int .i64 h.t.n.si, .int .i32 h.t.n.st, slV h.t.i, slV h.t.p, .int .i32 h.t.n.co, slV h.t.s, .int .i32 h.xi, .int .i64 h.zx, .int .i32 (-1), .int .i32 0, .int .i32 0, .string ⟨#[]⟩, .int .i64 0, .int .i64 0, .int .i64 0, .int .i64 0, .int .i32 0, .int .i32 0, .int .i32 0, .int .i64 0, .int .i32 0, .int .i32 0, .int .i64 0, .slice none 0 0, .slice none 0 0, .slice none 0 0, .int .i32 0, .int .i64 0, .int .i32 0, .slice none 0 0, .slice none 0 0]) rfl (by kernel_rfl) (fun _ _ _ h => h) (yieldsIf_load_mid (by rfl) 63 _ rfl V0.heap.size (0) rfl [.int .i64 h.se, .int .i32 h.xi, .int .i64 h.zx, .int .i64 h.ti, .int .i32 h.t.n.ty, .string h.t.n.path, slV h.t.d, slV h.t.a, .int .i64 h.t.n.ow, .int .i32 h.t.n.ve, .int .i32 h.t.n.cr, .bool h.t.n.qh, .int .i64 h.t.n.qc, .int .i64 h.t.n.qb, .int .i64 h.t.n.si, .int .i32 h.t.n.st, slV h.t.i, slV h.t.p, .int .i32 h.t.n.co, slV h.t.s, .int .i32 h.xi, .int .i64 h.zx, .int .i32 (-1), .int .i32 0, .int .i32 0, .string ⟨#[]⟩, .int .i64 0, .int .i64 0, .int .i64 0, .int .i64 0, .int .i32 0, .int .i32 0, .int .i32 0, .int .i64 0, .int .i32 0, .int .i32 0, .int .i64 0, .slice none 0 0, .slice none 0 0, .slice none 0 0, .int .i32 0, .int .i64 0, .int .i32 0, .slice none 0 0, .slice none 0 0] _ (fun _ h => h) undPr rfl infPr) (by assumption) ?_
    (try simp only [Act.put, List.setIfInBounds_toArray, List.set_cons_zero, List.set_cons_succ])
    refine wpAnyM_take (i := 3) (v := .pointer (some ⟨bb, 0, none⟩)) rfl (by kernel_rfl) (fun _ _ _ h => h) (Or.inl ⟨by rfl, by intro w hSw; clear hSw; go_simp⟩) (by assumption) ?_
    (try simp only [Act.put, List.setIfInBounds_toArray, List.set_cons_zero, List.set_cons_succ])
    refine wpAnyM_take (i := 4) (v := .agg #[.int .i64 h.se, .int .i32 h.xi, .int .i64 h.zx, .int .i64 h.ti, .int .i32 h.t.n.ty, .string h.t.n.path, slV h.t.d, slV h.t.a, .int .i64 h.t.n.ow, .int .i32 h.t.n.ve, .int .i32 h.t.n.cr, .bool h.t.n.qh, .int .i64 h.t.n.qc, .int .i64 h.t.n.qb, .int .i64 h.t.n.si, .int .i32 h.t.n.st, slV h.t.i, slV h.t.p, .int .i32 h.t.n.co, slV h.t.s, .int .i32 h.xi, .int .i64 h.zx, .int .i32 (-1), .int .i32 0, .int .i32 0, .string ⟨#[]⟩, .int .i64 0, .int .i64 0, .int .i64 0, .int .i64 0, .int .i32 0, .int .i32 0, .int .i32 0, .int .i64 0, .int .i32 0, .int .i32 0, .int .i64 0, .slice none 0 0, .slice none 0 0, .slice none 0 0, .int .i32 0, .int .i64 0, .int .i32 0, .slice none 0 0, .slice none 0 0]) rfl (by kernel_rfl) (fun _ _ _ h => h) (yieldsIf_load_mid (by rfl) 63 _ rfl V0.heap.size (0) rfl [.int .i64 h.se, .int .i32 h.xi, .int .i64 h.zx, .int .i64 h.ti, .int .i32 h.t.n.ty, .string h.t.n.path, slV h.t.d, slV h.t.a, .int .i64 h.t.n.ow, .int .i32 h.t.n.ve, .int .i32 h.t.n.cr, .bool h.t.n.qh, .int .i64 h.t.n.qc, .int .i64 h.t.n.qb, .int .i64 h.t.n.si, .int .i32 h.t.n.st, slV h.t.i, slV h.t.p, .int .i32 h.t.n.co, slV h.t.s, .int .i32 h.xi, .int .i64 h.zx, .int .i32 (-1), .int .i32 0, .int .i32 0, .string ⟨#[]⟩, .int .i64 0, .int .i64 0, .int .i64 0, .int .i64 0, .int .i32 0, .int .i32 0, .int .i32 0, .int .i64 0, .int .i32 0, .int .i32 0, .int .i64 0, .slice none 0 0, .slice none 0 0, .slice none 0 0, .int .i32 0, .int .i64 0, .int .i32 0, .slice none 0 0, .slice none 0 0] _ (fun _ h => h) undPr rfl infPr) (by assumption) ?_
    (try simp only [Act.put, List.setIfInBounds_toArray, List.set_cons_zero, List.set_cons_succ])
    have HSM := Lib.hid (dl_sm HD.out.2)
    have HDA := Lib.hid (fun (V : World) (hV : Below w.heap.size w V) => dl_at (DlAt.fr (R' := (· < w.heap.size)) HD.out.1 (Fr.of_below (own := []) hV) (fun b _ h => ⟨by simp, h⟩)))
    replace HFR := Lib.hid (And.intro HFR.out (HFR.out.push _ HSM.out))
    have HP := Lib.hid (pushW HTW.out.ha HTW.out.ia (HDA.out _ HTW.out.b) (HTW.out.env HE.out) HSM.out)
    refine wpAnyM_one (i := 2) rfl (by kernel_rfl) (fun K hK => ?_)
    go_simp
    refine HP.out.mono ?_
    rintro e w5 ⟨rfl, hs⟩
    dsimp only
    have hr : w5.rangeAt V0.heap.size 0 [.int .i64 h.se, .int .i32 h.xi, .int .i64 h.zx, .int .i64 h.ti, .int .i32 h.t.n.ty, .string h.t.n.path, slV h.t.d, slV h.t.a, .int .i64 h.t.n.ow, .int .i32 h.t.n.ve, .int .i32 h.t.n.cr, .bool h.t.n.qh, .int .i64 h.t.n.qc, .int .i64 h.t.n.qb, .int .i64 h.t.n.si, .int .i32 h.t.n.st, slV h.t.i, slV h.t.p, .int .i32 h.t.n.co, slV h.t.s, .int .i32 h.xi, .int .i64 h.zx, .int .i32 (-1), .int .i32 0, .int .i32 0, .string ⟨#[]⟩, .int .i64 0, .int .i64 0, .int .i64 0, .int .i64 0, .int .i32 0, .int .i32 0, .int .i32 0, .int .i64 0, .int .i32 0, .int .i32 0, .int .i64 0, .slice none 0 0, .slice none 0 0, .slice none 0 0, .int .i32 0, .int .i64 0, .int .i32 0, .slice none 0 0, .slice none 0 0] := fun i u hu => (hs.2.cell (p := ⟨V0.heap.size, 0 + i, none⟩) HSW.out HNX.out.1).trans (hHeld i u hu)
    refine hK.out _ _ hr ?_
    obtain ⟨xa2, Ra2, htw2⟩ := HTW.out.step hs HFR.out.2.2
    replace HSW := Lib.hid (Nat.lt_of_lt_of_le HSW.out hs.2.size)
    clear hK K HP HTW hs hHeld
    have HTW := Lib.hid htw2; clear htw2
    (try simp only [Act.put, List.setIfInBounds_toArray, List.set_cons_zero, List.set_cons_succ])
    have HP := Lib.hid (pushW HTW.out.hb HTW.out.ib (HDA.out _ HTW.out.b) (HTW.out.env HE.out) HSM.out)
    refine wpAnyM_one (i := 5) rfl (by kernel_rfl) (fun K hK => ?_)
    go_simp
    refine HP.out.mono ?_
    rintro e w6 ⟨rfl, hs⟩
    dsimp only
    have hr2 : w6.rangeAt V0.heap.size 0 [.int .i64 h.se, .int .i32 h.xi, .int .i64 h.zx, .int .i64 h.ti, .int .i32 h.t.n.ty, .string h.t.n.path, slV h.t.d, slV h.t.a, .int .i64 h.t.n.ow, .int .i32 h.t.n.ve, .int .i32 h.t.n.cr, .bool h.t.n.qh, .int .i64 h.t.n.qc, .int .i64 h.t.n.qb, .int .i64 h.t.n.si, .int .i32 h.t.n.st, slV h.t.i, slV h.t.p, .int .i32 h.t.n.co, slV h.t.s, .int .i32 h.xi, .int .i64 h.zx, .int .i32 (-1), .int .i32 0, .int .i32 0, .string ⟨#[]⟩, .int .i64 0, .int .i64 0, .int .i64 0, .int .i64 0, .int .i32 0, .int .i32 0, .int .i32 0, .int .i64 0, .int .i32 0, .int .i32 0, .int .i64 0, .slice none 0 0, .slice none 0 0, .slice none 0 0, .int .i32 0, .int .i64 0, .int .i32 0, .slice none 0 0, .slice none 0 0] := fun i u hu => (hs.2.cell (p := ⟨V0.heap.size, 0 + i, none⟩) HSW.out HNX.out.2).trans (hr i u hu)
    refine hK.out _ _ hr2 ?_
    obtain ⟨xb2, Rb2, htw2⟩ := HTW.out.stepB hs HFR.out.2.2
    clear hK K HP HTW hs hr HDA HSM
    have HTW := Lib.hid htw2; clear htw2
    generalize pushE st (dlT d) = pe at *
    (try simp only [Act.put, List.setIfInBounds_toArray, List.set_cons_zero, List.set_cons_succ])
    refine wpAnyM_one (i := 6) rfl (by kernel_rfl) (fun K hK => ?_)
    go_simp
    refine hK.out _ _ hr2 ?_
    clear hK K hr2
    (try simp only [Act.put, List.setIfInBounds_toArray, List.set_cons_zero, List.set_cons_succ])
    refine wpAnyM_tail (n := 7) (by kernel_rfl) ?_
    simp only [List.drop_succ_cons, List.drop_zero]
    go_wp2_with fail
    go_roundw
    case rel => exact ⟨j + 1, pushS st (dlT d), xa2, Ra2, xb2, Rb2, by go_num, by omega, HFR.out.2, HTW.out⟩
    case measure => simp [intOf]; omega
  · obtain rfl : j = n0 := by omega
    go_wp2_with fail
    go_loopw [15, 16, 17, 18] (fun ch i _ _ wq => ∃ k : Nat, i = .int .i64 ↑k ∧ k ≤ n1 ∧ ch = .int .i64 ((rdN (vcF st l1 k) : Int) - rdN st) ∧ TwoQ w wq ba bb (vcF st l1 k) st) (fun _ i _ _ _ => n1 - (intOf i).toNat)
    case atStart => exact ⟨0, rfl, Nat.zero_le _, by rw [vcF_zero, Int.sub_self], ⟨_, _, _, _, HTW.out⟩⟩
    case round =>
    clear HTW
    obtain ⟨k, rfl, hk, rfl, htq⟩ := hrel
    by_cases hlk : k < n1
    · have ⟨b, off, eb, hbl, hcb⟩ := HO1.out.cells hlk
      have HCV := Lib.hid (show ∀ V : World, Below w.heap.size w V → V.cell? ⟨b, off + k * 2, none⟩ = some (.int .i64 l1[k]!.1) ∧ V.cell? ⟨b, off + k * 2 + 1, none⟩ = some (.int .i64 l1[k]!.2) from fun V hV => ⟨keep1 (hcb 0 _ rfl) hV, keep1 (hcb 1 _ rfl) hV⟩)
      have hki : (k : Int) < (n1 : Int) := by omega
      have hk0 : (0 : Int) ≤ (k : Int) := by omega
      clear hcb hbl
      have HVS := Lib.hid (vcF_succ st l1 k (by have := HL1.out; omega))
      have HRI := Lib.hid (And.intro (vcF_rise HFR.out.2 l1 k (by have := HL1.out; omega)) (And.intro (by rw [← vcF_succ st l1 k (by have := HL1.out; omega)]; exact rdN_ack (vcF_inv HFR.out.2 l1 k (by have := HL1.out; omega)) _ _ : rdN (vcF st l1 k) ≤ rdN (vcF st l1 (k + 1))) (rdN_max (vcF_inv HFR.out.2 l1 (k + 1) (by have := HL1.out; omega)))))
      generalize l1[k]!.1 = vv at *
      generalize l1[k]!.2 = zz at *
      subst eb
      go_wp2_with fail
      obtain ⟨xa, Ra, xb, Rb, htw⟩ := htq
      have HTW := Lib.hid (htw.later (drew_self _)); clear htw
      refine wp_region_M (S := fun V => V.cell? ⟨b, off + k * 2, none⟩ = some (.int .i64 vv) ∧ V.cell? ⟨b, off + k * 2 + 1, none⟩ = some (.int .i64 zz)) 17 (by kernel_rfl) (HCV.out _ HTW.out.b) (fun hHeld => ?_)
      generalize wr.drew = V0 at *
      refine wpAnyM_take (i := 0) (v := .pointer (some ⟨ba, 0, none⟩)) rfl (by kernel_rfl) (fun _ _ _ h => h) (Or.inl ⟨by rfl, by intro w hSw; clear hSw; go_simp⟩) (by assumption) ?_
      (try simp only [Act.put, List.setIfInBounds_toArray, List.set_cons_zero, List.set_cons_succ])
      refine wpAnyM_take (i := 1) (v := .slice (some ⟨b, off, none⟩) n1 c1) rfl (by kernel_rfl) (fun _ _ _ h => h) (Or.inl ⟨by rfl, by intro w hSw; clear hSw; go_simp⟩) (by assumption) ?_
      (try simp only [Act.put, List.setIfInBounds_toArray, List.set_cons_zero, List.set_cons_succ])
      refine wpAnyM_take (i := 2) (v := .int .i64 ↑k) rfl (by kernel_rfl) (fun _ _ _ h => h) (Or.inl ⟨by rfl, by intro w hSw; clear hSw; go_simp⟩) (by assumption) ?_
      (try simp only [Act.put, List.setIfInBounds_toArray, List.set_cons_zero, List.set_cons_succ])
      refine wpAnyM_take (i := 3) (v := .pointer (some ⟨b, off + k * 2, none⟩)) rfl (by kernel_rfl) (fun _ _ _ h => h) (Or.inl ⟨by rfl, by intro w hSw; clear hSw; go_simp⟩) (by assumption) ?_
      (try simp only [Act.put, List.setIfInBounds_toArray, List.set_cons_zero, List.set_cons_succ])
      refine wpAnyM_take (i := 4) (v := .pointer (some ⟨b, off + k * 2, none⟩)) rfl (by kernel_rfl) (fun _ _ _ h => h) (Or.inl ⟨by rfl, by intro w hSw; clear hSw; go_simp⟩) (by assumption) ?_
      (try simp only [Act.put, List.setIfInBounds_toArray, List.set_cons_zero, List.set_cons_succ])
      refine wpAnyM_take (i := 5) (v := .int .i64 vv) rfl (by kernel_rfl) (fun _ _ _ h => h) (Or.inl ⟨by rfl, by intro w hSw; obtain ⟨hSw, -⟩ := hSw; go_simp⟩) (by assumption) ?_
      (try simp only [Act.put, List.setIfInBounds_toArray, List.set_cons_zero, List.set_cons_succ])
      refine wpAnyM_take (i := 6) (v := .slice (some ⟨b, off, none⟩) n1 c1) rfl (by kernel_rfl) (fun _ _ _ h => h) (Or.inl ⟨by rfl, by intro w hSw; clear hSw; go_simp⟩) (by assumption) ?_
      (try simp only [Act.put, List.setIfInBounds_toArray, List.set_cons_zero, List.set_cons_succ])
      refine wpAnyM_take (i := 7) (v := .int .i64 ↑k) rfl (by kernel_rfl) (fun _ _ _ h => h) (Or.inl ⟨by rfl, by intro w hSw; clear hSw; go_simp⟩) (by assumption) ?_
      (try simp only [Act.put, List.setIfInBounds_toArray, List.set_cons_zero, List.set_cons_succ])
      refine wpAnyM_take (i := 8) (v := .pointer (some ⟨b, off + k * 2, none⟩)) rfl (by kernel_rfl) (fun _ _ _ h => h) (Or.inl ⟨by rfl, by intro w hSw; clear hSw; go_simp⟩) (by assumption) ?_
      (try simp only [Act.put, List.setIfInBounds_toArray, List.set_cons_zero, List.set_cons_succ])
      refine wpAnyM_take (i := 9) (v := .pointer (some ⟨b, off + k * 2 + 1, none⟩)) rfl (by kernel_rfl) (fun _ _ _ h => h) (Or.inl ⟨by rfl, by intro w hSw; clear hSw; go_simp⟩) (by assumption) ?_
      (try simp only [Act.put, List.setIfInBounds_toArray, List.set_cons_zero, List.set_cons_succ])
      refine wpAnyM_take (i := 10) (v := .int .i64 zz) rfl (by kernel_rfl) (fun _ _ _ h => h) (Or.inl ⟨by rfl, by intro w hSw; obtain ⟨-, hSw⟩ := hSw; go_simp⟩) (by assumption) ?_
      (try simp only [Act.put, List.setIfInBounds_toArray, List.set_cons_zero, List.set_cons_succ])
      have HP := Lib.hid (ackW vv zz HTW.out.ha HTW.out.ia)
      unfold AckW at HP
      rw [HVS.out] at HP
      refine wpAnyM_one (i := 11) rfl (by kernel_rfl) (fun K hK => ?_)
      go_simp
      refine HP.out.mono ?_
      rintro e w5 ⟨rfl, hs⟩
      dsimp only
      obtain ⟨xa2, Ra2, htw2⟩ := HTW.out.step hs (vcF_inv HFR.out.2 l1 (k + 1) (by have := HL1.out; omega))
      refine hK.out _ _ (HCV.out _ htw2.b) ?_
      clear hK K HP HTW hs hHeld
      replace hHeld := HCV.out _ htw2.b
      have HTW := Lib.hid htw2; clear htw2
      (try simp only [Act.put, List.setIfInBounds_toArray, List.set_cons_zero, List.set_cons_succ])
      have hb0 : decide ((rdN (vcF st l1 (k + 1)) : Int) - rdN (vcF st l1 k) < 0) = false := decide_eq_false (by have := HRI.out; omega)
      refine wpAnyM_take (i := 12) (v := .tuple #[.int .i64 ((rdN (vcF st l1 (k + 1)) : Int) - rdN (vcF st l1 k)), .int .i64 (ackC (vcF st l1 k) vv zz)]) rfl (by kernel_rfl) (fun _ _ _ h => h) (Or.inl ⟨by rfl, by intro w hSw; clear hSw; go_simp⟩) (by assumption) ?_
      (try simp only [Act.put, List.setIfInBounds_toArray, List.set_cons_zero, List.set_cons_succ])
      refine wpAnyM_take (i := 13) (v := .int .i64 ((rdN (vcF st l1 (k + 1)) : Int) - rdN (vcF st l1 k))) rfl (by kernel_rfl) (fun _ _ _ h => h) (Or.inl ⟨by rfl, by intro w hSw; clear hSw; go_simp⟩) (by assumption) ?_
      (try simp only [Act.put, List.setIfInBounds_toArray, List.set_cons_zero, List.set_cons_succ])
      refine wpAnyM_take (i := 14) (v := .int .i64 (ackC (vcF st l1 k) vv zz)) rfl (by kernel_rfl) (fun _ _ _ h => h) (Or.inl ⟨by rfl, by intro w hSw; clear hSw; go_simp⟩) (by assumption) ?_
      (try simp only [Act.put, List.setIfInBounds_toArray, List.set_cons_zero, List.set_cons_succ])
      refine wpAnyM_take (i := 15) (v := .int .i64 ((rdN (vcF st l1 (k + 1)) : Int) - rdN (vcF st l1 k))) rfl (by kernel_rfl) (fun _ _ _ h => h) (Or.inl ⟨by rfl, by intro w hSw; clear hSw; go_simp⟩) (by assumption) ?_
      (try simp only [Act.put, List.setIfInBounds_toArray, List.set_cons_zero, List.set_cons_succ])
      refine wpAnyM_take (i := 16) (v := .int .i64 (ackC (vcF st l1 k) vv zz)) rfl (by kernel_rfl) (fun _ _ _ h => h) (Or.inl ⟨by rfl, by intro w hSw; clear hSw; go_simp⟩) (by assumption) ?_
      (try simp only [Act.put, List.setIfInBounds_toArray, List.set_cons_zero, List.set_cons_succ])
      refine wpAnyM_tail (n := 17) (by kernel_rfl) ?_
      simp only [List.drop_succ_cons, List.drop_zero]
      go_wp2_with fail
      go_roundw
      case rel =>
        refine ⟨k + 1, by go_num, by omega, ?_, ⟨_, _, _, _, HTW.out⟩⟩
        have hri := HRI.out
        generalize rdN (vcF st l1 (k + 1)) = a2 at *
        generalize rdN (vcF st l1 k) = a1 at *
        generalize rdN st = a0 at *
        rw [show (a1 : Int) - a0 + (a2 - a1) = (a2 : Int) - a0 by omega]
        rw [show wrap64 ((a2 : Int) - a0) = (a2 : Int) - a0 from by unfold wrap64; omega]
      case measure => simp [intOf]; omega
    · obtain rfl : k = n1 := by omega
      have hend : vcB st l1 k = st := by have h := vcB_end st l1; rw [HL1.out] at h; exact h
      go_wp2_with fail
      go_loopw [19] (fun i wq => ∃ (z : Int) (m : Nat), i = .int .i64 z ∧ z + 1 = (m : Int) ∧ m ≤ k ∧ TwoQ w wq ba bb (vcF st l1 k) (vcB st l1 m)) (fun i _ => (intOf i + 1).toNat)
      case atStart => exact ⟨(k : Int) - 1, k, by go_num, by omega, Nat.le_refl _, by rw [hend]; exact htq⟩
      case round =>
      clear htq hend
      obtain ⟨z, m, rfl, hz, hm, htq⟩ := hrel
      by_cases hz0 : 0 ≤ z
      · obtain ⟨i, rfl⟩ : ∃ i : Nat, z = (i : Int) := ⟨z.toNat, by omega⟩
        obtain rfl : m = i + 1 := by omega
        have hlk : i < k := by omega
        have ⟨b, off, eb, hbl, hcb⟩ := HO1.out.cells hlk
        have HCV := Lib.hid (show ∀ V : World, Below w.heap.size w V → V.cell? ⟨b, off + i * 2, none⟩ = some (.int .i64 l1[i]!.1) ∧ V.cell? ⟨b, off + i * 2 + 1, none⟩ = some (.int .i64 l1[i]!.2) from fun V hV => ⟨keep1 (hcb 0 _ rfl) hV, keep1 (hcb 1 _ rfl) hV⟩)
        have hki : (i : Int) < (k : Int) := by omega
        have hk0 : (0 : Int) ≤ (i : Int) := by omega
        clear hcb hbl
        have HVS := Lib.hid (vcB_succ st l1 i (by have := HL1.out; omega))
        generalize l1[i]!.1 = vv at *
        generalize l1[i]!.2 = zz at *
        subst eb
        go_wp2_with fail
        obtain ⟨xa, Ra, xb, Rb, htw⟩ := htq
        have HTW := Lib.hid (htw.later (drew_self _)); clear htw
        refine wp_region_M (S := fun V => V.cell? ⟨b, off + i * 2, none⟩ = some (.int .i64 vv) ∧ V.cell? ⟨b, off + i * 2 + 1, none⟩ = some (.int .i64 zz)) 12 (by kernel_rfl) (HCV.out _ HTW.out.b) (fun hHeld => ?_)
        generalize wr.drew = V0 at *
        refine wpAnyM_take (i := 0) (v := .pointer (some ⟨bb, 0, none⟩)) rfl (by kernel_rfl) (fun _ _ _ h => h) (Or.inl ⟨by rfl, by intro w hSw; clear hSw; go_simp⟩) (by assumption) ?_
        (try simp only [Act.put, List.setIfInBounds_toArray, List.set_cons_zero, List.set_cons_succ])
        refine wpAnyM_take (i := 1) (v := .slice (some ⟨b, off, none⟩) k c1) rfl (by kernel_rfl) (fun _ _ _ h => h) (Or.inl ⟨by rfl, by intro w hSw; clear hSw; go_simp⟩) (by assumption) ?_
        (try simp only [Act.put, List.setIfInBounds_toArray, List.set_cons_zero, List.set_cons_succ])
        refine wpAnyM_take (i := 2) (v := .int .i64 ↑i) rfl (by kernel_rfl) (fun _ _ _ h => h) (Or.inl ⟨by rfl, by intro w hSw; clear hSw; go_simp⟩) (by assumption) ?_
        (try simp only [Act.put, List.setIfInBounds_toArray, List.set_cons_zero, List.set_cons_succ])
        refine wpAnyM_take (i := 3) (v := .pointer (some ⟨b, off + i * 2, none⟩)) rfl (by kernel_rfl) (fun _ _ _ h => h) (Or.inl ⟨by rfl, by intro w hSw; clear hSw; go_simp⟩) (by assumption) ?_
        (try simp only [Act.put, List.setIfInBounds_toArray, List.set_cons_zero, List.set_cons_succ])
        refine wpAnyM_take (i := 4) (v := .pointer (some ⟨b, off + i * 2, none⟩)) rfl (by kernel_rfl) (fun _ _ _ h => h) (Or.inl ⟨by rfl, by intro w hSw; clear hSw; go_simp⟩) (by assumption) ?_
        (try simp only [Act.put, List.setIfInBounds_toArray, List.set_cons_zero, List.set_cons_succ])
        refine wpAnyM_take (i := 5) (v := .int .i64 vv) rfl (by kernel_rfl) (fun _ _ _ h => h) (Or.inl ⟨by rfl, by intro w hSw; obtain ⟨hSw, -⟩ := hSw; go_simp⟩) (by assumption) ?_
        (try simp only [Act.put, List.setIfInBounds_toArray, List.set_cons_zero, List.set_cons_succ])
        refine wpAnyM_take (i := 6) (v := .slice (some ⟨b, off, none⟩) k c1) rfl (by kernel_rfl) (fun _ _ _ h => h) (Or.inl ⟨by rfl, by intro w hSw; clear hSw; go_simp⟩) (by assumption) ?_
        (try simp only [Act.put, List.setIfInBounds_toArray, List.set_cons_zero, List.set_cons_succ])
        refine wpAnyM_take (i := 7) (v := .int .i64 ↑i) rfl (by kernel_rfl) (fun _ _ _ h => h) (Or.inl ⟨by rfl, by intro w hSw; clear hSw; go_simp⟩) (by assumption) ?_
        (try simp only [Act.put, List.setIfInBounds_toArray, List.set_cons_zero, List.set_cons_succ])
        refine wpAnyM_take (i := 8) (v := .pointer (some ⟨b, off + i * 2, none⟩)) rfl (by kernel_rfl) (fun _ _ _ h => h) (Or.inl ⟨by rfl, by intro w hSw; clear hSw; go_simp⟩) (by assumption) ?_
        (try simp only [Act.put, List.setIfInBounds_toArray, List.set_cons_zero, List.set_cons_succ])
        refine wpAnyM_take (i := 9) (v := .pointer (some ⟨b, off + i * 2 + 1, none⟩)) rfl (by kernel_rfl) (fun _ _ _ h => h) (Or.inl ⟨by rfl, by intro w hSw; clear hSw; go_simp⟩) (by assumption) ?_
        (try simp only [Act.put, List.setIfInBounds_toArray, List.set_cons_zero, List.set_cons_succ])
        refine wpAnyM_take (i := 10) (v := .int .i64 zz) rfl (by kernel_rfl) (fun _ _ _ h => h) (Or.inl ⟨by rfl, by intro w hSw; obtain ⟨-, hSw⟩ := hSw; go_simp⟩) (by assumption) ?_
        (try simp only [Act.put, List.setIfInBounds_toArray, List.set_cons_zero, List.set_cons_succ])
        have HP := Lib.hid (ackW vv zz HTW.out.hb HTW.out.ib)
        have hinv := ackT_inv HTW.out.ib vv zz
        unfold AckW at HP
        rw [HVS.out] at HP hinv
        refine wpAnyM_one (i := 11) rfl (by kernel_rfl) (fun K hK => ?_)
        go_simp
        refine HP.out.mono ?_
        rintro e w5 ⟨rfl, hs⟩
        dsimp only
        obtain ⟨xb2, Rb2, htw2⟩ := HTW.out.stepB hs hinv
        refine hK.out _ _ (HCV.out _ htw2.b) ?_
        clear hK K HP HTW hs hHeld hinv
        have HTW := Lib.hid htw2; clear htw2
        (try simp only [Act.put, List.setIfInBounds_toArray, List.set_cons_zero, List.set_cons_succ])
        refine wpAnyM_tail (n := 12) (by kernel_rfl) ?_
        simp only [List.drop_succ_cons, List.drop_zero]
        go_wp2_with fail
        go_roundw
        case rel => exact ⟨(i : Int) - 1, i, by go_num, by omega, by omega, ⟨_, _, _, _, HTW.out⟩⟩
        case measure => simp [intOf] <;> omega
      · obtain rfl : z = -1 := by omega
        obtain rfl : m = 0 := by omega
        rw [show vcB st l1 0 = vcF st l1 k from by rw [vcF_vcB, HL1.out]] at htq
        have HRZ := Lib.hid (fun h : 0 < v => HFR.out.zero h)
        generalize vcF st l1 k = sF at *
        obtain ⟨xa, Ra, xb, Rb, htw⟩ := htq
        have HTW := Lib.hid htw; clear htw
        generalize hN : rdN sF = N at *
        have HN := Lib.hid hN; clear hN
        have HR := Lib.hid (readyW HTW.out.ha HTW.out.ia)
        rw [HN.out] at HR
        go_wp2_with fail
        refine HR.out.mono ?_
        rintro e w5 ⟨rfl, hb⟩
        replace HTW := Lib.hid (HTW.out.later hb); clear hb HR
        have HR := Lib.hid (readyW HTW.out.hb HTW.out.ib)
        rw [HN.out] at HR
        go_wp2_with fail
        refine HR.out.mono ?_
        rintro e w6 ⟨rfl, hb⟩
        replace HTW := Lib.hid (HTW.out.later hb); clear hb HR
        by_cases hv : 0 < v
        · have hst := HRZ.out hv
          rw [hst, show ((N : Int) - ((0 : Nat) : Int)) = (N : Int) by omega]
          have bv : decide (0 < v) = true := decide_eq_true hv
          have HR := Lib.hid (readyW HTW.out.ha HTW.out.ia)
          rw [HN.out] at HR
          clear HRZ hst hv
          go_wp2_with fail
          refine HR.out.mono ?_
          rintro e w7 ⟨rfl, hb⟩
          replace HTW := Lib.hid (HTW.out.later hb); clear hb HR
          have HR := Lib.hid (readyW HTW.out.ha HTW.out.ia)
          rw [HN.out] at HR
          go_wp2_with fail
          refine HR.out.mono ?_
          rintro e w8 ⟨rfl, hb⟩
          replace HTW := Lib.hid (HTW.out.later hb); clear hb HR
          have HN4 := Lib.hid (show N ≤ 4096 by have := rdN_max HTW.out.ia; rw [HN.out] at this; exact this)
          go_wp2_with fail
          go_loopw [21, 22, 23, 24, 25] (fun i _ _ _ _ wq => ∃ (q : Nat) (st' : QuT), i = .int .i64 ↑q ∧ q + rdN st' = N ∧ TwoQ w wq ba bb st' st') (fun i _ _ _ _ _ => N - (intOf i).toNat)
          case atStart => exact ⟨0, sF, rfl, by have := HN.out; omega, ⟨_, _, _, _, HTW.out⟩⟩
          case round =>
          clear HTW xa Ra xb Rb
          obtain ⟨q, st', rfl, hq, xa, Ra, xb, Rb, htw⟩ := hrel
          have HTW := Lib.hid htw; clear htw
          by_cases hlq : 0 < rdN st'
          · have hqi : (q : Int) < (N : Int) := by omega
            have bq : decide (q < N) = true := decide_eq_true (by omega)
            have hn4 := HN4.out
            have HRD := Lib.hid (rdN_comm hlq)
            have HC := Lib.hid (commW HTW.out.ha HTW.out.ia)
            unfold CommW at HC
            rw [decide_eq_true hlq] at HC
            go_wp2_with fail
            refine HC.out.mono ?_
            rintro e w9 ⟨⟨hh, rfl, hz1, hz2⟩, hs⟩
            have HZ := Lib.hid (commZ (fun h => ⟨_, hz1 h⟩) hz2)
            obtain ⟨xa2, Ra2, htw⟩ := HTW.out.step hs (commT_inv HTW.out.ia)
            have HNX := Lib.hid (htw.beyond (Nat.le_refl _))
            have HG := Lib.hid (heap_s0 w9 (.cells #[.int .i64 hh.d.se, .int .i32 hh.d.xi, .int .i64 hh.d.zx, .int .i64 hh.d.ti, .int .i32 hh.d.t.n.ty, .string hh.d.t.n.path, slV hh.d.t.d, slV hh.d.t.a, .int .i64 hh.d.t.n.ow, .int .i32 hh.d.t.n.ve, .int .i32 hh.d.t.n.cr, .bool hh.d.t.n.qh, .int .i64 hh.d.t.n.qc, .int .i64 hh.d.t.n.qb, .int .i64 hh.d.t.n.si, .int .i32 hh.d.t.n.st, slV hh.d.t.i, slV hh.d.t.p, .int .i32 hh.d.t.n.co, slV hh.d.t.s, .int .i32 hh.r.xi, .int .i64 hh.r.zx, .int .i32 hh.r.co, .int .i32 hh.r.r.n.ty, .int .i32 hh.r.r.n.co, .string hh.r.r.n.path, .int .i64 hh.r.r.n.q.a, .int .i64 hh.r.r.n.q.b, .int .i64 hh.r.r.n.q.c, .int .i64 hh.r.r.n.q.d, .int .i32 hh.r.r.n.q.e, .int .i32 hh.r.r.n.q.f, .int .i32 hh.r.r.n.q.g, .int .i64 hh.r.r.n.q.h, .int .i32 hh.r.r.n.q.i, .int .i32 hh.r.r.n.q.j, .int .i64 hh.r.r.n.q.k, slV hh.r.r.d, slV hh.r.r.a, slV hh.r.r.m, .int .i32 hh.r.r.n.ct, .int .i64 hh.r.r.n.si, .int .i32 hh.r.r.n.st, slV hh.r.r.i, slV hh.r.r.s] 63))
            have HS := Lib.hid (sz1 w9 (.cells #[.int .i64 hh.d.se, .int .i32 hh.d.xi, .int .i64 hh.d.zx, .int .i64 hh.d.ti, .int .i32 hh.d.t.n.ty, .string hh.d.t.n.path, slV hh.d.t.d, slV hh.d.t.a, .int .i64 hh.d.t.n.ow, .int .i32 hh.d.t.n.ve, .int .i32 hh.d.t.n.cr, .bool hh.d.t.n.qh, .int .i64 hh.d.t.n.qc, .int .i64 hh.d.t.n.qb, .int .i64 hh.d.t.n.si, .int .i32 hh.d.t.n.st, slV hh.d.t.i, slV hh.d.t.p, .int .i32 hh.d.t.n.co, slV hh.d.t.s, .int .i32 hh.r.xi, .int .i64 hh.r.zx, .int .i32 hh.r.co, .int .i32 hh.r.r.n.ty, .int .i32 hh.r.r.n.co, .string hh.r.r.n.path, .int .i64 hh.r.r.n.q.a, .int .i64 hh.r.r.n.q.b, .int .i64 hh.r.r.n.q.c, .int .i64 hh.r.r.n.q.d, .int .i32 hh.r.r.n.q.e, .int .i32 hh.r.r.n.q.f, .int .i32 hh.r.r.n.q.g, .int .i64 hh.r.r.n.q.h, .int .i32 hh.r.r.n.q.i, .int .i32 hh.r.r.n.q.j, .int .i64 hh.r.r.n.q.k, slV hh.r.r.d, slV hh.r.r.a, slV hh.r.r.m, .int .i32 hh.r.r.n.ct, .int .i64 hh.r.r.n.si, .int .i32 hh.r.r.n.st, slV hh.r.r.i, slV hh.r.r.s] 63))
            clear HTW HC hs hz1 hz2
            have HTW := Lib.hid (htw.later (show Below w9.heap.size w9 (w9.alloc (.cells #[.int .i64 hh.d.se, .int .i32 hh.d.xi, .int .i64 hh.d.zx, .int .i64 hh.d.ti, .int .i32 hh.d.t.n.ty, .string hh.d.t.n.path, slV hh.d.t.d, slV hh.d.t.a, .int .i64 hh.d.t.n.ow, .int .i32 hh.d.t.n.ve, .int .i32 hh.d.t.n.cr, .bool hh.d.t.n.qh, .int .i64 hh.d.t.n.qc, .int .i64 hh.d.t.n.qb, .int .i64 hh.d.t.n.si, .int .i32 hh.d.t.n.st, slV hh.d.t.i, slV hh.d.t.p, .int .i32 hh.d.t.n.co, slV hh.d.t.s, .int .i32 hh.r.xi, .int .i64 hh.r.zx, .int .i32 hh.r.co, .int .i32 hh.r.r.n.ty, .int .i32 hh.r.r.n.co, .string hh.r.r.n.path, .int .i64 hh.r.r.n.q.a, .int .i64 hh.r.r.n.q.b, .int .i64 hh.r.r.n.q.c, .int .i64 hh.r.r.n.q.d, .int .i32 hh.r.r.n.q.e, .int .i32 hh.r.r.n.q.f, .int .i32 hh.r.r.n.q.g, .int .i64 hh.r.r.n.q.h, .int .i32 hh.r.r.n.q.i, .int .i32 hh.r.r.n.q.j, .int .i64 hh.r.r.n.q.k, slV hh.r.r.d, slV hh.r.r.a, slV hh.r.r.m, .int .i32 hh.r.r.n.ct, .int .i64 hh.r.r.n.si, .int .i32 hh.r.r.n.st, slV hh.r.r.i, slV hh.r.r.s] 63)) from (Below.refl _ w9).alloc (Nat.le_refl _) _))
            clear htw
            go_upto_region 34 with (apply wpList_storeTop 63 63; exact rfl; exact rfl; exact rfl; (first | (with_reducible rfl) | (exact sz1 _ _) | (exact sz2 _ _ _) | (exact sz3 _ _ _ _)); exact rfl; exact infPr; exact rfl; (first | exact onePr _ | simp [Value.oneCell']))
            generalize w9.alloc (.cells #[.int .i64 hh.d.se, .int .i32 hh.d.xi, .int .i64 hh.d.zx, .int .i64 hh.d.ti, .int .i32 hh.d.t.n.ty, .string hh.d.t.n.path, slV hh.d.t.d, slV hh.d.t.a, .int .i64 hh.d.t.n.ow, .int .i32 hh.d.t.n.ve, .int .i32 hh.d.t.n.cr, .bool hh.d.t.n.qh, .int .i64 hh.d.t.n.qc, .int .i64 hh.d.t.n.qb, .int .i64 hh.d.t.n.si, .int .i32 hh.d.t.n.st, slV hh.d.t.i, slV hh.d.t.p, .int .i32 hh.d.t.n.co, slV hh.d.t.s, .int .i32 hh.r.xi, .int .i64 hh.r.zx, .int .i32 hh.r.co, .int .i32 hh.r.r.n.ty, .int .i32 hh.r.r.n.co, .string hh.r.r.n.path, .int .i64 hh.r.r.n.q.a, .int .i64 hh.r.r.n.q.b, .int .i64 hh.r.r.n.q.c, .int .i64 hh.r.r.n.q.d, .int .i32 hh.r.r.n.q.e, .int .i32 hh.r.r.n.q.f, .int .i32 hh.r.r.n.q.g, .int .i64 hh.r.r.n.q.h, .int .i32 hh.r.r.n.q.i, .int .i32 hh.r.r.n.q.j, .int .i64 hh.r.r.n.q.k, slV hh.r.r.d, slV hh.r.r.a, slV hh.r.r.m, .int .i32 hh.r.r.n.ct, .int .i64 hh.r.r.n.si, .int .i32 hh.r.r.n.st, slV hh.r.r.i, slV hh.r.r.s] 63) = W at *
            have HC := Lib.hid (commW HTW.out.hb HTW.out.ib)
            unfold CommW at HC
            rw [decide_eq_true hlq] at HC
            go_wp2_with fail
            refine HC.out.mono ?_
            rintro e w10 ⟨⟨h2, rfl, hz1, hz2⟩, hs⟩
            have hc1 : w10.cell? ⟨w9.heap.size, 2, none⟩ = some (.int .i64 (comZ st')) := by
              rw [hs.2.cell (p := ⟨w9.heap.size, 2, none⟩) (by have := HS.out; show w9.heap.size < W.heap.size; omega) HNX.out.2, cellH HG.out, ← HZ.out]; rfl
            have HZ2 := Lib.hid (commZ (fun h => ⟨_, hz1 h⟩) hz2)
            obtain ⟨xb2, Rb2, htw⟩ := HTW.out.stepB hs (commT_inv HTW.out.ib)
            have HG2 := Lib.hid (heap_s0 w10 (.cells #[.int .i64 h2.d.se, .int .i32 h2.d.xi, .int .i64 h2.d.zx, .int .i64 h2.d.ti, .int .i32 h2.d.t.n.ty, .string h2.d.t.n.path, slV h2.d.t.d, slV h2.d.t.a, .int .i64 h2.d.t.n.ow, .int .i32 h2.d.t.n.ve, .int .i32 h2.d.t.n.cr, .bool h2.d.t.n.qh, .int .i64 h2.d.t.n.qc, .int .i64 h2.d.t.n.qb, .int .i64 h2.d.t.n.si, .int .i32 h2.d.t.n.st, slV h2.d.t.i, slV h2.d.t.p, .int .i32 h2.d.t.n.co, slV h2.d.t.s, .int .i32 h2.r.xi, .int .i64 h2.r.zx, .int .i32 h2.r.co, .int .i32 h2.r.r.n.ty, .int .i32 h2.r.r.n.co, .string h2.r.r.n.path, .int .i64 h2.r.r.n.q.a, .int .i64 h2.r.r.n.q.b, .int .i64 h2.r.r.n.q.c, .int .i64 h2.r.r.n.q.d, .int .i32 h2.r.r.n.q.e, .int .i32 h2.r.r.n.q.f, .int .i32 h2.r.r.n.q.g, .int .i64 h2.r.r.n.q.h, .int .i32 h2.r.r.n.q.i, .int .i32 h2.r.r.n.q.j, .int .i64 h2.r.r.n.q.k, slV h2.r.r.d, slV h2.r.r.a, slV h2.r.r.m, .int .i32 h2.r.r.n.ct, .int .i64 h2.r.r.n.si, .int .i32 h2.r.r.n.st, slV h2.r.r.i, slV h2.r.r.s] 63))
            have hb2 : Below w10.heap.size w10 (w10.alloc (.cells #[.int .i64 h2.d.se, .int .i32 h2.d.xi, .int .i64 h2.d.zx, .int .i64 h2.d.ti, .int .i32 h2.d.t.n.ty, .string h2.d.t.n.path, slV h2.d.t.d, slV h2.d.t.a, .int .i64 h2.d.t.n.ow, .int .i32 h2.d.t.n.ve, .int .i32 h2.d.t.n.cr, .bool h2.d.t.n.qh, .int .i64 h2.d.t.n.qc, .int .i64 h2.d.t.n.qb, .int .i64 h2.d.t.n.si, .int .i32 h2.d.t.n.st, slV h2.d.t.i, slV h2.d.t.p, .int .i32 h2.d.t.n.co, slV h2.d.t.s, .int .i32 h2.r.xi, .int .i64 h2.r.zx, .int .i32 h2.r.co, .int .i32 h2.r.r.n.ty, .int .i32 h2.r.r.n.co, .string h2.r.r.n.path, .int .i64 h2.r.r.n.q.a, .int .i64 h2.r.r.n.q.b, .int .i64 h2.r.r.n.q.c, .int .i64 h2.r.r.n.q.d, .int .i32 h2.r.r.n.q.e, .int .i32 h2.r.r.n.q.f, .int .i32 h2.r.r.n.q.g, .int .i64 h2.r.r.n.q.h, .int .i32 h2.r.r.n.q.i, .int .i32 h2.r.r.n.q.j, .int .i64 h2.r.r.n.q.k, slV h2.r.r.d, slV h2.r.r.a, slV h2.r.r.m, .int .i32 h2.r.r.n.ct, .int .i64 h2.r.r.n.si, .int .i32 h2.r.r.n.st, slV h2.r.r.i, slV h2.r.r.s] 63)) := (Below.refl _ w10).alloc (Nat.le_refl _) _
            have hd1 := keep1 hc1 hb2
            clear HTW HC hs hz1 hz2 hc1 HG HS HNX
            have HTW := Lib.hid (htw.later hb2)
            clear htw hb2
            go_upto_region 35 with (apply wpList_storeTop 63 63; exact rfl; exact rfl; exact rfl; (first | (with_reducible rfl) | (exact sz1 _ _) | (exact sz2 _ _ _) | (exact sz3 _ _ _ _)); exact rfl; exact infPr; exact rfl; (first | exact onePr _ | simp [Value.oneCell']))
            generalize w10.alloc (.cells #[.int .i64 h2.d.se, .int .i32 h2.d.xi, .int .i64 h2.d.zx, .int .i64 h2.d.ti, .int .i32 h2.d.t.n.ty, .string h2.d.t.n.path, slV h2.d.t.d, slV h2.d.t.a, .int .i64 h2.d.t.n.ow, .int .i32 h2.d.t.n.ve, .int .i32 h2.d.t.n.cr, .bool h2.d.t.n.qh, .int .i64 h2.d.t.n.qc, .int .i64 h2.d.t.n.qb, .int .i64 h2.d.t.n.si, .int .i32 h2.d.t.n.st, slV h2.d.t.i, slV h2.d.t.p, .int .i32 h2.d.t.n.co, slV h2.d.t.s, .int .i32 h2.r.xi, .int .i64 h2.r.zx, .int .i32 h2.r.co, .int .i32 h2.r.r.n.ty, .int .i32 h2.r.r.n.co, .string h2.r.r.n.path, .int .i64 h2.r.r.n.q.a, .int .i64 h2.r.r.n.q.b, .int .i64 h2.r.r.n.q.c, .int .i64 h2.r.r.n.q.d, .int .i32 h2.r.r.n.q.e, .int .i32 h2.r.r.n.q.f, .int .i32 h2.r.r.n.q.g, .int .i64 h2.r.r.n.q.h, .int .i32 h2.r.r.n.q.i, .int .i32 h2.r.r.n.q.j, .int .i64 h2.r.r.n.q.k, slV h2.r.r.d, slV h2.r.r.a, slV h2.r.r.m, .int .i32 h2.r.r.n.ct, .int .i64 h2.r.r.n.si, .int .i32 h2.r.r.n.st, slV h2.r.r.i, slV h2.r.r.s] 63) = W2 at *
            have hd2 : W2.cell? ⟨w10.heap.size, 2, none⟩ = some (.int .i64 (comZ st')) := by
              rw [cellH HG2.out, ← HZ2.out]; rfl
            generalize comZ st' = cz at *
            clear HZ HZ2 HG2
            go_wp2_with fail
            go_roundw
            case rel => exact ⟨q + 1, commT st', by go_num, by have := HRD.out; omega, ⟨_, _, _, _, HTW.out⟩⟩
            case measure => simp [intOf]; omega
          · obtain rfl : q = N := by omega
            have HC := Lib.hid (commW HTW.out.ha HTW.out.ia)
            unfold CommW at HC
            rw [decide_eq_false hlq] at HC
            go_wp2_with fail
            refine HC.out.mono ?_
            rintro e w9 ⟨⟨hh, rfl, -, -⟩, hs⟩
            obtain ⟨xa2, Ra2, htw⟩ := HTW.out.step hs (commT_inv HTW.out.ia)
            have HBF := Lib.hid (htw.b.trans ((show Below w9.heap.size w9 (w9.alloc (.cells #[.int .i64 hh.d.se, .int .i32 hh.d.xi, .int .i64 hh.d.zx, .int .i64 hh.d.ti, .int .i32 hh.d.t.n.ty, .string hh.d.t.n.path, slV hh.d.t.d, slV hh.d.t.a, .int .i64 hh.d.t.n.ow, .int .i32 hh.d.t.n.ve, .int .i32 hh.d.t.n.cr, .bool hh.d.t.n.qh, .int .i64 hh.d.t.n.qc, .int .i64 hh.d.t.n.qb, .int .i64 hh.d.t.n.si, .int .i32 hh.d.t.n.st, slV hh.d.t.i, slV hh.d.t.p, .int .i32 hh.d.t.n.co, slV hh.d.t.s, .int .i32 hh.r.xi, .int .i64 hh.r.zx, .int .i32 hh.r.co, .int .i32 hh.r.r.n.ty, .int .i32 hh.r.r.n.co, .string hh.r.r.n.path, .int .i64 hh.r.r.n.q.a, .int .i64 hh.r.r.n.q.b, .int .i64 hh.r.r.n.q.c, .int .i64 hh.r.r.n.q.d, .int .i32 hh.r.r.n.q.e, .int .i32 hh.r.r.n.q.f, .int .i32 hh.r.r.n.q.g, .int .i64 hh.r.r.n.q.h, .int .i32 hh.r.r.n.q.i, .int .i32 hh.r.r.n.q.j, .int .i64 hh.r.r.n.q.k, slV hh.r.r.d, slV hh.r.r.a, slV hh.r.r.m, .int .i32 hh.r.r.n.ct, .int .i64 hh.r.r.n.si, .int .i32 hh.r.r.n.st, slV hh.r.r.i, slV hh.r.r.s] 63)) from (Below.refl _ w9).alloc (Nat.le_refl _) _).mono htw.b.size))
            clear htw HTW HC hs
            go_upto_region 38 with (apply wpList_storeTop 63 63; exact rfl; exact rfl; exact rfl; (first | (with_reducible rfl) | (exact sz1 _ _) | (exact sz2 _ _ _) | (exact sz3 _ _ _ _)); exact rfl; exact infPr; exact rfl; (first | exact onePr _ | simp [Value.oneCell']))
            generalize w9.alloc (.cells #[.int .i64 hh.d.se, .int .i32 hh.d.xi, .int .i64 hh.d.zx, .int .i64 hh.d.ti, .int .i32 hh.d.t.n.ty, .string hh.d.t.n.path, slV hh.d.t.d, slV hh.d.t.a, .int .i64 hh.d.t.n.ow, .int .i32 hh.d.t.n.ve, .int .i32 hh.d.t.n.cr, .bool hh.d.t.n.qh, .int .i64 hh.d.t.n.qc, .int .i64 hh.d.t.n.qb, .int .i64 hh.d.t.n.si, .int .i32 hh.d.t.n.st, slV hh.d.t.i, slV hh.d.t.p, .int .i32 hh.d.t.n.co, slV hh.d.t.s, .int .i32 hh.r.xi, .int .i64 hh.r.zx, .int .i32 hh.r.co, .int .i32 hh.r.r.n.ty, .int .i32 hh.r.r.n.co, .string hh.r.r.n.path, .int .i64 hh.r.r.n.q.a, .int .i64 hh.r.r.n.q.b, .int .i64 hh.r.r.n.q.c, .int .i64 hh.r.r.n.q.d, .int .i32 hh.r.r.n.q.e, .int .i32 hh.r.r.n.q.f, .int .i32 hh.r.r.n.q.g, .int .i64 hh.r.r.n.q.h, .int .i32 hh.r.r.n.q.i, .int .i32 hh.r.r.n.q.j, .int .i64 hh.r.r.n.q.k, slV hh.r.r.d, slV hh.r.r.a, slV hh.r.r.m, .int .i32 hh.r.r.n.ct, .int .i64 hh.r.r.n.si, .int .i32 hh.r.r.n.st, slV hh.r.r.i, slV hh.r.r.s] 63) = W at *
            go_wp2_with fail
            go_ret
            exact RetB.mk HBF.out rfl
        · obtain rfl : v = 0 := by omega
          clear HRZ hv
          have HR := Lib.hid (readyW HTW.out.ha HTW.out.ia)
          rw [HN.out] at HR
          go_wp2_with fail
          refine HR.out.mono ?_
          rintro e w8 ⟨rfl, hb⟩
          replace HTW := Lib.hid (HTW.out.later hb); clear hb HR
          have HN4 := Lib.hid (show N ≤ 4096 by have := rdN_max HTW.out.ia; rw [HN.out] at this; exact this)
          go_wp2_with fail
          go_loopw [21, 22, 23, 24, 25] (fun i _ _ _ _ wq => ∃ (q : Nat) (st' : QuT), i = .int .i64 ↑q ∧ q + rdN st' = N ∧ TwoQ w wq ba bb st' st') (fun i _ _ _ _ _ => N - (intOf i).toNat)
          case atStart => exact ⟨0, sF, rfl, by have := HN.out; omega, ⟨_, _, _, _, HTW.out⟩⟩
          case round =>
          clear HTW xa Ra xb Rb
          obtain ⟨q, st', rfl, hq, xa, Ra, xb, Rb, htw⟩ := hrel
          have HTW := Lib.hid htw; clear htw
          by_cases hlq : 0 < rdN st'
          · have hqi : (q : Int) < (N : Int) := by omega
            have bq : decide (q < N) = true := decide_eq_true (by omega)
            have hn4 := HN4.out
            have HRD := Lib.hid (rdN_comm hlq)
            have HC := Lib.hid (commW HTW.out.ha HTW.out.ia)
            unfold CommW at HC
            rw [decide_eq_true hlq] at HC
            go_wp2_with fail
            refine HC.out.mono ?_
            rintro e w9 ⟨⟨hh, rfl, hz1, hz2⟩, hs⟩
            have HZ := Lib.hid (commZ (fun h => ⟨_, hz1 h⟩) hz2)
            obtain ⟨xa2, Ra2, htw⟩ := HTW.out.step hs (commT_inv HTW.out.ia)
            have HNX := Lib.hid (htw.beyond (Nat.le_refl _))
            have HG := Lib.hid (heap_s0 w9 (.cells #[.int .i64 hh.d.se, .int .i32 hh.d.xi, .int .i64 hh.d.zx, .int .i64 hh.d.ti, .int .i32 hh.d.t.n.ty, .string hh.d.t.n.path, slV hh.d.t.d, slV hh.d.t.a, .int .i64 hh.d.t.n.ow, .int .i32 hh.d.t.n.ve, .int .i32 hh.d.t.n.cr, .bool hh.d.t.n.qh, .int .i64 hh.d.t.n.qc, .int .i64 hh.d.t.n.qb, .int .i64 hh.d.t.n.si, .int .i32 hh.d.t.n.st, slV hh.d.t.i, slV hh.d.t.p, .int .i32 hh.d.t.n.co, slV hh.d.t.s, .int .i32 hh.r.xi, .int .i64 hh.r.zx, .int .i32 hh.r.co, .int .i32 hh.r.r.n.ty, .int .i32 hh.r.r.n.co, .string hh.r.r.n.path, .int .i64 hh.r.r.n.q.a, .int .i64 hh.r.r.n.q.b, .int .i64 hh.r.r.n.q.c, .int .i64 hh.r.r.n.q.d, .int .i32 hh.r.r.n.q.e, .int .i32 hh.r.r.n.q.f, .int .i32 hh.r.r.n.q.g, .int .i64 hh.r.r.n.q.h, .int .i32 hh.r.r.n.q.i, .int .i32 hh.r.r.n.q.j, .int .i64 hh.r.r.n.q.k, slV hh.r.r.d, slV hh.r.r.a, slV hh.r.r.m, .int .i32 hh.r.r.n.ct, .int .i64 hh.r.r.n.si, .int .i32 hh.r.r.n.st, slV hh.r.r.i, slV hh.r.r.s] 63))
            have HS := Lib.hid (sz1 w9 (.cells #[.int .i64 hh.d.se, .int .i32 hh.d.xi, .int .i64 hh.d.zx, .int .i64 hh.d.ti, .int .i32 hh.d.t.n.ty, .string hh.d.t.n.path, slV hh.d.t.d, slV hh.d.t.a, .int .i64 hh.d.t.n.ow, .int .i32 hh.d.t.n.ve, .int .i32 hh.d.t.n.cr, .bool hh.d.t.n.qh, .int .i64 hh.d.t.n.qc, .int .i64 hh.d.t.n.qb, .int .i64 hh.d.t.n.si, .int .i32 hh.d.t.n.st, slV hh.d.t.i, slV hh.d.t.p, .int .i32 hh.d.t.n.co, slV hh.d.t.s, .int .i32 hh.r.xi, .int .i64 hh.r.zx, .int .i32 hh.r.co, .int .i32 hh.r.r.n.ty, .int .i32 hh.r.r.n.co, .string hh.r.r.n.path, .int .i64 hh.r.r.n.q.a, .int .i64 hh.r.r.n.q.b, .int .i64 hh.r.r.n.q.c, .int .i64 hh.r.r.n.q.d, .int .i32 hh.r.r.n.q.e, .int .i32 hh.r.r.n.q.f, .int .i32 hh.r.r.n.q.g, .int .i64 hh.r.r.n.q.h, .int .i32 hh.r.r.n.q.i, .int .i32 hh.r.r.n.q.j, .int .i64 hh.r.r.n.q.k, slV hh.r.r.d, slV hh.r.r.a, slV hh.r.r.m, .int .i32 hh.r.r.n.ct, .int .i64 hh.r.r.n.si, .int .i32 hh.r.r.n.st, slV hh.r.r.i, slV hh.r.r.s] 63))
            clear HTW HC hs hz1 hz2
            have HTW := Lib.hid (htw.later (show Below w9.heap.size w9 (w9.alloc (.cells #[.int .i64 hh.d.se, .int .i32 hh.d.xi, .int .i64 hh.d.zx, .int .i64 hh.d.ti, .int .i32 hh.d.t.n.ty, .string hh.d.t.n.path, slV hh.d.t.d, slV hh.d.t.a, .int .i64 hh.d.t.n.ow, .int .i32 hh.d.t.n.ve, .int .i32 hh.d.t.n.cr, .bool hh.d.t.n.qh, .int .i64 hh.d.t.n.qc, .int .i64 hh.d.t.n.qb, .int .i64 hh.d.t.n.si, .int .i32 hh.d.t.n.st, slV hh.d.t.i, slV hh.d.t.p, .int .i32 hh.d.t.n.co, slV hh.d.t.s, .int .i32 hh.r.xi, .int .i64 hh.r.zx, .int .i32 hh.r.co, .int .i32 hh.r.r.n.ty, .int .i32 hh.r.r.n.co, .string hh.r.r.n.path, .int .i64 hh.r.r.n.q.a, .int .i64 hh.r.r.n.q.b, .int .i64 hh.r.r.n.q.c, .int .i64 hh.r.r.n.q.d, .int .i32 hh.r.r.n.q.e, .int .i32 hh.r.r.n.q.f, .int .i32 hh.r.r.n.q.g, .int .i64 hh.r.r.n.q.h, .int .i32 hh.r.r.n.q.i, .int .i32 hh.r.r.n.q.j, .int .i64 hh.r.r.n.q.k, slV hh.r.r.d, slV hh.r.r.a, slV hh.r.r.m, .int .i32 hh.r.r.n.ct, .int .i64 hh.r.r.n.si, .int .i32 hh.r.r.n.st, slV hh.r.r.i, slV hh.r.r.s] 63)) from (Below.refl _ w9).alloc (Nat.le_refl _) _))
            clear htw
            go_upto_region 34 with (apply wpList_storeTop 63 63; exact rfl; exact rfl; exact rfl; (first | (with_reducible rfl) | (exact sz1 _ _) | (exact sz2 _ _ _) | (exact sz3 _ _ _ _)); exact rfl; exact infPr; exact rfl; (first | exact onePr _ | simp [Value.oneCell']))
            generalize w9.alloc (.cells #[.int .i64 hh.d.se, .int .i32 hh.d.xi, .int .i64 hh.d.zx, .int .i64 hh.d.ti, .int .i32 hh.d.t.n.ty, .string hh.d.t.n.path, slV hh.d.t.d, slV hh.d.t.a, .int .i64 hh.d.t.n.ow, .int .i32 hh.d.t.n.ve, .int .i32 hh.d.t.n.cr, .bool hh.d.t.n.qh, .int .i64 hh.d.t.n.qc, .int .i64 hh.d.t.n.qb, .int .i64 hh.d.t.n.si, .int .i32 hh.d.t.n.st, slV hh.d.t.i, slV hh.d.t.p, .int .i32 hh.d.t.n.co, slV hh.d.t.s, .int .i32 hh.r.xi, .int .i64 hh.r.zx, .int .i32 hh.r.co, .int .i32 hh.r.r.n.ty, .int .i32 hh.r.r.n.co, .string hh.r.r.n.path, .int .i64 hh.r.r.n.q.a, .int .i64 hh.r.r.n.q.b, .int .i64 hh.r.r.n.q.c, .int .i64 hh.r.r.n.q.d, .int .i32 hh.r.r.n.q.e, .int .i32 hh.r.r.n.q.f, .int .i32 hh.r.r.n.q.g, .int .i64 hh.r.r.n.q.h, .int .i32 hh.r.r.n.q.i, .int .i32 hh.r.r.n.q.j, .int .i64 hh.r.r.n.q.k, slV hh.r.r.d, slV hh.r.r.a, slV hh.r.r.m, .int .i32 hh.r.r.n.ct, .int .i64 hh.r.r.n.si, .int .i32 hh.r.r.n.st, slV hh.r.r.i, slV hh.r.r.s] 63) = W at *
            have HC := Lib.hid (commW HTW.out.hb HTW.out.ib)
            unfold CommW at HC
            rw [decide_eq_true hlq] at HC
            go_wp2_with fail
            refine HC.out.mono ?_
            rintro e w10 ⟨⟨h2, rfl, hz1, hz2⟩, hs⟩
            have hc1 : w10.cell? ⟨w9.heap.size, 2, none⟩ = some (.int .i64 (comZ st')) := by
              rw [hs.2.cell (p := ⟨w9.heap.size, 2, none⟩) (by have := HS.out; show w9.heap.size < W.heap.size; omega) HNX.out.2, cellH HG.out, ← HZ.out]; rfl
            have HZ2 := Lib.hid (commZ (fun h => ⟨_, hz1 h⟩) hz2)
            obtain ⟨xb2, Rb2, htw⟩ := HTW.out.stepB hs (commT_inv HTW.out.ib)
            have HG2 := Lib.hid (heap_s0 w10 (.cells #[.int .i64 h2.d.se, .int .i32 h2.d.xi, .int .i64 h2.d.zx, .int .i64 h2.d.ti, .int .i32 h2.d.t.n.ty, .string h2.d.t.n.path, slV h2.d.t.d, slV h2.d.t.a, .int .i64 h2.d.t.n.ow, .int .i32 h2.d.t.n.ve, .int .i32 h2.d.t.n.cr, .bool h2.d.t.n.qh, .int .i64 h2.d.t.n.qc, .int .i64 h2.d.t.n.qb, .int .i64 h2.d.t.n.si, .int .i32 h2.d.t.n.st, slV h2.d.t.i, slV h2.d.t.p, .int .i32 h2.d.t.n.co, slV h2.d.t.s, .int .i32 h2.r.xi, .int .i64 h2.r.zx, .int .i32 h2.r.co, .int .i32 h2.r.r.n.ty, .int .i32 h2.r.r.n.co, .string h2.r.r.n.path, .int .i64 h2.r.r.n.q.a, .int .i64 h2.r.r.n.q.b, .int .i64 h2.r.r.n.q.c, .int .i64 h2.r.r.n.q.d, .int .i32 h2.r.r.n.q.e, .int .i32 h2.r.r.n.q.f, .int .i32 h2.r.r.n.q.g, .int .i64 h2.r.r.n.q.h, .int .i32 h2.r.r.n.q.i, .int .i32 h2.r.r.n.q.j, .int .i64 h2.r.r.n.q.k, slV h2.r.r.d, slV h2.r.r.a, slV h2.r.r.m, .int .i32 h2.r.r.n.ct, .int .i64 h2.r.r.n.si, .int .i32 h2.r.r.n.st, slV h2.r.r.i, slV h2.r.r.s] 63))
            have hb2 : Below w10.heap.size w10 (w10.alloc (.cells #[.int .i64 h2.d.se, .int .i32 h2.d.xi, .int .i64 h2.d.zx, .int .i64 h2.d.ti, .int .i32 h2.d.t.n.ty, .string h2.d.t.n.path, slV h2.d.t.d, slV h2.d.t.a, .int .i64 h2.d.t.n.ow, .int .i32 h2.d.t.n.ve, .int .i32 h2.d.t.n.cr, .bool h2.d.t.n.qh, .int .i64 h2.d.t.n.qc, .int .i64 h2.d.t.n.qb, .int .i64 h2.d.t.n.si, .int .i32 h2.d.t.n.st, slV h2.d.t.i, slV h2.d.t.p, .int .i32 h2.d.t.n.co, slV h2.d.t.s, .int .i32 h2.r.xi, .int .i64 h2.r.zx, .int .i32 h2.r.co, .int .i32 h2.r.r.n.ty, .int .i32 h2.r.r.n.co, .string h2.r.r.n.path, .int .i64 h2.r.r.n.q.a, .int .i64 h2.r.r.n.q.b, .int .i64 h2.r.r.n.q.c, .int .i64 h2.r.r.n.q.d, .int .i32 h2.r.r.n.q.e, .int .i32 h2.r.r.n.q.f, .int .i32 h2.r.r.n.q.g, .int .i64 h2.r.r.n.q.h, .int .i32 h2.r.r.n.q.i, .int .i32 h2.r.r.n.q.j, .int .i64 h2.r.r.n.q.k, slV h2.r.r.d, slV h2.r.r.a, slV h2.r.r.m, .int .i32 h2.r.r.n.ct, .int .i64 h2.r.r.n.si, .int .i32 h2.r.r.n.st, slV h2.r.r.i, slV h2.r.r.s] 63)) := (Below.refl _ w10).alloc (Nat.le_refl _) _
            have hd1 := keep1 hc1 hb2
            clear HTW HC hs hz1 hz2 hc1 HG HS HNX
            have HTW := Lib.hid (htw.later hb2)
            clear htw hb2
            go_upto_region 35 with (apply wpList_storeTop 63 63; exact rfl; exact rfl; exact rfl; (first | (with_reducible rfl) | (exact sz1 _ _) | (exact sz2 _ _ _) | (exact sz3 _ _ _ _)); exact rfl; exact infPr; exact rfl; (first | exact onePr _ | simp [Value.oneCell']))
            generalize w10.alloc (.cells #[.int .i64 h2.d.se, .int .i32 h2.d.xi, .int .i64 h2.d.zx, .int .i64 h2.d.ti, .int .i32 h2.d.t.n.ty, .string h2.d.t.n.path, slV h2.d.t.d, slV h2.d.t.a, .int .i64 h2.d.t.n.ow, .int .i32 h2.d.t.n.ve, .int .i32 h2.d.t.n.cr, .bool h2.d.t.n.qh, .int .i64 h2.d.t.n.qc, .int .i64 h2.d.t.n.qb, .int .i64 h2.d.t.n.si, .int .i32 h2.d.t.n.st, slV h2.d.t.i, slV h2.d.t.p, .int .i32 h2.d.t.n.co, slV h2.d.t.s, .int .i32 h2.r.xi, .int .i64 h2.r.zx, .int .i32 h2.r.co, .int .i32 h2.r.r.n.ty, .int .i32 h2.r.r.n.co, .string h2.r.r.n.path, .int .i64 h2.r.r.n.q.a, .int .i64 h2.r.r.n.q.b, .int .i64 h2.r.r.n.q.c, .int .i64 h2.r.r.n.q.d, .int .i32 h2.r.r.n.q.e, .int .i32 h2.r.r.n.q.f, .int .i32 h2.r.r.n.q.g, .int .i64 h2.r.r.n.q.h, .int .i32 h2.r.r.n.q.i, .int .i32 h2.r.r.n.q.j, .int .i64 h2.r.r.n.q.k, slV h2.r.r.d, slV h2.r.r.a, slV h2.r.r.m, .int .i32 h2.r.r.n.ct, .int .i64 h2.r.r.n.si, .int .i32 h2.r.r.n.st, slV h2.r.r.i, slV h2.r.r.s] 63) = W2 at *
            have hd2 : W2.cell? ⟨w10.heap.size, 2, none⟩ = some (.int .i64 (comZ st')) := by
              rw [cellH HG2.out, ← HZ2.out]; rfl
            generalize comZ st' = cz at *
            clear HZ HZ2 HG2
            go_wp2_with fail
            go_roundw
            case rel => exact ⟨q + 1, commT st', by go_num, by have := HRD.out; omega, ⟨_, _, _, _, HTW.out⟩⟩
            case measure => simp [intOf]; omega
          · obtain rfl : q = N := by omega
            have HC := Lib.hid (commW HTW.out.ha HTW.out.ia)
            unfold CommW at HC
            rw [decide_eq_false hlq] at HC
            go_wp2_with fail
            refine HC.out.mono ?_
            rintro e w9 ⟨⟨hh, rfl, -, -⟩, hs⟩
            obtain ⟨xa2, Ra2, htw⟩ := HTW.out.step hs (commT_inv HTW.out.ia)
            have HBF := Lib.hid (htw.b.trans ((show Below w9.heap.size w9 (w9.alloc (.cells #[.int .i64 hh.d.se, .int .i32 hh.d.xi, .int .i64 hh.d.zx, .int .i64 hh.d.ti, .int .i32 hh.d.t.n.ty, .string hh.d.t.n.path, slV hh.d.t.d, slV hh.d.t.a, .int .i64 hh.d.t.n.ow, .int .i32 hh.d.t.n.ve, .int .i32 hh.d.t.n.cr, .bool hh.d.t.n.qh, .int .i64 hh.d.t.n.qc, .int .i64 hh.d.t.n.qb, .int .i64 hh.d.t.n.si, .int .i32 hh.d.t.n.st, slV hh.d.t.i, slV hh.d.t.p, .int .i32 hh.d.t.n.co, slV hh.d.t.s, .int .i32 hh.r.xi, .int .i64 hh.r.zx, .int .i32 hh.r.co, .int .i32 hh.r.r.n.ty, .int .i32 hh.r.r.n.co, .string hh.r.r.n.path, .int .i64 hh.r.r.n.q.a, .int .i64 hh.r.r.n.q.b, .int .i64 hh.r.r.n.q.c, .int .i64 hh.r.r.n.q.d, .int .i32 hh.r.r.n.q.e, .int .i32 hh.r.r.n.q.f, .int .i32 hh.r.r.n.q.g, .int .i64 hh.r.r.n.q.h, .int .i32 hh.r.r.n.q.i, .int .i32 hh.r.r.n.q.j, .int .i64 hh.r.r.n.q.k, slV hh.r.r.d, slV hh.r.r.a, slV hh.r.r.m, .int .i32 hh.r.r.n.ct, .int .i64 hh.r.r.n.si, .int .i32 hh.r.r.n.st, slV hh.r.r.i, slV hh.r.r.s] 63)) from (Below.refl _ w9).alloc (Nat.le_refl _) _).mono htw.b.size))
            clear htw HTW HC hs
            go_upto_region 38 with (apply wpList_storeTop 63 63; exact rfl; exact rfl; exact rfl; (first | (with_reducible rfl) | (exact sz1 _ _) | (exact sz2 _ _ _) | (exact sz3 _ _ _ _)); exact rfl; exact infPr; exact rfl; (first | exact onePr _ | simp [Value.oneCell']))
            generalize w9.alloc (.cells #[.int .i64 hh.d.se, .int .i32 hh.d.xi, .int .i64 hh.d.zx, .int .i64 hh.d.ti, .int .i32 hh.d.t.n.ty, .string hh.d.t.n.path, slV hh.d.t.d, slV hh.d.t.a, .int .i64 hh.d.t.n.ow, .int .i32 hh.d.t.n.ve, .int .i32 hh.d.t.n.cr, .bool hh.d.t.n.qh, .int .i64 hh.d.t.n.qc, .int .i64 hh.d.t.n.qb, .int .i64 hh.d.t.n.si, .int .i32 hh.d.t.n.st, slV hh.d.t.i, slV hh.d.t.p, .int .i32 hh.d.t.n.co, slV hh.d.t.s, .int .i32 hh.r.xi, .int .i64 hh.r.zx, .int .i32 hh.r.co, .int .i32 hh.r.r.n.ty, .int .i32 hh.r.r.n.co, .string hh.r.r.n.path, .int .i64 hh.r.r.n.q.a, .int .i64 hh.r.r.n.q.b, .int .i64 hh.r.r.n.q.c, .int .i64 hh.r.r.n.q.d, .int .i32 hh.r.r.n.q.e, .int .i32 hh.r.r.n.q.f, .int .i32 hh.r.r.n.q.g, .int .i64 hh.r.r.n.q.h, .int .i32 hh.r.r.n.q.i, .int .i32 hh.r.r.n.q.j, .int .i64 hh.r.r.n.q.k, slV hh.r.r.d, slV hh.r.r.a, slV hh.r.r.m, .int .i32 hh.r.r.n.ct, .int .i64 hh.r.r.n.si, .int .i32 hh.r.r.n.st, slV hh.r.r.i, slV hh.r.r.s] 63) = W at *
            go_wp2_with fail
            go_ret
            exact RetB.mk HBF.out rfl
end Go.Proofs.YtbpmmmnphpkdjaaGreatDoor
