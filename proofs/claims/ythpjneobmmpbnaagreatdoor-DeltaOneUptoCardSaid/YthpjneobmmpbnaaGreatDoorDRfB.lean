/- The walks of the document's named and great of a transaction. Condition: bulk at most 2^20. -/
import Derived.Test.YthpjneobmmpbnaaGreatDoorDCloR
import Derived.Test.YthpjneobmmpbnaaGreatDoorDRfF
import Derived.Test.YthpjneobmmpbnaaGreatDoorDDltF
import Derived.Test.YthpjneobmmpbnaaGreatDoorDQuoG
namespace Go.Proofs.YthpjneobmmpbnaaGreatDoor
open Go.RowKit Go.MapKept
/-- a number, in a world that has grown -/
def RetE (w : World) (k : Int) (e : Ending) (w' : World) : Prop := e = .returned (.int .i64 k) ∧ Below w.heap.size w w'
noncomputable def nameE (v : TxF) : Int := if namedB v then 30 else 0
theorem RetE.mk {w w' : World} {k x : Int} (hb : Below w.heap.size w w') (h : x = k) : RetE w k (.returned (.int .i64 x)) w' := ⟨by rw [h], hb⟩
set_option maxRecDepth 100000 in
set_option maxHeartbeats 8000000 in
theorem refNamed_any (h : TxH) (v : TxF) (w : World) (R : Nat → Prop) (hv : locTx w R h v) (hsm : TxSm 1048576 v h.s.2.1) :
    Calls Tryz.prog 96 #[txV h] w (RetE w (nameE v)) := by
  have hn := hv.1
  have hs : h.n.path.size < 2147483648 := by have := hsm.2.1; rw [hn] at this; omega
  have hpn : v.paths.length = h.p.2.1 := hv.2.2.2.2.len
  have hpl : h.p.2.1 ≤ 1048576 := by have := hsm.2.2.2.2.2.1; omega
  have HPS := Lib.hid (fun j (hj : j < v.paths.length) => (show v.paths[j]!.size < 2147483648 by have := hsm.2.2.2.2.2.2.2.2.2 j hj; omega))
  have HD := Lib.hid (show namedB v = if h.n.ty = 1 ∨ h.n.ty = 2 then badB h.n.path else if partB h.n.ty then !validP h.n.path else if h.n.ty = -11 then v.paths.any badB else false by unfold namedB; rw [hn])
  have HAS := Lib.hid (has_all h.n.ty)
  clear hn hsm
  have hb0 : Below w.heap.size w (w.alloc (.cells #[.int .i32 h.n.ty, .string h.n.path, slV h.d, slV h.a, .int .i64 h.n.ow, .int .i32 h.n.ve, .int .i32 h.n.cr, .bool h.n.qh, .int .i64 h.n.qc, .int .i64 h.n.qb, .int .i64 h.n.si, .int .i32 h.n.st, slV h.i, slV h.p, .int .i32 h.n.co, slV h.s] 33)) := (Below.refl _ w).alloc (Nat.le_refl _) _
  have HG := Lib.hid (heap_s0 w (.cells #[.int .i32 h.n.ty, .string h.n.path, slV h.d, slV h.a, .int .i64 h.n.ow, .int .i32 h.n.ve, .int .i32 h.n.cr, .bool h.n.qh, .int .i64 h.n.qc, .int .i64 h.n.qb, .int .i64 h.n.si, .int .i32 h.n.st, slV h.i, slV h.p, .int .i32 h.n.co, slV h.s] 33))
  have HZ := Lib.hid (sz1 w (.cells #[.int .i32 h.n.ty, .string h.n.path, slV h.d, slV h.a, .int .i64 h.n.ow, .int .i32 h.n.ve, .int .i32 h.n.cr, .bool h.n.qh, .int .i64 h.n.qc, .int .i64 h.n.qb, .int .i64 h.n.si, .int .i32 h.n.st, slV h.i, slV h.p, .int .i32 h.n.co, slV h.s] 33))
  have HL := Lib.hid (hv.down hb0)
  have HB := Lib.hid hb0
  clear hb0
  unfold txV
  go_enter Tryz.func96, Tryz.ntmps96
  go_upto_region 1 with fail
  generalize w.alloc (.cells #[.int .i32 h.n.ty, .string h.n.path, slV h.d, slV h.a, .int .i64 h.n.ow, .int .i32 h.n.ve, .int .i32 h.n.cr, .bool h.n.qh, .int .i64 h.n.qc, .int .i64 h.n.qb, .int .i64 h.n.si, .int .i32 h.n.st, slV h.i, slV h.p, .int .i32 h.n.co, slV h.s] 33) = W at *
  have HC0 := Lib.hid (show ∀ V : World, Below W.heap.size W V → V.cell? ⟨w.heap.size, 0, none⟩ = some (.int .i32 h.n.ty) from fun V hV => by rw [cellH ((hV.block _ (by have := HZ.out; omega)).trans HG.out)]; rfl)
  have HC1 := Lib.hid (show ∀ V : World, Below W.heap.size W V → V.cell? ⟨w.heap.size, 1, none⟩ = some (.string h.n.path) from fun V hV => by rw [cellH ((hV.block _ (by have := HZ.out; omega)).trans HG.out)]; rfl)
  have HC13 := Lib.hid (show ∀ V : World, Below W.heap.size W V → V.cell? ⟨w.heap.size, 13, none⟩ = some (slV h.p) from fun V hV => by rw [cellH ((hV.block _ (by have := HZ.out; omega)).trans HG.out)]; rfl)
  have x0 := HC0.out W (Below.refl _ _)
  have x1 := HC1.out W (Below.refl _ _)
  go_wp2_with fail
  refine (refFields_any _ _).mono ?_
  rintro e W ⟨rfl, rfl⟩
  go_wp2_with fail
  refine (hasF_any _ _ _).mono ?_
  rintro e W ⟨rfl, rfl⟩
  rw [HAS.out.1]
  have HV := Lib.hid (refValid_any h.n.path hs W)
  have fs := slash_str h.n.path
  cases hpt : partB h.n.ty with
  | true =>
    rw [hpt] at HD
    have n11 : h.n.ty ≠ -11 := fun e => by rw [e] at hpt; revert hpt; decide
    have HL8 := Lib.hid (show hasN (fieldsS h.n.ty) 108 = false by rw [HAS.out.2.2.2.2.2.2.2.2.1]; exact decide_eq_false n11)
    cases hva : validP h.n.path with
    | false =>
      rw [hva] at HV
      have HN := Lib.hid (show nameE v = 30 by
        unfold nameE
        rw [HD.out, hva]
        by_cases h12 : h.n.ty = 1 ∨ h.n.ty = 2
        · rw [if_pos h12]; unfold badB; rw [hva]; rfl
        · rw [if_neg h12]; rfl)
      clear hpt hva HD HAS n11 HL8 fs
      go_wp2_with fail
      refine HV.out.mono ?_
      rintro e w2 ⟨rfl, hb2⟩
      have HB2 := Lib.hid (HB.out.trans (hb2.mono HB.out.size)); clear hb2
      go_wp2_with fail
      go_ret
      exact RetE.mk HB2.out HN.out.symm
    | true =>
      rw [hva] at HV
      by_cases hsl : h.n.path = sSlash ∧ (h.n.ty = 1 ∨ h.n.ty = 2)
      · rw [decide_eq_true hsl.1] at fs
        have HN := Lib.hid (show nameE v = 30 by
          unfold nameE
          rw [HD.out, if_pos hsl.2]; unfold badB; rw [decide_eq_true hsl.1, Bool.or_true]; rfl)
        have ht : (h.n.ty == 1) = true ∨ ((h.n.ty == 1) = false ∧ (h.n.ty == 2) = true) := by
          rcases hsl.2 with e | e
          · exact .inl (by rw [e]; rfl)
          · exact .inr ⟨by rw [e]; rfl, by rw [e]; rfl⟩
        clear hpt hva HD HAS n11 HL8 hsl
        rcases ht with ht | ⟨ht, ht2⟩
        all_goals
          go_wp2_with fail
          refine HV.out.mono ?_
          rintro e w2 ⟨rfl, hb2⟩
          have x0' := HC0.out w2 hb2; have x1' := HC1.out w2 hb2
          have HB2 := Lib.hid (HB.out.trans (hb2.mono HB.out.size)); clear hb2 x0 x1
          go_wp2_with fail
          go_ret
          exact RetE.mk HB2.out HN.out.symm
      · have HN := Lib.hid (show nameE v = 0 by
          unfold nameE
          rw [HD.out]
          by_cases h12 : h.n.ty = 1 ∨ h.n.ty = 2
          · rw [if_pos h12]; unfold badB; rw [hva, decide_eq_false (fun e => hsl ⟨e, h12⟩)]; rfl
          · rw [if_neg h12, hva]; rfl)
        have ht : (h.n.path.toList == [47]) = false ∨ ((h.n.path.toList == [47]) = true ∧ (h.n.ty == 1) = false ∧ (h.n.ty == 2) = false) := by
          by_cases e : h.n.path = sSlash
          · exact .inr ⟨by rw [fs]; exact decide_eq_true e, beq_eq_false_iff_ne.2 fun e2 => hsl ⟨e, .inl e2⟩, beq_eq_false_iff_ne.2 fun e2 => hsl ⟨e, .inr e2⟩⟩
          · exact .inl (by rw [fs]; exact decide_eq_false e)
        clear hpt hva HD HAS n11 hsl fs
        rcases ht with ht | ⟨ht, ht1, ht2⟩
        all_goals
          go_wp2_with fail
          refine HV.out.mono ?_
          rintro e w2 ⟨rfl, hb2⟩
          have x0' := HC0.out w2 hb2; have x1' := HC1.out w2 hb2
          have HB2 := Lib.hid (HB.out.trans (hb2.mono HB.out.size)); clear hb2 x0 x1
          go_wp2_with fail
          go_loop [4] (fun i => i = .int .i64 0) (fun _ => 0)
          case atStart => rfl
          case round =>
            subst hrel
            go_wp2_with fail
            refine (hasF_any _ _ _).mono ?_
            rintro e w2 ⟨rfl, rfl⟩
            rw [HL8.out]
            go_wp2_with fail
            go_ret
            exact RetE.mk HB2.out HN.out.symm
  | false =>
    rw [hpt] at HD
    have h12 : ¬ (h.n.ty = 1 ∨ h.n.ty = 2) := fun e => by rcases e with e | e <;> (rw [e] at hpt; revert hpt; decide)
    rw [if_neg h12, if_neg (by simp)] at HD
    have HL8 := Lib.hid HAS.out.2.2.2.2.2.2.2.2.1
    clear hpt h12 HV fs
    by_cases h11 : h.n.ty = -11
    · rw [decide_eq_true h11] at HL8
      rw [if_pos h11] at HD
      clear h11 HAS x0 x1
      have HPR := Lib.hid (HL.out.2.2.2.2.sl (fun _ => by simp [encStr]))
      go_wp2_with fail
      go_loopw [4] (fun i wr => ∃ j : Nat, i = .int .i64 ↑j ∧ j ≤ h.p.2.1 ∧ (∀ k, k < j → badB v.paths[k]! = false) ∧ Below W.heap.size W wr) (fun i _ => h.p.2.1 - (RowKit.intOf i).toNat)
      case atStart => exact ⟨0, rfl, Nat.zero_le _, fun k hk => absurd hk (by omega), Below.refl _ _⟩
      case round =>
        obtain ⟨j, rfl, hj, hno, hbw⟩ := hrel
        have HNO := Lib.hid hno; have HBW := Lib.hid hbw; clear hno hbw
        have x13 := HC13.out wr HBW.out
        by_cases hlt : j < h.p.2.1
        · obtain ⟨b, off, eb, hbl, hcb⟩ := HPR.out.cells hlt
          have c0 : wr.cell? ⟨b, off + j, none⟩ = some (.string v.paths[j]!) := by have := keep1 (hcb 0 _ rfl) HBW.out; simpa using this
          have x13' : wr.cell? ⟨w.heap.size, 13, none⟩ = some (.slice (some ⟨b, off, none⟩) h.p.2.1 h.p.2.2) := by rw [x13, ← eb]
          have HCO := Lib.hid (fun V (hV : Below wr.heap.size wr V) => And.intro (keep1 c0 hV) (keep1 x13' hV))
          have HVJ := Lib.hid (refValid_any v.paths[j]! (HPS.out j (by rw [hpn]; exact hlt)) wr)
          have HBD := Lib.hid (show badB v.paths[j]! = (!validP v.paths[j]! || decide (v.paths[j]! = sSlash)) from rfl)
          have fs := slash_str v.paths[j]!
          have hji : (j : Int) < (h.p.2.1 : Int) := by omega
          have hj0 : (0 : Int) ≤ (j : Int) := by omega
          have HANY := Lib.hid (fun (e : badB v.paths[j]! = true) => (show nameE v = 30 by
            unfold nameE
            rw [HD.out, if_pos]
            rw [List.any_eq_true]
            exact ⟨_, List.getElem_mem (by rw [hpn]; exact hlt), by rw [← getElem!_pos v.paths j (by rw [hpn]; exact hlt)]; exact e⟩))
          clear hcb x13 hbl eb
          generalize hpj : v.paths[j]! = pj at *
          have HPJ := Lib.hid hpj; clear hpj
          cases hva : validP pj with
          | false =>
            rw [hva] at HVJ HBD
            have HN := Lib.hid (HANY.out (by rw [HBD.out]; rfl))
            clear hva HANY fs
            go_wp2_with fail
            refine (hasF_any _ _ _).mono ?_
            rintro e wr ⟨rfl, rfl⟩
            rw [HL8.out]
            go_wp2_with fail
            refine HVJ.out.mono ?_
            rintro e w3 ⟨rfl, hb3⟩
            have HB3 := Lib.hid (HBW.out.trans (hb3.mono HBW.out.size)); clear hb3 c0 x13'
            go_wp2_with fail
            go_ret
            exact RetE.mk (HB.out.trans (HB3.out.mono HB.out.size)) HN.out.symm
          | true =>
            rw [hva] at HVJ HBD
            by_cases hsl : pj = sSlash
            · rw [decide_eq_true hsl] at fs HBD
              have HN := Lib.hid (HANY.out (by rw [HBD.out]; rfl))
              clear hva HANY hsl
              go_wp2_with fail
              refine (hasF_any _ _ _).mono ?_
              rintro e wr ⟨rfl, rfl⟩
              rw [HL8.out]
              go_wp2_with fail
              refine HVJ.out.mono ?_
              rintro e w3 ⟨rfl, hb3⟩
              have hco := HCO.out w3 hb3
              obtain ⟨co1, co2⟩ := hco
              have HB3 := Lib.hid (HBW.out.trans (hb3.mono HBW.out.size)); clear hb3 c0 x13'
              go_wp2_with fail
              go_ret
              exact RetE.mk (HB.out.trans (HB3.out.mono HB.out.size)) HN.out.symm
            · rw [decide_eq_false hsl] at fs HBD
              clear hva HANY hsl
              go_wp2_with fail
              refine (hasF_any _ _ _).mono ?_
              rintro e wr ⟨rfl, rfl⟩
              rw [HL8.out]
              go_wp2_with fail
              refine HVJ.out.mono ?_
              rintro e w3 ⟨rfl, hb3⟩
              have hco := HCO.out w3 hb3
              obtain ⟨co1, co2⟩ := hco
              have HB3 := Lib.hid (HBW.out.trans (hb3.mono HBW.out.size)); clear hb3 c0 x13'
              go_wp2_with fail
              go_roundw
              case rel => exact ⟨j + 1, by go_num, by omega, fun k hk => by
                rcases Nat.lt_succ_iff_lt_or_eq.1 hk with h3 | rfl
                · exact HNO.out k h3
                · rw [HPJ.out, HBD.out]; rfl, HB3.out⟩
              case measure => simp [RowKit.intOf]; omega
        · obtain rfl : j = h.p.2.1 := by omega
          have HN := Lib.hid (show nameE v = 0 by
            unfold nameE
            rw [HD.out, if_neg]
            rw [List.any_eq_true]
            rintro ⟨x, hx, hb⟩
            obtain ⟨k, hk, rfl⟩ := List.getElem_of_mem hx
            have := HNO.out k (by rw [← hpn]; exact hk)
            rw [getElem!_pos v.paths k hk] at this
            rw [this] at hb; cases hb)
          go_wp2_with fail
          refine (hasF_any _ _ _).mono ?_
          rintro e wr ⟨rfl, rfl⟩
          rw [HL8.out]
          go_wp2_with fail
          go_ret
          exact RetE.mk (HB.out.trans (HBW.out.mono HB.out.size)) HN.out.symm
    · rw [decide_eq_false h11] at HL8
      rw [if_neg h11] at HD
      have HN := Lib.hid (show nameE v = 0 by unfold nameE; rw [HD.out]; rfl)
      clear h11 HAS x0 x1
      go_wp2_with fail
      go_loop [4] (fun i => i = .int .i64 0) (fun _ => 0)
      case atStart => rfl
      case round =>
        subst hrel
        go_wp2_with fail
        refine (hasF_any _ _ _).mono ?_
        rintro e W ⟨rfl, rfl⟩
        rw [HL8.out]
        go_wp2_with fail
        go_ret
        exact RetE.mk HB.out HN.out.symm
set_option maxRecDepth 100000 in
set_option maxHeartbeats 8000000 in
theorem refGreat_any (h : TxH) (v : TxF) (w : World) (R : Nat → Prop) (hv : locTx w R h v) (hsm : TxSm 1048576 v h.s.2.1) :
    Calls Tryz.prog 97 #[txV h] w (RetB w (greatB v h.s.2.1)) := by
  have hd := hv.2.1.len; have hal := hv.2.2.1.len; have hil := hv.2.2.2.1.len; have hpl := hv.2.2.2.2.len
  have ha9 : h.a.2.1 ≤ 1048576 := by have := hsm.2.2.2.1; omega
  have hi9 : h.i.2.1 ≤ 1048576 := by have := hsm.2.2.2.2.1; omega
  have HD := Lib.hid (show greatB v h.s.2.1 = ((decide (1048575 < h.d.2.1) || decide (16 < h.a.2.1) || decide (1024 < h.p.2.1) || decide (1024 < h.s.2.1)) || v.acl.any (fun a => longB a.2) || v.ids.any longB) by unfold greatB; rw [hd, hal, hpl])
  have HLA := Lib.hid hal; have HLI := Lib.hid hil
  clear hd hpl hal hil hsm
  have hb0 : Below w.heap.size w (w.alloc (.cells #[.int .i32 h.n.ty, .string h.n.path, slV h.d, slV h.a, .int .i64 h.n.ow, .int .i32 h.n.ve, .int .i32 h.n.cr, .bool h.n.qh, .int .i64 h.n.qc, .int .i64 h.n.qb, .int .i64 h.n.si, .int .i32 h.n.st, slV h.i, slV h.p, .int .i32 h.n.co, slV h.s] 33)) := (Below.refl _ w).alloc (Nat.le_refl _) _
  have HG := Lib.hid (heap_s0 w (.cells #[.int .i32 h.n.ty, .string h.n.path, slV h.d, slV h.a, .int .i64 h.n.ow, .int .i32 h.n.ve, .int .i32 h.n.cr, .bool h.n.qh, .int .i64 h.n.qc, .int .i64 h.n.qb, .int .i64 h.n.si, .int .i32 h.n.st, slV h.i, slV h.p, .int .i32 h.n.co, slV h.s] 33))
  have HZ := Lib.hid (sz1 w (.cells #[.int .i32 h.n.ty, .string h.n.path, slV h.d, slV h.a, .int .i64 h.n.ow, .int .i32 h.n.ve, .int .i32 h.n.cr, .bool h.n.qh, .int .i64 h.n.qc, .int .i64 h.n.qb, .int .i64 h.n.si, .int .i32 h.n.st, slV h.i, slV h.p, .int .i32 h.n.co, slV h.s] 33))
  have HL := Lib.hid (hv.down hb0)
  have HB := Lib.hid hb0
  clear hb0
  unfold txV
  go_enter Tryz.func97, Tryz.ntmps97
  go_upto_region 1 with fail
  generalize w.alloc (.cells #[.int .i32 h.n.ty, .string h.n.path, slV h.d, slV h.a, .int .i64 h.n.ow, .int .i32 h.n.ve, .int .i32 h.n.cr, .bool h.n.qh, .int .i64 h.n.qc, .int .i64 h.n.qb, .int .i64 h.n.si, .int .i32 h.n.st, slV h.i, slV h.p, .int .i32 h.n.co, slV h.s] 33) = W at *
  have HC2 := Lib.hid (show ∀ V : World, Below W.heap.size W V → V.cell? ⟨w.heap.size, 2, none⟩ = some (slV h.d) from fun V hV => by rw [cellH ((hV.block _ (by have := HZ.out; omega)).trans HG.out)]; rfl)
  have HC3 := Lib.hid (show ∀ V : World, Below W.heap.size W V → V.cell? ⟨w.heap.size, 3, none⟩ = some (slV h.a) from fun V hV => by rw [cellH ((hV.block _ (by have := HZ.out; omega)).trans HG.out)]; rfl)
  have HC12 := Lib.hid (show ∀ V : World, Below W.heap.size W V → V.cell? ⟨w.heap.size, 12, none⟩ = some (slV h.i) from fun V hV => by rw [cellH ((hV.block _ (by have := HZ.out; omega)).trans HG.out)]; rfl)
  have HC13 := Lib.hid (show ∀ V : World, Below W.heap.size W V → V.cell? ⟨w.heap.size, 13, none⟩ = some (slV h.p) from fun V hV => by rw [cellH ((hV.block _ (by have := HZ.out; omega)).trans HG.out)]; rfl)
  have HC15 := Lib.hid (show ∀ V : World, Below W.heap.size W V → V.cell? ⟨w.heap.size, 15, none⟩ = some (slV h.s) from fun V hV => by rw [cellH ((hV.block _ (by have := HZ.out; omega)).trans HG.out)]; rfl)
  have x2 := HC2.out W (Below.refl _ _); have x3 := HC3.out W (Below.refl _ _); have x12 := HC12.out W (Below.refl _ _); have x13 := HC13.out W (Below.refl _ _); have x15 := HC15.out W (Below.refl _ _)
  have HSA := Lib.hid (HL.out.2.2.1.sl (fun _ => by simp [encAcl]))
  have HSI := Lib.hid (HL.out.2.2.2.1.sl (fun _ => by simp [encId]))
  generalize hb0 : (decide (1048575 < h.d.2.1) || decide (16 < h.a.2.1) || decide (1024 < h.p.2.1) || decide (1024 < h.s.2.1)) = b0 at *
  have HB0 := Lib.hid hb0; clear hb0
  go_cut [3] from 6 to 27 (fun bv wx => bv = .bool b0 ∧ wx = W)
  case first =>
    by_cases h1 : 1048575 < h.d.2.1
    · have d1 : decide (1048575 < (h.d.2.1 : Int)) = true := decide_eq_true (by omega)
      rw [decide_eq_true h1] at HB0
      clear h1
      go_wp2_with fail
      go_meet
      exact ⟨by rw [← HB0.out]; rfl, rfl⟩
    have d1 : decide (1048575 < (h.d.2.1 : Int)) = false := decide_eq_false (by omega)
    rw [decide_eq_false h1] at HB0
    by_cases h2 : 16 < h.a.2.1
    · have d2 : decide (16 < (h.a.2.1 : Int)) = true := decide_eq_true (by omega)
      rw [decide_eq_true h2] at HB0
      clear h1 h2
      go_wp2_with fail
      go_meet
      exact ⟨by rw [← HB0.out]; rfl, rfl⟩
    have d2 : decide (16 < (h.a.2.1 : Int)) = false := decide_eq_false (by omega)
    rw [decide_eq_false h2] at HB0
    by_cases h3 : 1024 < h.p.2.1
    · have d3 : decide (1024 < (h.p.2.1 : Int)) = true := decide_eq_true (by omega)
      rw [decide_eq_true h3] at HB0
      clear h1 h2 h3
      go_wp2_with fail
      go_meet
      exact ⟨by rw [← HB0.out]; rfl, rfl⟩
    have d3 : decide (1024 < (h.p.2.1 : Int)) = false := decide_eq_false (by omega)
    rw [decide_eq_false h3] at HB0
    by_cases h4 : 1024 < h.s.2.1
    · have d4 : decide (1024 < (h.s.2.1 : Int)) = true := decide_eq_true (by omega)
      rw [decide_eq_true h4] at HB0
      clear h1 h2 h3 h4
      go_wp2_with fail
      go_meet
      exact ⟨by rw [← HB0.out]; rfl, rfl⟩
    have d4 : decide (1024 < (h.s.2.1 : Int)) = false := decide_eq_false (by omega)
    rw [decide_eq_false h4] at HB0
    clear h1 h2 h3 h4
    go_wp2_with fail
    go_meet
    exact ⟨by rw [← HB0.out]; rfl, rfl⟩
  case rest =>
  obtain ⟨rfl, rfl⟩ := hcut
  rename World => W
  clear HB0 x2 x13 x15
  go_wp2_with fail
  go_loop [3, 4] (fun bv i => ∃ j : Nat, i = .int .i64 ↑j ∧ j ≤ h.a.2.1 ∧ bv = .bool (b0 || (v.acl.take j).any (fun a => longB a.2))) (fun _ i => h.a.2.1 - (RowKit.intOf i).toNat)
  case atStart => exact ⟨0, rfl, Nat.zero_le _, by simp⟩
  case round =>
  obtain ⟨j, rfl, hj, rfl⟩ := hrel
  by_cases hlt : j < h.a.2.1
  · obtain ⟨b, off, eb, hbl, hcb⟩ := HSA.out.cells hlt
    have c1 : W.cell? ⟨b, off + j * 3 + 1, none⟩ = some (.string v.acl[j]!.2.1) := by have := hcb 1 _ rfl; simpa using this
    have c2 : W.cell? ⟨b, off + j * 3 + 2, none⟩ = some (.string v.acl[j]!.2.2) := by have := hcb 2 _ rfl; simpa using this
    have xs : W.cell? ⟨w.heap.size, 3, none⟩ = some (.slice (some ⟨b, off, none⟩) h.a.2.1 h.a.2.2) := by rw [HC3.out W (Below.refl _ _), ← eb]
    have HT := Lib.hid (show (v.acl.take (j + 1)).any (fun a => longB a.2) = ((v.acl.take j).any (fun a => longB a.2) || (decide (256 < v.acl[j]!.2.1.size) || decide (256 < v.acl[j]!.2.2.size))) by
      rw [take_snoc v.acl j (by rw [HLA.out]; exact hlt), List.any_append]
      show ((v.acl.take j).any (fun a => longB a.2) || ((fun a => longB a.2) v.acl[j]! || false)) = _
      rw [Bool.or_false]; rfl)
    have hji : (j : Int) < (h.a.2.1 : Int) := by omega
    have hj0 : (0 : Int) ≤ (j : Int) := by omega
    clear hcb hbl eb x3
    generalize (v.acl.take j).any (fun a => longB a.2) = pre at *
    generalize v.acl[j]!.2.1 = s1 at *
    generalize v.acl[j]!.2.2 = s2 at *
    cases hb : (b0 || pre) with
    | true =>
      have HN := Lib.hid (show (b0 || (v.acl.take (j + 1)).any (fun a => longB a.2)) = true by rw [HT.out, ← Bool.or_assoc, hb]; rfl)
      clear hb
      go_wp2_with fail
      go_round
      case rel => exact ⟨j + 1, by go_num, by omega, by rw [HN.out]⟩
      case measure => simp [RowKit.intOf]; omega
    | false =>
      by_cases h1 : 256 < s1.size
      · have d1 : decide (256 < (s1.size : Int)) = true := decide_eq_true (by omega)
        have HN := Lib.hid (show (b0 || (v.acl.take (j + 1)).any (fun a => longB a.2)) = true by rw [HT.out, ← Bool.or_assoc, hb, decide_eq_true h1]; rfl)
        clear hb h1
        go_wp2_with fail
        go_round
        case rel => exact ⟨j + 1, by go_num, by omega, by rw [HN.out]⟩
        case measure => simp [RowKit.intOf]; omega
      · have d1 : decide (256 < (s1.size : Int)) = false := decide_eq_false (by omega)
        by_cases h2 : 256 < s2.size
        · have d2 : decide (256 < (s2.size : Int)) = true := decide_eq_true (by omega)
          have HN := Lib.hid (show (b0 || (v.acl.take (j + 1)).any (fun a => longB a.2)) = true by rw [HT.out, ← Bool.or_assoc, hb, decide_eq_true h2, Bool.or_true]; rfl)
          clear hb h1 h2
          go_wp2_with fail
          go_round
          case rel => exact ⟨j + 1, by go_num, by omega, by rw [HN.out]⟩
          case measure => simp [RowKit.intOf]; omega
        · have d2 : decide (256 < (s2.size : Int)) = false := decide_eq_false (by omega)
          have HN := Lib.hid (show (b0 || (v.acl.take (j + 1)).any (fun a => longB a.2)) = false by rw [HT.out, ← Bool.or_assoc, hb, decide_eq_false h1, decide_eq_false h2]; rfl)
          clear hb h1 h2
          go_wp2_with fail
          go_round
          case rel => exact ⟨j + 1, by go_num, by omega, by rw [HN.out]⟩
          case measure => simp [RowKit.intOf]; omega
  obtain rfl : j = h.a.2.1 := by omega
  rw [show (v.acl.take h.a.2.1).any (fun a => longB a.2) = v.acl.any (fun a => longB a.2) by rw [← HLA.out, List.take_length]]
  generalize (v.acl.any (fun a => longB a.2)) = ba at *
  go_wp2_with fail
  have HD2 := Lib.hid HD.out
  generalize hb1 : (b0 || ba) = b1 at *
  go_loop [3, 5] (fun bv i => ∃ j : Nat, i = .int .i64 ↑j ∧ j ≤ h.i.2.1 ∧ bv = .bool (b1 || (v.ids.take j).any longB)) (fun _ i => h.i.2.1 - (RowKit.intOf i).toNat)
  case atStart => exact ⟨0, rfl, Nat.zero_le _, by simp⟩
  case round =>
  obtain ⟨j, rfl, hj, rfl⟩ := hrel
  by_cases hlt : j < h.i.2.1
  · obtain ⟨b, off, eb, hbl, hcb⟩ := HSI.out.cells hlt
    have c1 : W.cell? ⟨b, off + j * 2, none⟩ = some (.string v.ids[j]!.1) := by have := hcb 0 _ rfl; simpa using this
    have c2 : W.cell? ⟨b, off + j * 2 + 1, none⟩ = some (.string v.ids[j]!.2) := by have := hcb 1 _ rfl; simpa using this
    have xs : W.cell? ⟨w.heap.size, 12, none⟩ = some (.slice (some ⟨b, off, none⟩) h.i.2.1 h.i.2.2) := by rw [HC12.out W (Below.refl _ _), ← eb]
    have HT := Lib.hid (show (v.ids.take (j + 1)).any longB = ((v.ids.take j).any longB || (decide (256 < v.ids[j]!.1.size) || decide (256 < v.ids[j]!.2.size))) by
      rw [take_snoc v.ids j (by rw [HLI.out]; exact hlt), List.any_append]
      show ((v.ids.take j).any longB || (longB v.ids[j]! || false)) = _
      rw [Bool.or_false]; rfl)
    have hji : (j : Int) < (h.i.2.1 : Int) := by omega
    have hj0 : (0 : Int) ≤ (j : Int) := by omega
    clear hcb hbl eb x12
    generalize (v.ids.take j).any longB = pre at *
    generalize v.ids[j]!.1 = s1 at *
    generalize v.ids[j]!.2 = s2 at *
    cases hb : (b1 || pre) with
    | true =>
      have HN := Lib.hid (show (b1 || (v.ids.take (j + 1)).any longB) = true by rw [HT.out, ← Bool.or_assoc, hb]; rfl)
      clear hb
      go_wp2_with fail
      go_round
      case rel => exact ⟨j + 1, by go_num, by omega, by rw [HN.out]⟩
      case measure => simp [RowKit.intOf]; omega
    | false =>
      by_cases h1 : 256 < s1.size
      · have d1 : decide (256 < (s1.size : Int)) = true := decide_eq_true (by omega)
        have HN := Lib.hid (show (b1 || (v.ids.take (j + 1)).any longB) = true by rw [HT.out, ← Bool.or_assoc, hb, decide_eq_true h1]; rfl)
        clear hb h1
        go_wp2_with fail
        go_round
        case rel => exact ⟨j + 1, by go_num, by omega, by rw [HN.out]⟩
        case measure => simp [RowKit.intOf]; omega
      · have d1 : decide (256 < (s1.size : Int)) = false := decide_eq_false (by omega)
        by_cases h2 : 256 < s2.size
        · have d2 : decide (256 < (s2.size : Int)) = true := decide_eq_true (by omega)
          have HN := Lib.hid (show (b1 || (v.ids.take (j + 1)).any longB) = true by rw [HT.out, ← Bool.or_assoc, hb, decide_eq_true h2, Bool.or_true]; rfl)
          clear hb h1 h2
          go_wp2_with fail
          go_round
          case rel => exact ⟨j + 1, by go_num, by omega, by rw [HN.out]⟩
          case measure => simp [RowKit.intOf]; omega
        · have d2 : decide (256 < (s2.size : Int)) = false := decide_eq_false (by omega)
          have HN := Lib.hid (show (b1 || (v.ids.take (j + 1)).any longB) = false by rw [HT.out, ← Bool.or_assoc, hb, decide_eq_false h1, decide_eq_false h2]; rfl)
          clear hb h1 h2
          go_wp2_with fail
          go_round
          case rel => exact ⟨j + 1, by go_num, by omega, by rw [HN.out]⟩
          case measure => simp [RowKit.intOf]; omega
  obtain rfl : j = h.i.2.1 := by omega
  rw [show (v.ids.take h.i.2.1).any longB = v.ids.any longB by rw [← HLI.out, List.take_length]]
  go_wp2_with fail
  go_ret
  exact RetB.mk HB.out HD.out.symm
end Go.Proofs.YthpjneobmmpbnaaGreatDoor
