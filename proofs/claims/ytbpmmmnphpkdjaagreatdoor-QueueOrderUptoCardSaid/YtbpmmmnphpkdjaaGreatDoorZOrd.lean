/- The law QueueOrder. Condition: bulk at most 2^20. -/
import Derived.Test.YtbpmmmnphpkdjaaGreatDoorZOrdT
import Derived.Test.YtbpmmmnphpkdjaaGreatDoorZOpD
namespace Go.Proofs.YtbpmmmnphpkdjaaGreatDoor
open Go.RowKit Go.MapKept Go.Maps
theorem undQo : Tryz.prog.underlying 77 = some (.struct (Tryz.prog.fieldsOf 77)) := by kernel_rfl
theorem infQo : (Tryz.prog.info? 77).map (·.size) = some 48 := by kernel_rfl
theorem made_rep (v : Nat) (_h : v ≤ 9) : madeCells #[.int .i64 0] (v * 1) = ((List.replicate v (0 : Int)).map (Value.int .i64)).toArray := by
  unfold madeCells
  apply Array.ext
  · simp
  · intro i h1 h2
    simp [Nat.mod_one]
set_option linter.unusedSimpArgs false in
set_option maxRecDepth 100000 in
set_option maxHeartbeats 20000000 in
theorem queueOrder_any (bound voters : Int) (A0 : Option Addr) (n0 c0 : Nat) (l0 : List QoV) (w : World) (hE : Env w)
    (o0 : Sl w w.heap.size (fun z : QoV => encQo z.1 z.2.1) 48 A0 n0 l0) (z0 : n0 ≤ 1048576) (q0 : ∀ j, j < n0 → QoOk w 1048576 l0[j]!) :
    Calls Tryz.prog 6 #[.int .i64 bound, .int .i64 voters, .slice A0 n0 c0] w (RetB w true) := by
  have HE := Lib.hid hE; have HO0 := Lib.hid o0; have HQ0 := Lib.hid q0
  have HLV := Lib.hid (live26_any w hE)
  clear hE o0 q0
  go_enter Tryz.func6, Tryz.ntmps6
  go_wp2_with fail
  refine HLV.out.mono ?_
  rintro e w1 ⟨rfl, hb1⟩
  have HB1 := Lib.hid hb1; clear hb1 HLV
  by_cases hbad : bound < 0 ∨ 4096 < bound ∨ voters < 0 ∨ 9 < voters
  · have HN := Lib.hid (new_no bound voters w1 hbad)
    go_wp2_with fail
    refine HN.out.mono ?_
    rintro e w2 ⟨rfl, hb⟩
    have HB2 := Lib.hid (HB1.out.trans (hb.mono HB1.out.size)); clear hb HN
    go_wp2_with fail
    refine (no26_any _ _).mono ?_
    rintro e w' ⟨rfl, rfl⟩
    by_cases h1 : bound < 0
    · have b1 : decide (bound < 0) = true := decide_eq_true h1
      clear hbad
      go_wp2_with fail
      go_ret
      exact RetB.mk HB2.out rfl
    · have b1 : decide (bound < 0) = false := decide_eq_false h1
      by_cases h2 : 4096 < bound
      · have b2 : decide (4096 < bound) = true := decide_eq_true h2
        clear hbad
        go_wp2_with fail
        go_ret
        exact RetB.mk HB2.out rfl
      · have b2 : decide (4096 < bound) = false := decide_eq_false h2
        by_cases h3 : voters < 0
        · have b3 : decide (voters < 0) = true := decide_eq_true h3
          clear hbad
          go_wp2_with fail
          go_ret
          exact RetB.mk HB2.out rfl
        · have b3 : decide (voters < 0) = false := decide_eq_false h3
          have b4 : decide (9 < voters) = true := decide_eq_true (by omega)
          clear hbad
          go_wp2_with fail
          go_ret
          exact RetB.mk HB2.out rfl
  obtain ⟨v, rfl⟩ : ∃ v : Nat, voters = (v : Int) := ⟨voters.toNat, by omega⟩
  have HV := Lib.hid (show 0 ≤ bound ∧ bound ≤ 4096 ∧ v ≤ 9 by omega)
  clear hbad
  have HN := Lib.hid (new_ok bound v w1 HV.out.1 HV.out.2.1 HV.out.2.2)
  go_wp2_with fail
  refine HN.out.mono ?_
  rintro e w2 ⟨⟨bq, x, R, rfl, hq, g1, g2, g3, g4⟩, hb2⟩
  have hmk : (Instr.makeSlice 75 (.int .i64 ↑v) (.int .i64 ↑v)).run Tryz.prog w2 = .ok (.slice (some ⟨w2.heap.size, 0, none⟩) v v) (w2.alloc (.cells (madeCells #[.int .i64 0] (v * 1)) 2)) := run_mk Tryz.underlying75 infoI64 (by decide) v (by have := HV.out; omega) w2
  rw [made_rep v HV.out.2.2] at hmk
  have HST := Lib.hid (show OrS w (w2.alloc (.cells ((newS bound v).acked.map (Value.int .i64)).toArray 2)) bq w2.heap.size (newS bound v) x R none 0 0 (zxs (newS bound v).L) (newS bound v).acked from by
    have s1 := HB1.out.size; have s2 := hb2.size
    have a1 := hq.lt; have a2 := hq.gr; have a3 := hq.ga
    have hb3 : Below w2.heap.size w2 (w2.alloc (.cells ((newS bound v).acked.map (Value.int .i64)).toArray 2)) := (Below.refl _ w2).alloc (Nat.le_refl _) _
    have hb0 : Below w.heap.size w w2 := HB1.out.trans (hb2.mono HB1.out.size)
    exact ⟨hq.below hb3, newS_inv bound v HV.out.1 HV.out.2.1 HV.out.2.2, EqVs.made bound v, ⟨by omega, by omega, by omega, by omega⟩, hb0.trans (hb3.mono hb0.size), ⟨by omega, by omega, by omega, fun hr => by have := hq.q.lt _ hr; omega⟩, fun _ _ e => (by cases e), PuA.nil, heap_s0 w2 _⟩)
  clear hq g1 g2 g3 g4 hb2 HB1 HN
  go_wp2_with fail
  refine (no26_any _ _).mono ?_
  rintro e w' ⟨rfl, rfl⟩
  go_wp2_with fail
  go_loopw [9, 11, 12, 13, 14, 15, 16, 17, 18, 19] (fun ps la i _ _ _ _ _ _ _ wr => ∃ (j : Nat) (st : QuT) (x : QuX) (R : Nat → Prop) (A : Option Addr) (n c : Nat), i = .int .i64 ↑j ∧ j ≤ n0 ∧ ps = .slice A n c ∧ la = .int .i64 st.committed ∧ st.bound = bound ∧ st.acked.length = v ∧ OrS w wr bq w2.heap.size st x R A n c (zxs st.L) st.acked) (fun _ _ i _ _ _ _ _ _ _ _ => n0 - (intOf i).toNat)
  case atStart => exact ⟨0, newS bound v, x, R, none, 0, 0, rfl, Nat.zero_le _, rfl, rfl, rfl, by simp [newS], by
    rw [show Array.replicate v (Value.int .i64 0) = ((newS bound v).acked.map (Value.int .i64)).toArray from by simp [newS]]
    exact HST.out⟩
  case round =>
  clear HST x R hmk
  obtain ⟨j, st, x, R, A, n, c, rfl, hj, rfl, rfl, hbd, hvl, hs⟩ := hrel
  have HS := Lib.hid hs; have HBD := Lib.hid hbd; have HVL := Lib.hid hvl
  clear hs hbd hvl
  by_cases hlt : j < n0
  · have ⟨b, off, eb, _, hcb⟩ := HO0.out.cells hlt
    have HQ := Lib.hid (HQ0.out j hlt)
    have HCB := Lib.hid (show ∀ V : World, Below w.heap.size w V → V.rangeAt b (off + j * 48) (encQo l0[j]!.1 l0[j]!.2.1) from fun V hV i u hu => keep1 (hcb i u hu) hV)
    have hji : (j : Int) < (n0 : Int) := by omega
    have hj0 : (0 : Int) ≤ (j : Int) := by omega
    clear hcb
    subst eb
    have y0 := HCB.out wr HS.out.b
    generalize l0[j]! = z at *
    have HG := Lib.hid (heap_s0 wr (.cells (encQo z.1 z.2.1).toArray 77))
    have HZ1 := Lib.hid (sz1 wr (.cells (encQo z.1 z.2.1).toArray 77))
    have HS2 := Lib.hid (HS.out.later (show Below wr.heap.size wr (wr.alloc (.cells (encQo z.1 z.2.1).toArray 77)) from (Below.refl _ wr).alloc (Nat.le_refl _) _))
    go_upto_region 13 with (first
      | (apply wpList_loadMid 77; exact rfl; exact rfl; exact rfl; exact y0; exact undQo; exact rfl; exact infQo)
      | (apply wpList_storeTop 77 77; exact rfl; exact rfl; exact rfl; (first | (with_reducible rfl) | (exact sz1 _ _)); exact rfl; exact infQo; exact rfl; (simp [encQo, encPr, slV, Value.oneCell']))
      | fail)
    generalize wr.alloc (.cells (encQo z.1 z.2.1).toArray 77) = W at *
    obtain ⟨⟨k, on, oz⟩, h, p⟩ := z
    have HBX := Lib.hid (show wr.heap.size < W.heap.size ∧ wr.heap.size ≠ bq ∧ wr.heap.size ≠ x.gr ∧ wr.heap.size ≠ x.ga from by
      have h1 := HS.out.q.lt; have h2 := HS.out.q.gr; have h3 := HS.out.q.ga; have h4 := HZ1.out
      exact ⟨by omega, by omega, by omega, by omega⟩)
    have k0 : W.cell? ⟨wr.heap.size, 0, none⟩ = some (.int .i64 k) := by rw [cellH HG.out]; rfl
    have k1 : W.cell? ⟨wr.heap.size, 1, none⟩ = some (.int .i64 on) := by rw [cellH HG.out]; rfl
    have k2 : W.cell? ⟨wr.heap.size, 2, none⟩ = some (.int .i64 oz) := by rw [cellH HG.out]; rfl
    clear HS
    have HJ := Lib.hid (show j + 1 ≤ n0 by omega)
    generalize wr.heap.size = g at *
    clear y0 HCB HZ1
    by_cases hk1 : k = 1
    · have t1 : (k == 1) = true := by rw [hk1]; rfl
      clear hk1
      have y1 : W.rangeAt g 3 [.int .i64 h.d.se, .int .i32 h.d.xi, .int .i64 h.d.zx, .int .i64 h.d.ti, .int .i32 h.d.t.n.ty, .string h.d.t.n.path, slV h.d.t.d, slV h.d.t.a, .int .i64 h.d.t.n.ow, .int .i32 h.d.t.n.ve, .int .i32 h.d.t.n.cr, .bool h.d.t.n.qh, .int .i64 h.d.t.n.qc, .int .i64 h.d.t.n.qb, .int .i64 h.d.t.n.si, .int .i32 h.d.t.n.st, slV h.d.t.i, slV h.d.t.p, .int .i32 h.d.t.n.co, slV h.d.t.s] := rangeAt_heapC (pre := [.int .i64 k, .int .i64 on, .int .i64 oz]) (mid := [.int .i64 h.d.se, .int .i32 h.d.xi, .int .i64 h.d.zx, .int .i64 h.d.ti, .int .i32 h.d.t.n.ty, .string h.d.t.n.path, slV h.d.t.d, slV h.d.t.a, .int .i64 h.d.t.n.ow, .int .i32 h.d.t.n.ve, .int .i32 h.d.t.n.cr, .bool h.d.t.n.qh, .int .i64 h.d.t.n.qc, .int .i64 h.d.t.n.qb, .int .i64 h.d.t.n.si, .int .i32 h.d.t.n.st, slV h.d.t.i, slV h.d.t.p, .int .i32 h.d.t.n.co, slV h.d.t.s]) (post := encRp h.r) HG.out rfl rfl
      have y2 : W.rangeAt g 23 [.int .i32 h.r.xi, .int .i64 h.r.zx, .int .i32 h.r.co, .int .i32 h.r.r.n.ty, .int .i32 h.r.r.n.co, .string h.r.r.n.path, .int .i64 h.r.r.n.q.a, .int .i64 h.r.r.n.q.b, .int .i64 h.r.r.n.q.c, .int .i64 h.r.r.n.q.d, .int .i32 h.r.r.n.q.e, .int .i32 h.r.r.n.q.f, .int .i32 h.r.r.n.q.g, .int .i64 h.r.r.n.q.h, .int .i32 h.r.r.n.q.i, .int .i32 h.r.r.n.q.j, .int .i64 h.r.r.n.q.k, slV h.r.r.d, slV h.r.r.a, slV h.r.r.m, .int .i32 h.r.r.n.ct, .int .i64 h.r.r.n.si, .int .i32 h.r.r.n.st, slV h.r.r.i, slV h.r.r.s] := rangeAt_heapC (pre := [.int .i64 k, .int .i64 on, .int .i64 oz] ++ encDl h.d) (mid := [.int .i32 h.r.xi, .int .i64 h.r.zx, .int .i32 h.r.co, .int .i32 h.r.r.n.ty, .int .i32 h.r.r.n.co, .string h.r.r.n.path, .int .i64 h.r.r.n.q.a, .int .i64 h.r.r.n.q.b, .int .i64 h.r.r.n.q.c, .int .i64 h.r.r.n.q.d, .int .i32 h.r.r.n.q.e, .int .i32 h.r.r.n.q.f, .int .i32 h.r.r.n.q.g, .int .i64 h.r.r.n.q.h, .int .i32 h.r.r.n.q.i, .int .i32 h.r.r.n.q.j, .int .i64 h.r.r.n.q.k, slV h.r.r.d, slV h.r.r.a, slV h.r.r.m, .int .i32 h.r.r.n.ct, .int .i64 h.r.r.n.si, .int .i32 h.r.r.n.st, slV h.r.r.i, slV h.r.r.s]) (post := []) HG.out rfl rfl
      have HPA := Lib.hid (show PrAt W (· < w.heap.size) h p from PrAt.fr (R' := (· < w.heap.size)) HQ.out.2.1 (Fr.of_below (own := []) HS2.out.b) (fun b _ h => ⟨by simp, h⟩))
      have HZX := Lib.hid (show h.d.zx = p.d.zx from HPA.out.1.1.2.2.1.symm)
      have HP := Lib.hid (pushW HS2.out.q HS2.out.inv HPA.out (HS2.out.env HE.out) HQ.out.2.2)
      clear k1 k2 HPA
      go_upto_region 15 with fail
      go_wp2_with (first
        | (apply wpList_loadMid 54; exact rfl; exact rfl; exact rfl; exact y1; exact undDl; exact rfl; exact infDl)
        | (apply wpList_loadMid 61; exact rfl; exact rfl; exact rfl; exact y2; exact undRp; exact rfl; exact infRp)
        | fail)
      refine HP.out.mono ?_
      rintro e w5 ⟨rfl, hs⟩
      obtain ⟨x3, R3, hs3⟩ := HS2.out.step hs (pushS_inv HS2.out.inv p HQ.out.2.2) (EqVs.push HS2.out.eqv p)
      have HS3 := Lib.hid hs3
      have HG5 := Lib.hid ((HS2.out.side HBX.out.1 HBX.out.2 hs).trans HG.out)
      have HSM := Lib.hid (pushS_same st p)
      have HZS := Lib.hid (pushS_zxs (st := st) (p := p))
      clear hs hs3 y1 y2 k0 HP HS2 HG
      go_wp2_with fail
      refine (no26_any _ _).mono ?_
      rintro e w' ⟨rfl, rfl⟩
      by_cases he : pushE st p = 0
      · rw [if_pos he] at HZS
        have t2 : (pushE st p == 0) = true := by rw [he]; rfl
        clear he
        generalize pushE st p = pe at *
        have k5 : w5.cell? ⟨g, 5, none⟩ = some (.int .i64 p.d.zx) := by rw [cellH HG5.out, ← HZX.out]; rfl
        have HS4 := Lib.hid (HS3.out.later (show Below w5.heap.size w5 (w5.alloc (.cells #[.int .i64 p.d.zx] 2)) from (Below.refl _ w5).alloc (Nat.le_refl _) _))
        have hg4 : (w5.alloc (.cells #[.int .i64 p.d.zx] 2)).cell? ⟨w5.heap.size, 0, none⟩ = some (.int .i64 p.d.zx) := by rw [cellH (heap_s0 w5 _)]; rfl
        have hn4 : n ≤ 1048576 := by
          have h1 := HS3.out.p.len; have h2 := HS3.out.inv.l4
          rw [zxs_len] at h1
          have h3 := congrArg List.length HZS.out
          rw [zxs_len, List.length_append, zxs_len] at h3
          omega
        have HG4 := Lib.hid hg4
        clear hg4
        go_wp2_with (at_builtin; refine wpList_appP HS4.out.p HS4.out.b.size w5.heap.size p.d.zx rfl _ _ rfl ?hx9 ?hy9 HG4.out hn4 ?hk9)
        (try case hx9 => rfl)
        (try case hy9 => rfl)
        case hk9 =>
          intro A6 c6 w6 hp6 hor6
          have HS6 := Lib.hid (show OrS w w6 bq w2.heap.size (pushS st p) x3 R3 A6 (n + 1) c6 (zxs (pushS st p).L) (pushS st p).acked from by
            rw [HZS.out, HSM.out.2.2]; exact HS4.out.app hp6 hor6)
          clear hp6 hor6 HS4 HS3 HG5 HG4 k5
          have HIV := Lib.hid HS6.out.inv
          have hln : n + 1 = (pushS st p).L.length := by have := HS6.out.p.len; rw [zxs_len] at this; omega
          have tb : decide (bound < ((n : Int) + 1)) = false := decide_eq_false (by have h1 := HIV.out.len; have h2 : (pushS st p).bound = bound := (by rw [HSM.out.2.1]; exact HBD.out); omega)
          have tl : (((pushS st p).L.length : Int) != ((n : Int) + 1)) = false := by rw [← hln]; simp
          clear HIV hln hlt
          go_wp2_with fail
          refine (queLen_any _ _ _ _ _ HS6.out.q.q).mono ?_
          rintro e w9 ⟨rfl, q9, rfl⟩
          have HS9 := Lib.hid (HS6.out.later (drewN_self _ q9))
          go_wp2_with fail
          go_roundw
          case rel => exact ⟨j + 1, pushS st p, x3, R3, A6, n + 1, c6, by go_num, HJ.out, rfl, by rw [HSM.out.1], by rw [HSM.out.2.1]; exact HBD.out, by rw [HSM.out.2.2]; exact HVL.out, HS9.out⟩
          case measure => simp [intOf]; have := HJ.out; omega
      · rw [if_neg he] at HZS
        have t2 : (pushE st p == 0) = false := beq_eq_false_iff_ne.2 he
        clear he
        generalize pushE st p = pe at *
        have HS6 := Lib.hid (show OrS w w5 bq w2.heap.size (pushS st p) x3 R3 A n c (zxs (pushS st p).L) (pushS st p).acked from by
            rw [HZS.out, HSM.out.2.2]; exact HS3.out)
        clear HS3
        have HIV := Lib.hid HS6.out.inv
        have hln : n = (pushS st p).L.length := by have := HS6.out.p.len; rw [zxs_len] at this; omega
        have tb : decide (bound < ((n : Nat) : Int)) = false := decide_eq_false (by have h1 := HIV.out.len; have h2 : (pushS st p).bound = bound := (by rw [HSM.out.2.1]; exact HBD.out); omega)
        have tl : (((pushS st p).L.length : Int) != ((n : Nat) : Int)) = false := by rw [← hln]; simp
        clear HIV hln hlt
        go_wp2_with fail
        refine (queLen_any _ _ _ _ _ HS6.out.q.q).mono ?_
        rintro e w9 ⟨rfl, q9, rfl⟩
        have HS9 := Lib.hid (HS6.out.later (drewN_self _ q9))
        go_wp2_with fail
        go_roundw
        case rel => exact ⟨j + 1, pushS st p, x3, R3, A, n, c, by go_num, HJ.out, rfl, by rw [HSM.out.1], by rw [HSM.out.2.1]; exact HBD.out, by rw [HSM.out.2.2]; exact HVL.out, HS9.out⟩
        case measure => simp [intOf]; have := HJ.out; omega
    · have u1 : (k == 1) = false := beq_eq_false_iff_ne.2 hk1
      clear hk1
      by_cases hk2 : k = 2
      · have t2 : (k == 2) = true := by rw [hk2]; rfl
        clear hk2
        have HP := Lib.hid (ackW on oz HS2.out.q HS2.out.inv)
        go_wp2_with fail
        refine HP.out.mono ?_
        rintro e w5 ⟨rfl, hs⟩
        obtain ⟨x3, R3, hs3⟩ := HS2.out.step hs (ackT_inv HS2.out.inv on oz) (EqVs.ack HS2.out.eqv on oz)
        have HS3 := Lib.hid hs3
        have HG5 := Lib.hid ((HS2.out.side HBX.out.1 HBX.out.2 hs).trans HG.out)
        have HSM := Lib.hid (ackT_same st on oz)
        have k1' : w5.cell? ⟨g, 1, none⟩ = some (.int .i64 on) := by rw [cellH HG5.out]; rfl
        have k2' : w5.cell? ⟨g, 2, none⟩ = some (.int .i64 oz) := by rw [cellH HG5.out]; rfl
        clear hs hs3 k0 k1 k2 HP HS2 HG
        by_cases hin : 0 ≤ on ∧ on < st.acked.length ∧ 0 ≤ oz ∧ oz ≤ st.last
        · obtain ⟨i, rfl⟩ : ∃ i : Nat, on = (i : Int) := ⟨on.toNat, by omega⟩
          have ea := ack_in hin
          rw [Int.toNat_natCast] at ea
          have hi : i < st.acked.length := by omega
          have t3 : (ackC st ↑i oz == 0) = true := by rw [ea.1]; rfl
          have HEA := Lib.hid ea.2
          have HLA := Lib.hid (show ∀ V ks, OrS w V bq w2.heap.size (ackT st ↑i oz) x3 R3 A n c (zxs st.L) ks → ks = (ackT st ↑i oz).acked → OrS w V bq w2.heap.size (ackT st ↑i oz) x3 R3 A n c (zxs (ackT st ↑i oz).L) (ackT st ↑i oz).acked from fun V ks h e => by rw [HSM.out.2.2.1, ← e]; exact h)
          have ck : w5.cell? ⟨w2.heap.size, i, none⟩ = some (.int .i64 st.acked[i]!) := HS3.out.kc hi
          have fk : w5.frozen? ⟨w2.heap.size, i, none⟩ = false := HS3.out.kf i
          have hiv : (i : Int) < (v : Int) := by have := HVL.out; omega
          have hi0 : (0 : Int) ≤ (i : Int) := by omega
          have HY := Lib.hid (show st.acked.set i st.acked[i]! = st.acked from set_self _ _ hi)
          clear ea hin hi
          generalize st.acked[i]! = y at *
          generalize ackC st ↑i oz = ac at *
          generalize (↑(rdN (ackT st ↑i oz)) - ↑(rdN st) : Int) = rr at *
          by_cases hgt : y < oz
          · have t4 : decide (y < oz) = true := decide_eq_true hgt
            have HS4 := Lib.hid (fun q => HLA.out ((w5.drewN q).setCell ⟨w2.heap.size, i, none⟩ (.int .i64 oz)) _ ((HS3.out.later (drewN_below (Below.refl _ w5) q)).setK oz) (by rw [HEA.out]; congr 1; omega))
            clear hgt
            go_wp2_with fail
            go_quiet (exact no26_q _ _ _)
            have HS6 := Lib.hid (HS4.out nq)
            clear HS4 HLA HY HEA HG5 HS3
            have HIV := Lib.hid HS6.out.inv
            have hln : n = (ackT st ↑i oz).L.length := by have := HS6.out.p.len; rw [zxs_len] at this; omega
            have tb : decide (bound < ((n : Nat) : Int)) = false := decide_eq_false (by have h1 := HIV.out.len; have h2 : (ackT st ↑i oz).bound = bound := (by rw [HSM.out.2.1]; exact HBD.out); omega)
            have tl : (((ackT st ↑i oz).L.length : Int) != ((n : Nat) : Int)) = false := by rw [← hln]; simp
            clear HIV hln hlt
            go_wp2_with fail
            refine (queLen_any _ _ _ _ _ HS6.out.q.q).mono ?_
            rintro e w9 ⟨rfl, q9, rfl⟩
            have HS9 := Lib.hid (HS6.out.later (drewN_self _ q9))
            go_wp2_with fail
            go_roundw
            case rel => exact ⟨j + 1, ackT st ↑i oz, x3, R3, A, n, c, by go_num, HJ.out, rfl, by rw [HSM.out.1], by rw [HSM.out.2.1]; exact HBD.out, by rw [HSM.out.2.2.2]; exact HVL.out, HS9.out⟩
            case measure => simp [intOf]; have := HJ.out; omega
          · have t4 : decide (y < oz) = false := decide_eq_false hgt
            have HS4 := Lib.hid (fun q => HLA.out (w5.drewN q) _ (HS3.out.later (drewN_below (Below.refl _ w5) q)) (by rw [HEA.out, show max y oz = y by omega]; exact HY.out.symm))
            clear hgt
            go_wp2_with fail
            go_quiet (exact no26_q _ _ _)
            have HS6 := Lib.hid (HS4.out nq)
            clear HS4 HLA HY HEA HG5 HS3 ck fk k1' k2'
            generalize w5.drewN nq = W6 at *
            have HIV := Lib.hid HS6.out.inv
            have hln : n = (ackT st ↑i oz).L.length := by have := HS6.out.p.len; rw [zxs_len] at this; omega
            have tb : decide (bound < ((n : Nat) : Int)) = false := decide_eq_false (by have h1 := HIV.out.len; have h2 : (ackT st ↑i oz).bound = bound := (by rw [HSM.out.2.1]; exact HBD.out); omega)
            have tl : (((ackT st ↑i oz).L.length : Int) != ((n : Nat) : Int)) = false := by rw [← hln]; simp
            clear HIV hln hlt
            go_wp2_with fail
            refine (queLen_any _ _ _ _ _ HS6.out.q.q).mono ?_
            rintro e w9 ⟨rfl, q9, rfl⟩
            have HS9 := Lib.hid (HS6.out.later (drewN_self _ q9))
            go_wp2_with fail
            go_roundw
            case rel => exact ⟨j + 1, ackT st ↑i oz, x3, R3, A, n, c, by go_num, HJ.out, rfl, by rw [HSM.out.1], by rw [HSM.out.2.1]; exact HBD.out, by rw [HSM.out.2.2.2]; exact HVL.out, HS9.out⟩
            case measure => simp [intOf]; have := HJ.out; omega
        · have ea := ack_out hin
          have t3 : (ackC st on oz == 0) = false := by rw [ea.1]; rfl
          have HS4 := Lib.hid (fun q => show OrS w (w5.drewN q) bq w2.heap.size st x3 R3 A n c (zxs st.L) st.acked from by
            have h := HS3.out.later (drewN_below (Below.refl _ w5) q)
            rwa [ea.2] at h)
          clear ea hin HSM HS3
          generalize ackC st on oz = ac at *
          generalize (↑(rdN (ackT st on oz)) - ↑(rdN st) : Int) = rr at *
          go_wp2_with fail
          go_quiet (exact no26_q _ _ _)
          have HS6 := Lib.hid (HS4.out nq)
          clear HS4 HG5 k1' k2'
          generalize w5.drewN nq = W6 at *
          have HIV := Lib.hid HS6.out.inv
          have hln : n = (st).L.length := by have := HS6.out.p.len; rw [zxs_len] at this; omega
          have tb : decide (bound < ((n : Nat) : Int)) = false := decide_eq_false (by have h1 := HIV.out.len; have h2 : (st).bound = bound := (HBD.out); omega)
          have tl : (((st).L.length : Int) != ((n : Nat) : Int)) = false := by rw [← hln]; simp
          clear HIV hln hlt
          go_wp2_with fail
          refine (queLen_any _ _ _ _ _ HS6.out.q.q).mono ?_
          rintro e w9 ⟨rfl, q9, rfl⟩
          have HS9 := Lib.hid (HS6.out.later (drewN_self _ q9))
          go_wp2_with fail
          go_roundw
          case rel => exact ⟨j + 1, st, x3, R3, A, n, c, by go_num, HJ.out, rfl, rfl, HBD.out, HVL.out, HS9.out⟩
          case measure => simp [intOf]; have := HJ.out; omega
      · have u2 : (k == 2) = false := beq_eq_false_iff_ne.2 hk2
        clear hk2
        by_cases hk3 : k = 3
        · have t3 : (k == 3) = true := by rw [hk3]; rfl
          clear hk3
          have HP := Lib.hid (commW HS2.out.q HS2.out.inv)
          clear k1 k2
          go_wp2_with fail
          refine HP.out.mono ?_
          rintro e w5 ⟨⟨h2, rfl, hp1, -⟩, hs⟩
          obtain ⟨x3, R3, hs3⟩ := HS2.out.step hs (commT_inv HS2.out.inv) (EqVs.comm HS2.out.eqv)
          have HSM := Lib.hid (commT_same st)
          have HBB := Lib.hid (show Below w5.heap.size w5 (w5.alloc (.cells #[.int .i64 h2.d.se, .int .i32 h2.d.xi, .int .i64 h2.d.zx, .int .i64 h2.d.ti, .int .i32 h2.d.t.n.ty, .string h2.d.t.n.path, slV h2.d.t.d, slV h2.d.t.a, .int .i64 h2.d.t.n.ow, .int .i32 h2.d.t.n.ve, .int .i32 h2.d.t.n.cr, .bool h2.d.t.n.qh, .int .i64 h2.d.t.n.qc, .int .i64 h2.d.t.n.qb, .int .i64 h2.d.t.n.si, .int .i32 h2.d.t.n.st, slV h2.d.t.i, slV h2.d.t.p, .int .i32 h2.d.t.n.co, slV h2.d.t.s, .int .i32 h2.r.xi, .int .i64 h2.r.zx, .int .i32 h2.r.co, .int .i32 h2.r.r.n.ty, .int .i32 h2.r.r.n.co, .string h2.r.r.n.path, .int .i64 h2.r.r.n.q.a, .int .i64 h2.r.r.n.q.b, .int .i64 h2.r.r.n.q.c, .int .i64 h2.r.r.n.q.d, .int .i32 h2.r.r.n.q.e, .int .i32 h2.r.r.n.q.f, .int .i32 h2.r.r.n.q.g, .int .i64 h2.r.r.n.q.h, .int .i32 h2.r.r.n.q.i, .int .i32 h2.r.r.n.q.j, .int .i64 h2.r.r.n.q.k, slV h2.r.r.d, slV h2.r.r.a, slV h2.r.r.m, .int .i32 h2.r.r.n.ct, .int .i64 h2.r.r.n.si, .int .i32 h2.r.r.n.st, slV h2.r.r.i, slV h2.r.r.s] 63)) from (Below.refl _ w5).alloc (Nat.le_refl _) _)
          have HG6 := Lib.hid (heap_s0 w5 (.cells #[.int .i64 h2.d.se, .int .i32 h2.d.xi, .int .i64 h2.d.zx, .int .i64 h2.d.ti, .int .i32 h2.d.t.n.ty, .string h2.d.t.n.path, slV h2.d.t.d, slV h2.d.t.a, .int .i64 h2.d.t.n.ow, .int .i32 h2.d.t.n.ve, .int .i32 h2.d.t.n.cr, .bool h2.d.t.n.qh, .int .i64 h2.d.t.n.qc, .int .i64 h2.d.t.n.qb, .int .i64 h2.d.t.n.si, .int .i32 h2.d.t.n.st, slV h2.d.t.i, slV h2.d.t.p, .int .i32 h2.d.t.n.co, slV h2.d.t.s, .int .i32 h2.r.xi, .int .i64 h2.r.zx, .int .i32 h2.r.co, .int .i32 h2.r.r.n.ty, .int .i32 h2.r.r.n.co, .string h2.r.r.n.path, .int .i64 h2.r.r.n.q.a, .int .i64 h2.r.r.n.q.b, .int .i64 h2.r.r.n.q.c, .int .i64 h2.r.r.n.q.d, .int .i32 h2.r.r.n.q.e, .int .i32 h2.r.r.n.q.f, .int .i32 h2.r.r.n.q.g, .int .i64 h2.r.r.n.q.h, .int .i32 h2.r.r.n.q.i, .int .i32 h2.r.r.n.q.j, .int .i64 h2.r.r.n.q.k, slV h2.r.r.d, slV h2.r.r.a, slV h2.r.r.m, .int .i32 h2.r.r.n.ct, .int .i64 h2.r.r.n.si, .int .i32 h2.r.r.n.st, slV h2.r.r.i, slV h2.r.r.s] 63))
          have HS6 := Lib.hid (hs3.later HBB.out)
          by_cases hr : 0 < rdN st
          · have tr : decide (0 < rdN st) = true := decide_eq_true hr
            have HCZ := Lib.hid (commT_zxs hr)
            have hzh := zxs_head hr
            have HMJ := Lib.hid (order_maj HS2.out.inv HS2.out.eqv hr)
            have hrs := order_rise HS2.out.inv hr
            have hzx : h2.d.zx = st.L[0]!.d.zx := (hp1 hr).1.1.2.2.1.symm
            have hnn : n = (zxs st.L).length := HS2.out.p.len.symm
            have hn0 : 0 < n := by omega
            obtain ⟨b, off, rfl, hc0⟩ := HS6.out.p.head hn0
            rw [hzh.2, ← hzx] at hc0
            rw [← hzx] at HCZ HMJ hrs
            have HTL := Lib.hid (HS6.out.tail hn0)
            have hsl := slice_one (some ⟨b, off, none⟩) n c hn0
            have HCN := Lib.hid hc0
            have tn : ((n : Int) == 0) = false := beq_eq_false_iff_ne.2 (by omega)
            have tz : decide (h2.d.zx ≤ st.committed) = false := decide_eq_false (by omega)
            clear hzh hnn hzx hp1 hr hs hs3 HP HS2 HG hrs
            generalize rdN st = rd at *
            go_upto_region 24 with (apply wpList_storeTop 63 63; exact rfl; exact rfl; exact rfl; (first | (with_reducible rfl) | (exact sz1 _ _) | (exact sz2 _ _ _) | (exact sz3 _ _ _ _)); exact rfl; exact infPr; exact rfl; (first | exact onePr _ | simp [Value.oneCell']))
            have k6 : (w5.alloc (.cells #[.int .i64 h2.d.se, .int .i32 h2.d.xi, .int .i64 h2.d.zx, .int .i64 h2.d.ti, .int .i32 h2.d.t.n.ty, .string h2.d.t.n.path, slV h2.d.t.d, slV h2.d.t.a, .int .i64 h2.d.t.n.ow, .int .i32 h2.d.t.n.ve, .int .i32 h2.d.t.n.cr, .bool h2.d.t.n.qh, .int .i64 h2.d.t.n.qc, .int .i64 h2.d.t.n.qb, .int .i64 h2.d.t.n.si, .int .i32 h2.d.t.n.st, slV h2.d.t.i, slV h2.d.t.p, .int .i32 h2.d.t.n.co, slV h2.d.t.s, .int .i32 h2.r.xi, .int .i64 h2.r.zx, .int .i32 h2.r.co, .int .i32 h2.r.r.n.ty, .int .i32 h2.r.r.n.co, .string h2.r.r.n.path, .int .i64 h2.r.r.n.q.a, .int .i64 h2.r.r.n.q.b, .int .i64 h2.r.r.n.q.c, .int .i64 h2.r.r.n.q.d, .int .i32 h2.r.r.n.q.e, .int .i32 h2.r.r.n.q.f, .int .i32 h2.r.r.n.q.g, .int .i64 h2.r.r.n.q.h, .int .i32 h2.r.r.n.q.i, .int .i32 h2.r.r.n.q.j, .int .i64 h2.r.r.n.q.k, slV h2.r.r.d, slV h2.r.r.a, slV h2.r.r.m, .int .i32 h2.r.r.n.ct, .int .i64 h2.r.r.n.si, .int .i32 h2.r.r.n.st, slV h2.r.r.i, slV h2.r.r.s] 63)).cell? ⟨w5.heap.size, 2, none⟩ = some (.int .i64 h2.d.zx) := by rw [cellH HG6.out]; rfl
            have hc0 := HCN.out
            clear HCN
            have HMA := Lib.hid (majority_any (some ⟨w2.heap.size, 0, none⟩) v v st.acked h2.d.zx _ (HS6.out.ksv HVL.out) (by have := HV.out.2.2; omega))
            rw [HMJ.out] at HMA
            generalize (if c = 1 then some (Addr.mk b off none) else (some (Addr.mk b off none)).map (·.add 1)) = A3 at *
            clear HG6 HBB
            generalize w5.alloc (.cells #[.int .i64 h2.d.se, .int .i32 h2.d.xi, .int .i64 h2.d.zx, .int .i64 h2.d.ti, .int .i32 h2.d.t.n.ty, .string h2.d.t.n.path, slV h2.d.t.d, slV h2.d.t.a, .int .i64 h2.d.t.n.ow, .int .i32 h2.d.t.n.ve, .int .i32 h2.d.t.n.cr, .bool h2.d.t.n.qh, .int .i64 h2.d.t.n.qc, .int .i64 h2.d.t.n.qb, .int .i64 h2.d.t.n.si, .int .i32 h2.d.t.n.st, slV h2.d.t.i, slV h2.d.t.p, .int .i32 h2.d.t.n.co, slV h2.d.t.s, .int .i32 h2.r.xi, .int .i64 h2.r.zx, .int .i32 h2.r.co, .int .i32 h2.r.r.n.ty, .int .i32 h2.r.r.n.co, .string h2.r.r.n.path, .int .i64 h2.r.r.n.q.a, .int .i64 h2.r.r.n.q.b, .int .i64 h2.r.r.n.q.c, .int .i64 h2.r.r.n.q.d, .int .i32 h2.r.r.n.q.e, .int .i32 h2.r.r.n.q.f, .int .i32 h2.r.r.n.q.g, .int .i64 h2.r.r.n.q.h, .int .i32 h2.r.r.n.q.i, .int .i32 h2.r.r.n.q.j, .int .i64 h2.r.r.n.q.k, slV h2.r.r.d, slV h2.r.r.a, slV h2.r.r.m, .int .i32 h2.r.r.n.ct, .int .i64 h2.r.r.n.si, .int .i32 h2.r.r.n.st, slV h2.r.r.i, slV h2.r.r.s] 63) = W6 at *
            generalize w5.heap.size = g6 at *
            generalize h2.d.zx = zx at *
            have hn1 : (0 : Int) < (n : Int) := by omega
            have hn2 : (1 : Int) ≤ (n : Int) := by omega
            go_wp2_with fail
            refine HMA.out.mono ?_
            rintro e w' ⟨rfl, rfl⟩
            clear hc0 k6 HMA HMJ
            have HS8 := Lib.hid (show OrS w w' bq w2.heap.size (commT st) x3 R3 A3 (n - 1) (c - 1) (zxs (commT st).L) (commT st).acked from by rw [HCZ.out.1, HSM.out.2]; exact HTL.out)
            generalize n - 1 = n3 at *
            generalize c - 1 = c3 at *
            clear HTL HS6
            have HIV := Lib.hid HS8.out.inv
            have hln : n3 = (commT st).L.length := by have := HS8.out.p.len; rw [zxs_len] at this; omega
            have tb : decide (bound < ((n3 : Nat) : Int)) = false := decide_eq_false (by have h1 := HIV.out.len; have h2 : (commT st).bound = bound := (by rw [HSM.out.1]; exact HBD.out); omega)
            have tl : (((commT st).L.length : Int) != ((n3 : Nat) : Int)) = false := by rw [← hln]; simp
            clear HIV hln hlt
            go_wp2_with fail
            refine (queLen_any _ _ _ _ _ HS8.out.q.q).mono ?_
            rintro e w9 ⟨rfl, q9, rfl⟩
            have HS9 := Lib.hid (HS8.out.later (drewN_self _ q9))
            go_wp2_with fail
            go_roundw
            case rel => exact ⟨j + 1, commT st, x3, R3, A3, n3, c3, by go_num, HJ.out, rfl, by rw [HCZ.out.2.1], by rw [HSM.out.1]; exact HBD.out, by rw [HSM.out.2]; exact HVL.out, HS9.out⟩
            case measure => simp [intOf]; have := HJ.out; omega
          · have tr : decide (0 < rdN st) = false := decide_eq_false hr
            have HCN := Lib.hid (show commT st = st from if_neg hr)
            rw [HCN.out] at HS6
            clear hp1 hr hs hs3 HP HS2 HG HG6 HCN HSM
            generalize rdN st = rd at *
            go_upto_region 23 with (apply wpList_storeTop 63 63; exact rfl; exact rfl; exact rfl; (first | (with_reducible rfl) | (exact sz1 _ _) | (exact sz2 _ _ _) | (exact sz3 _ _ _ _)); exact rfl; exact infPr; exact rfl; (first | exact onePr _ | simp [Value.oneCell']))
            generalize w5.alloc (.cells #[.int .i64 h2.d.se, .int .i32 h2.d.xi, .int .i64 h2.d.zx, .int .i64 h2.d.ti, .int .i32 h2.d.t.n.ty, .string h2.d.t.n.path, slV h2.d.t.d, slV h2.d.t.a, .int .i64 h2.d.t.n.ow, .int .i32 h2.d.t.n.ve, .int .i32 h2.d.t.n.cr, .bool h2.d.t.n.qh, .int .i64 h2.d.t.n.qc, .int .i64 h2.d.t.n.qb, .int .i64 h2.d.t.n.si, .int .i32 h2.d.t.n.st, slV h2.d.t.i, slV h2.d.t.p, .int .i32 h2.d.t.n.co, slV h2.d.t.s, .int .i32 h2.r.xi, .int .i64 h2.r.zx, .int .i32 h2.r.co, .int .i32 h2.r.r.n.ty, .int .i32 h2.r.r.n.co, .string h2.r.r.n.path, .int .i64 h2.r.r.n.q.a, .int .i64 h2.r.r.n.q.b, .int .i64 h2.r.r.n.q.c, .int .i64 h2.r.r.n.q.d, .int .i32 h2.r.r.n.q.e, .int .i32 h2.r.r.n.q.f, .int .i32 h2.r.r.n.q.g, .int .i64 h2.r.r.n.q.h, .int .i32 h2.r.r.n.q.i, .int .i32 h2.r.r.n.q.j, .int .i64 h2.r.r.n.q.k, slV h2.r.r.d, slV h2.r.r.a, slV h2.r.r.m, .int .i32 h2.r.r.n.ct, .int .i64 h2.r.r.n.si, .int .i32 h2.r.r.n.st, slV h2.r.r.i, slV h2.r.r.s] 63) = W6 at *
            have HST := Lib.hid HS6.out
            go_wp2_with fail
            go_roundw
            case rel => exact ⟨j + 1, st, x3, R3, A, n, c, by go_num, HJ.out, rfl, rfl, HBD.out, HVL.out, HS6.out⟩
            case measure => simp [intOf]; have := HJ.out; omega
        · have u3 : (k == 3) = false := beq_eq_false_iff_ne.2 hk3
          clear hk3
          by_cases hk4 : k = 4
          · have t4 : (k == 4) = true := by rw [hk4]; rfl
            clear hk4
            have HP := Lib.hid (clearW HS2.out.q HS2.out.inv)
            clear k1 k2
            have hln : n = st.L.length := by have := HS2.out.p.len; rw [zxs_len] at this; omega
            go_wp2_with fail
            refine HP.out.mono ?_
            rintro e w5 ⟨⟨A5, c5, Hs, rfl, -, -, -⟩, hs⟩
            obtain ⟨x3, R3, hs3⟩ := HS2.out.step hs (clearS_inv HS2.out.inv) (EqVs.clear HS2.out.eqv)
            have HS3 := Lib.hid hs3.none_
            clear hs hs3 HP HS2 HG
            have tn : ((st.L.length : Int) != (n : Int)) = false := by rw [hln]; simp
            generalize st.L.length = ln at *
            clear hln
            go_wp2_with fail
            clear tn
            go_loopw [19] (fun m wx => ∃ i : Nat, m = .int .i64 ↑i ∧ i ≤ v ∧ OrS w wx bq w2.heap.size (clearS st) x3 R3 none 0 0 [] (minL st.acked st.committed i)) (fun m _ => v - (intOf m).toNat)
            case atStart => exact ⟨0, rfl, Nat.zero_le _, by rw [show minL st.acked st.committed 0 = st.acked by simp [minL]]; exact HS3.out⟩
            case round =>
            obtain ⟨i, rfl, hi, hsi⟩ := hrel
            have HSI := Lib.hid hsi
            clear hsi
            by_cases hli : i < v
            · have hil : i < st.acked.length := by rw [HVL.out]; exact hli
              have hil2 : i < (minL st.acked st.committed i).length := by rw [minL_len]; exact hil
              have c1 := HSI.out.kc hil2
              rw [minL_at _ _ _ hil] at c1
              have f1 := HSI.out.kf i
              have HMS := Lib.hid (minL_set st.acked st.committed i hil)
              have HSS := Lib.hid (show (minL st.acked st.committed i).set i st.acked[i]! = minL st.acked st.committed i by have := set_self _ _ hil2; rwa [minL_at _ _ _ hil] at this)
              have hiv : (i : Int) < (v : Int) := by omega
              have hi0 : (0 : Int) ≤ (i : Int) := by omega
              clear hil hil2
              generalize st.acked[i]! = y at *
              have hv9 := HV.out.2.2
              by_cases hgt : st.committed < y
              · have t5 : decide (st.committed < y) = true := decide_eq_true hgt
                have HS7 := Lib.hid (HSI.out.setK (i := i) st.committed)
                rw [show (minL st.acked st.committed i).set i st.committed = minL st.acked st.committed (i + 1) by rw [← HMS.out]; congr 1; omega] at HS7
                clear hgt HMS HSS
                go_wp2_with fail
                go_roundw
                case rel => exact ⟨i + 1, by go_num, by omega, HS7.out⟩
                case measure => simp [intOf]; omega
              · have t5 : decide (st.committed < y) = false := decide_eq_false hgt
                have HS7 := Lib.hid HSI.out
                rw [show minL st.acked st.committed i = minL st.acked st.committed (i + 1) by rw [← HMS.out, ← HSS.out, List.set_set]; congr 1; omega] at HS7
                clear hgt HMS HSS
                go_wp2_with fail
                go_roundw
                case rel => exact ⟨i + 1, by go_num, by omega, HS7.out⟩
                case measure => simp [intOf]; omega
            · obtain rfl : i = v := by omega
              have HS6 := Lib.hid (show OrS w wr bq w2.heap.size (clearS st) x3 R3 none 0 0 (zxs (clearS st).L) (clearS st).acked from by
                have h := HSI.out
                rw [show minL st.acked st.committed i = (clearS st).acked from by rw [clearS_acked, ← HVL.out, minL_all]] at h
                exact h)
              clear HSI
              have HIV := Lib.hid HS6.out.inv
              have hln : 0 = (clearS st).L.length := by have := HS6.out.p.len; rw [zxs_len] at this; omega
              have tb : decide (bound < (0 : Int)) = false := decide_eq_false (by have h1 := HIV.out.len; have h2 : (clearS st).bound = bound := (HBD.out); omega)
              have tl : (((clearS st).L.length : Int) != (0 : Int)) = false := by rw [← hln]; simp
              clear HIV hln hlt
              go_wp2_with fail
              refine (queLen_any _ _ _ _ _ HS6.out.q.q).mono ?_
              rintro e w9 ⟨rfl, q9, rfl⟩
              have HS9 := Lib.hid (HS6.out.later (drewN_self _ q9))
              go_wp2_with fail
              go_roundw
              case rel => exact ⟨j + 1, clearS st, x3, R3, none, 0, 0, by go_num, HJ.out, rfl, rfl, HBD.out, by show (st.acked.map _).length = _; rw [List.length_map]; exact HVL.out, HS9.out⟩
              case measure => simp [intOf]; have := HJ.out; omega
          · have u4 : (k == 4) = false := beq_eq_false_iff_ne.2 hk4
            clear hk4
            clear k1 k2
            have HIV := Lib.hid HS2.out.inv
            have hln : n = (st).L.length := by have := HS2.out.p.len; rw [zxs_len] at this; omega
            have tb : decide (bound < ((n : Nat) : Int)) = false := decide_eq_false (by have h1 := HIV.out.len; have h2 : (st).bound = bound := (HBD.out); omega)
            have tl : (((st).L.length : Int) != ((n : Nat) : Int)) = false := by rw [← hln]; simp
            clear HIV hln hlt
            go_wp2_with fail
            refine (queLen_any _ _ _ _ _ HS2.out.q.q).mono ?_
            rintro e w9 ⟨rfl, q9, rfl⟩
            have HS9 := Lib.hid (HS2.out.later (drewN_self _ q9))
            go_wp2_with fail
            go_roundw
            case rel => exact ⟨j + 1, st, x, R, A, n, c, by go_num, HJ.out, rfl, rfl, HBD.out, HVL.out, HS9.out⟩
            case measure => simp [intOf]; have := HJ.out; omega
  · obtain rfl : j = n0 := by omega
    go_wp2_with fail
    go_ret
    exact RetB.mk HS.out.b rfl
end Go.Proofs.YtbpmmmnphpkdjaaGreatDoor
