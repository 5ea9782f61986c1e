/- The walk of reply.clone. Condition: lists of at most 2^20. The walk of arbor/reply.Clone. -/
import Derived.Test.YtbpmmmnphpkdjaaGreatDoorWQuoG
import Derived.Test.YtbpmmmnphpkdjaaGreatDoorWRgtP
import Derived.Test.YtbpmmmnphpkdjaaGreatDoorWAddrP
namespace Go.Proofs.YtbpmmmnphpkdjaaGreatDoor
set_option linter.unusedSimpArgs false
set_option maxRecDepth 100000
set_option maxHeartbeats 20000000
open Go.RowKit Go.MapKept
theorem qbY : Tryz.prog.underlying 59 = some (.struct (Tryz.prog.fieldsOf 59)) := by kernel_rfl
theorem qbk : (Tryz.prog.info? 59).map (·.size) = some 22 := by kernel_rfl
theorem qcA : Tryz.prog.underlying 61 = some (.struct (Tryz.prog.fieldsOf 61)) := by kernel_rfl
theorem qbM : (Tryz.prog.info? 61).map (·.size) = some 25 := by kernel_rfl
@[reducible] def rpV (h : RpH) : Value := .agg #[.int .i32 h.xi, .int .i64 h.zx, .int .i32 h.co, .int .i32 h.r.n.ty, .int .i32 h.r.n.co, .string h.r.n.path, .int .i64 h.r.n.q.a, .int .i64 h.r.n.q.b, .int .i64 h.r.n.q.c, .int .i64 h.r.n.q.d, .int .i32 h.r.n.q.e, .int .i32 h.r.n.q.f, .int .i32 h.r.n.q.g, .int .i64 h.r.n.q.h, .int .i32 h.r.n.q.i, .int .i32 h.r.n.q.j, .int .i64 h.r.n.q.k, slV h.r.d, slV h.r.a, slV h.r.m, .int .i32 h.r.n.ct, .int .i64 h.r.n.si, .int .i32 h.r.n.st, slV h.r.i, slV h.r.s]
theorem kRsOk : KdOk kRs where
 len := fun _ => rfl
 pos := by decide
 one := fun x u hu => by
  simp [qax] at hu
  rcases hu with rfl | rfl | rfl | rfl | rfl | rfl | rfl | rfl | rfl | rfl | rfl | rfl | rfl | rfl | rfl | rfl | rfl | rfl | rfl | rfl | rfl | rfl <;> rfl
 loc := fun H hf hR => ⟨H.1, H.2.1.fr hf hR (fun _ => by simp [enc8]), H.2.2.1.fr hf hR (fun _ => by simp [qao]), H.2.2.2.1.fr hf hR (fun _ => by simp [qay]), H.2.2.2.2.fr hf hR (fun _ => by simp [qaz])⟩
def qlR (t : RsT) (w : World) (e : Ending) (w' : World) : Prop := (∃ h', e = .returned (rsV h') ∧ RsAt w' (w.heap.size ≤ ·) h' t) ∧ Below w.heap.size w w'
/-- the loop's state: k elements are copied -/
structure ClRr (w : World) (h' : RsH) (v : RsF) (subs : List RsT) (n gs hi : Nat) (Z : Array Value) (k : Nat) (wr : World) : Prop where
 s : CnSt w wr (qax h').toArray Z 59
 l : locRs wr (fun b => w.heap.size + 2 ≤ b ∧ b ≠ gs) h' v
 r : ClSt kRs w.heap.size hi gs n subs k wr
 hi : hi ≤ wr.heap.size
theorem ClRr.step {w : World} {h' : RsH} {v : RsF} {subs : List RsT} {n gs hi : Nat} {Z : Array Value} {k : Nat} {wr w2 : World} (H : ClRr w h' v subs n gs hi Z k wr) (hb : Below wr.heap.size wr w2) {hh : RsH} (ht : RsAt w2 (wr.heap.size ≤ ·) hh subs[k]!) (hk : k < n) (hgs : gs < hi) (hB : w.heap.size + 2 ≤ gs) :
  ClRr w h' v subs n gs hi Z (k + 1) (w2.setCells gs (k * 22) (qax hh)) where
 s := ⟨((qaB w2 gs (k * 22) (qax hh)).block _ (by have := H.s.s; have := hb.size; omega) (by simp; omega)).trans (H.s.call hb).c, ((qaB w2 gs (k * 22) (qax hh)).block _ (by have := H.s.s; have := hb.size; omega) (by simp; omega)).trans (H.s.call hb).z, (H.s.call hb).b.trans ((qaB w2 gs (k * 22) (qax hh)).below (H.s.call hb).b.size (by simp; omega)), Nat.le_trans (H.s.call hb).s (qaB w2 gs (k * 22) (qax hh)).size⟩
 l := kRsOk.loc (kRsOk.loc (R' := fun b => w.heap.size + 2 ≤ b ∧ b ≠ gs) H.l (Fr.of_below (own := []) hb) (fun b _ h => ⟨by simp, h⟩)) (qaB w2 gs (k * 22) (qax hh)) (fun b _ h => ⟨by simpa using h.2, h⟩)
 r := H.r.step kRsOk hb ht hk hgs H.hi (by omega)
 hi := Nat.le_trans H.hi (Nat.le_trans hb.size (qaB w2 gs (k * 22) (qax hh)).size)

theorem qfh : ∀ (t : RsT) (h : RsH) (w : World) (R : Nat → Prop), RsAt w R h t → RsOk 1048576 t → Calls Tryz.prog 141 #[rsV h] w (qlR t w) := by
 refine Tr.ind ?_
 intro v subs ih h w R ht0 hok
 have ht : RsAt w (· < w.heap.size) h (.mk v subs) := ht0.more (fun b hb _ => hb)
 have hl := ht.loc
 obtain ⟨L, hL, hsub⟩ := ht.subs_at
 have hlen := ht.len
 have hsm := hok.top
 have HS := Lib.hid (CnSt.start w (rwRs h) rzRs 59)
 have HCd := Lib.hid (fun (W : World) (hW : Below w.heap.size w W) => qen h.d.1 h.d.2.1 h.d.2.2 v.data W ((hl.2.1.sl (fun _ => by simp [enc8])).belowMore hW hW.size) hl.2.1.hd.1 (by have h1 := hsm.2.2.1; have h2 := hl.2.1.1; simp only [Tr.v, Tr.subs] at *; omega))
 have HLd := Lib.hid hl.2.1.len
 have HCa := Lib.hid (fun (W : World) (hW : Below w.heap.size w W) => qcF h.a.1 h.a.2.1 h.a.2.2 v.acl W ((hl.2.2.1.sl (fun _ => by simp [qao])).belowMore hW hW.size) hl.2.2.1.hd.1 (by have h1 := hsm.2.2.2.1; have h2 := hl.2.2.1.1; simp only [Tr.v, Tr.subs] at *; omega))
 have HLa := Lib.hid hl.2.2.1.len
 have HCm := Lib.hid (fun (W : World) (hW : Below w.heap.size w W) => qcO h.m.1 h.m.2.1 h.m.2.2 v.names W ((hl.2.2.2.1.sl (fun _ => by simp [qay])).belowMore hW hW.size) hl.2.2.2.1.hd.1 (by have h1 := hsm.2.2.2.2.1; have h2 := hl.2.2.2.1.1; simp only [Tr.v, Tr.subs] at *; omega))
 have HLm := Lib.hid hl.2.2.2.1.len
 have HCi := Lib.hid (fun (W : World) (hW : Below w.heap.size w W) => qcK h.i.1 h.i.2.1 h.i.2.2 v.ids W ((hl.2.2.2.2.sl (fun _ => by simp [qaz])).belowMore hW hW.size) hl.2.2.2.2.hd.1 (by have h1 := hsm.2.2.2.2.2.1; have h2 := hl.2.2.2.2.1; simp only [Tr.v, Tr.subs] at *; omega))
 have HLi := Lib.hid hl.2.2.2.2.len
 have HCs := Lib.hid (fun (W : World) (hW : Below w.heap.size w W) => qeX h.s.1 h.s.2.1 h.s.2.2 L W ((hL.sl (fun _ => by simp [qax])).belowMore hW hW.size) hL.hd.1 (Nat.le_trans (show h.s.2.1 ≤ 1048576 by have h1 := hsm.2.2.2.2.2.2.1; rw [hlen] at h1; exact h1) (by omega)))
 have HLs := Lib.hid hL.len
 have HSUB := Lib.hid hsub; have HLEN := Lib.hid (show subs.length = h.s.2.1 from hlen); have HN := Lib.hid hl.1
 have HIH := Lib.hid ih; have HOK := Lib.hid (fun k (hk : k < subs.length) => hok.subAt (j := k) hk)
 have HSB := Lib.hid (show h.s.2.1 ≤ 1048576 by have h1 := hsm.2.2.2.2.2.2.1; rw [hlen] at h1; exact h1)
 clear ht0 ht hl hL hsub hlen hsm ih hok
 go_enter Tryz.func141, Tryz.ntmps141
 go_wp2_with (first
  | (apply qai 59 59; exact rfl; exact rfl; exact rfl; (first | (with_reducible rfl) | (exact sz1 _ _) | (exact sz2 _ _ _) | (exact sz3 _ _ _ _)); exact rfl; exact qbk; exact rfl; simp [Value.oneCell'])
  | fail)
 generalize ((w.alloc (.cells (rwRs h) 59)).alloc (.cells rzRs 59)) = V at *
 replace HS := Lib.hid (HS.out.call (qaj V))
 have HSO := Lib.hid (fun (W : World) (hW : Below V.drew.heap.size V.drew W) => (show (fun w' : World => w'.cell? ⟨w.heap.size, 14, none⟩ = some (slV h.d) ∧ w'.cell? ⟨w.heap.size, 15, none⟩ = some (slV h.a) ∧ w'.cell? ⟨w.heap.size, 16, none⟩ = some (slV h.m) ∧ w'.cell? ⟨w.heap.size, 20, none⟩ = some (slV h.i)) W from ⟨(HS.out.call hW).cell rfl, (HS.out.call hW).cell rfl, (HS.out.call hW).cell rfl, (HS.out.call hW).cell rfl⟩))
 refine qaP (S := fun w' => w'.cell? ⟨w.heap.size, 14, none⟩ = some (slV h.d) ∧ w'.cell? ⟨w.heap.size, 15, none⟩ = some (slV h.a) ∧ w'.cell? ⟨w.heap.size, 16, none⟩ = some (slV h.m) ∧ w'.cell? ⟨w.heap.size, 20, none⟩ = some (slV h.i)) 13 (by kernel_rfl) (HSO.out _ (Below.refl _ _)) (fun hHeld => ?_)
 generalize V.drew = V0 at *
 refine qad (i := 0) (v := .pointer (some ⟨w.heap.size, 14, none⟩)) rfl (by kernel_rfl) (fun _ _ _ h => h) (Or.inl ⟨by rfl, by intro w hSw; clear hSw; go_simp⟩) (by assumption) ?_
 (try simp only [pT])
 refine qad (i := 1) (v := slV h.d) rfl (by kernel_rfl) (fun _ _ _ h => h) (Or.inl ⟨by rfl, by intro w hSw; have hSx := hSw.1; clear hSw; go_simp⟩) (by assumption) ?_
 (try simp only [pT])
 refine qad (i := 3) (v := .pointer (some ⟨w.heap.size, 15, none⟩)) rfl (by kernel_rfl) (fun _ _ _ h => h) (Or.inl ⟨by rfl, by intro w hSw; clear hSw; go_simp⟩) (by assumption) ?_
 (try simp only [pT])
 refine qad (i := 4) (v := slV h.a) rfl (by kernel_rfl) (fun _ _ _ h => h) (Or.inl ⟨by rfl, by intro w hSw; have hSx := hSw.2.1; clear hSw; go_simp⟩) (by assumption) ?_
 (try simp only [pT])
 refine qad (i := 6) (v := .pointer (some ⟨w.heap.size, 16, none⟩)) rfl (by kernel_rfl) (fun _ _ _ h => h) (Or.inl ⟨by rfl, by intro w hSw; clear hSw; go_simp⟩) (by assumption) ?_
 (try simp only [pT])
 refine qad (i := 7) (v := slV h.m) rfl (by kernel_rfl) (fun _ _ _ h => h) (Or.inl ⟨by rfl, by intro w hSw; have hSx := hSw.2.2.1; clear hSw; go_simp⟩) (by assumption) ?_
 (try simp only [pT])
 refine qad (i := 9) (v := .pointer (some ⟨w.heap.size, 18, none⟩)) rfl (by kernel_rfl) (fun _ _ _ h => h) (Or.inl ⟨by rfl, by intro w hSw; clear hSw; go_simp⟩) (by assumption) ?_
 (try simp only [pT])
 refine qad (i := 10) (v := .pointer (some ⟨w.heap.size, 20, none⟩)) rfl (by kernel_rfl) (fun _ _ _ h => h) (Or.inl ⟨by rfl, by intro w hSw; clear hSw; go_simp⟩) (by assumption) ?_
 (try simp only [pT])
 refine qad (i := 11) (v := slV h.i) rfl (by kernel_rfl) (fun _ _ _ h => h) (Or.inl ⟨by rfl, by intro w hSw; have hSx := hSw.2.2.2; clear hSw; go_simp⟩) (by assumption) ?_
 (try simp only [pT])
 refine qaq (i := 2) rfl (by kernel_rfl) (fun K hK => ?_)
 go_simp
 refine (HCd.out _ HS.out.b).mono ?_
 rintro e w0 ⟨⟨A0, c0, rfl, hr⟩, hb⟩
 dsimp only
 have HRd := Lib.hid (CloneP.slr hr (fun _ => rfl) HLd.out HS.out.s)
 replace HSO := Lib.hid (fun (W : World) (hW : Below w0.heap.size w0 W) => HSO.out W (hb.trans (hW.mono hb.size)))
 replace HS := Lib.hid (HS.out.call hb)
 replace hHeld := HSO.out _ (Below.refl _ _)
 refine hK.out _ _ hHeld ?_
 clear hK K hr hb
 (try simp only [pT])
 refine qad (i := 13) (v := .pointer (some ⟨w.heap.size, 14, none⟩)) rfl (by kernel_rfl) (fun _ _ _ h => h) (Or.inl ⟨by rfl, by intro w hSw; clear hSw; go_simp⟩) (by assumption) ?_
 (try simp only [pT])
 refine qaq (i := 5) rfl (by kernel_rfl) (fun K hK => ?_)
 go_simp
 refine (HCa.out _ HS.out.b).mono ?_
 rintro e w1 ⟨⟨A1, c1, rfl, hr⟩, hb⟩
 dsimp only
 have HRa := Lib.hid (CloneP.slr hr (fun _ => rfl) HLa.out HS.out.s)
 replace HRd := Lib.hid (HRd.out.later hb (fun _ => by simp [enc8]))
 replace HSO := Lib.hid (fun (W : World) (hW : Below w1.heap.size w1 W) => HSO.out W (hb.trans (hW.mono hb.size)))
 replace HS := Lib.hid (HS.out.call hb)
 replace hHeld := HSO.out _ (Below.refl _ _)
 refine hK.out _ _ hHeld ?_
 clear hK K hr hb
 (try simp only [pT])
 refine qaq (i := 8) rfl (by kernel_rfl) (fun K hK => ?_)
 go_simp
 refine (HCm.out _ HS.out.b).mono ?_
 rintro e w2 ⟨⟨A2, c2, rfl, hr⟩, hb⟩
 dsimp only
 have HRm := Lib.hid (CloneP.slr hr (fun _ => rfl) HLm.out HS.out.s)
 replace HRd := Lib.hid (HRd.out.later hb (fun _ => by simp [enc8]))
 replace HRa := Lib.hid (HRa.out.later hb (fun _ => by simp [qao]))
 replace HSO := Lib.hid (fun (W : World) (hW : Below w2.heap.size w2 W) => HSO.out W (hb.trans (hW.mono hb.size)))
 replace HS := Lib.hid (HS.out.call hb)
 replace hHeld := HSO.out _ (Below.refl _ _)
 refine hK.out _ _ hHeld ?_
 clear hK K hr hb
 (try simp only [pT])
 refine qaq (i := 12) rfl (by kernel_rfl) (fun K hK => ?_)
 go_simp
 refine (HCi.out _ HS.out.b).mono ?_
 rintro e w3 ⟨⟨A3, c3, rfl, hr⟩, hb⟩
 dsimp only
 have HRi := Lib.hid (CloneP.slr hr (fun _ => rfl) HLi.out HS.out.s)
 replace HRd := Lib.hid (HRd.out.later hb (fun _ => by simp [enc8]))
 replace HRa := Lib.hid (HRa.out.later hb (fun _ => by simp [qao]))
 replace HRm := Lib.hid (HRm.out.later hb (fun _ => by simp [qay]))
 replace HSO := Lib.hid (fun (W : World) (hW : Below w3.heap.size w3 W) => HSO.out W (hb.trans (hW.mono hb.size)))
 replace HS := Lib.hid (HS.out.call hb)
 replace hHeld := HSO.out _ (Below.refl _ _)
 refine hK.out _ _ hHeld ?_
 clear hK K hr hb
 (try simp only [pT])
 refine qaG (n := 14) (by kernel_rfl) ?_
 simp only [List.drop_succ_cons, List.drop_zero]
 have z14 := HS.out.cell (i := 14) (v := slV h.d) rfl
 have f14 := HS.out.frz 14
 have z15 := HS.out.cell (i := 15) (v := slV h.a) rfl
 have f15 := HS.out.frz 15
 have z16 := HS.out.cell (i := 16) (v := slV h.m) rfl
 have f16 := HS.out.frz 16
 have z20 := HS.out.cell (i := 20) (v := slV h.i) rfl
 have f20 := HS.out.frz 20
 have z21 := HS.out.cell (i := 21) (v := slV h.s) rfl
 clear hHeld HSO
 go_wp2_with fail
 replace HS := Lib.hid (HS.out.set 14 (.slice A0 h.d.2.1 c0))
 replace HRd := Lib.hid (HRd.out.put (fun _ => by simp [enc8]) 14 (.slice A0 h.d.2.1 c0))
 replace HRa := Lib.hid (HRa.out.put (fun _ => by simp [qao]) 14 (.slice A0 h.d.2.1 c0))
 replace HRm := Lib.hid (HRm.out.put (fun _ => by simp [qay]) 14 (.slice A0 h.d.2.1 c0))
 replace HRi := Lib.hid (HRi.out.put (fun _ => by simp [qaz]) 14 (.slice A0 h.d.2.1 c0))
 replace HS := Lib.hid (HS.out.set 15 (.slice A1 h.a.2.1 c1))
 replace HRd := Lib.hid (HRd.out.put (fun _ => by simp [enc8]) 15 (.slice A1 h.a.2.1 c1))
 replace HRa := Lib.hid (HRa.out.put (fun _ => by simp [qao]) 15 (.slice A1 h.a.2.1 c1))
 replace HRm := Lib.hid (HRm.out.put (fun _ => by simp [qay]) 15 (.slice A1 h.a.2.1 c1))
 replace HRi := Lib.hid (HRi.out.put (fun _ => by simp [qaz]) 15 (.slice A1 h.a.2.1 c1))
 replace HS := Lib.hid (HS.out.set 16 (.slice A2 h.m.2.1 c2))
 replace HRd := Lib.hid (HRd.out.put (fun _ => by simp [enc8]) 16 (.slice A2 h.m.2.1 c2))
 replace HRa := Lib.hid (HRa.out.put (fun _ => by simp [qao]) 16 (.slice A2 h.m.2.1 c2))
 replace HRm := Lib.hid (HRm.out.put (fun _ => by simp [qay]) 16 (.slice A2 h.m.2.1 c2))
 replace HRi := Lib.hid (HRi.out.put (fun _ => by simp [qaz]) 16 (.slice A2 h.m.2.1 c2))
 replace HS := Lib.hid (HS.out.set 20 (.slice A3 h.i.2.1 c3))
 replace HRd := Lib.hid (HRd.out.put (fun _ => by simp [enc8]) 20 (.slice A3 h.i.2.1 c3))
 replace HRa := Lib.hid (HRa.out.put (fun _ => by simp [qao]) 20 (.slice A3 h.i.2.1 c3))
 replace HRm := Lib.hid (HRm.out.put (fun _ => by simp [qay]) 20 (.slice A3 h.i.2.1 c3))
 replace HRi := Lib.hid (HRi.out.put (fun _ => by simp [qaz]) 20 (.slice A3 h.i.2.1 c3))
 replace HS := Lib.hid (show CnSt w ((((w3.setCell ⟨w.heap.size, 14, none⟩ (.slice A0 h.d.2.1 c0)).setCell ⟨w.heap.size, 15, none⟩ (.slice A1 h.a.2.1 c1)).setCell ⟨w.heap.size, 16, none⟩ (.slice A2 h.m.2.1 c2)).setCell ⟨w.heap.size, 20, none⟩ (.slice A3 h.i.2.1 c3)) #[.int .i32 h.n.ty, .int .i32 h.n.co, .string h.n.path, .int .i64 h.n.q.a, .int .i64 h.n.q.b, .int .i64 h.n.q.c, .int .i64 h.n.q.d, .int .i32 h.n.q.e, .int .i32 h.n.q.f, .int .i32 h.n.q.g, .int .i64 h.n.q.h, .int .i32 h.n.q.i, .int .i32 h.n.q.j, .int .i64 h.n.q.k, .slice A0 h.d.2.1 c0, .slice A1 h.a.2.1 c1, .slice A2 h.m.2.1 c2, .int .i32 h.n.ct, .int .i64 h.n.si, .int .i32 h.n.st, .slice A3 h.i.2.1 c3, slV h.s] _ _ from HS.out)
 generalize ((((w3.setCell ⟨w.heap.size, 14, none⟩ (.slice A0 h.d.2.1 c0)).setCell ⟨w.heap.size, 15, none⟩ (.slice A1 h.a.2.1 c1)).setCell ⟨w.heap.size, 16, none⟩ (.slice A2 h.m.2.1 c2)).setCell ⟨w.heap.size, 20, none⟩ (.slice A3 h.i.2.1 c3)) = V4 at *
 clear z14 f14 z15 f15 z16 f16 z20 f20 z21
 refine (HCs.out _ HS.out.b).mono ?_
 rintro e w4 ⟨⟨A4, c4, rfl, hr⟩, hb⟩
 have HRs := Lib.hid hr; have HSZ4 := Lib.hid (show w.heap.size + 2 ≤ V4.heap.size from HS.out.s); have HBX4 := Lib.hid hb
 replace HRd := Lib.hid (HRd.out.fr (R' := fun b => w.heap.size + 2 ≤ b ∧ b < V4.heap.size) (Fr.of_below (own := []) hb) (fun b hlt h => ⟨by simp, h, hlt⟩) (fun _ => by simp [enc8]))
 replace HRa := Lib.hid (HRa.out.fr (R' := fun b => w.heap.size + 2 ≤ b ∧ b < V4.heap.size) (Fr.of_below (own := []) hb) (fun b hlt h => ⟨by simp, h, hlt⟩) (fun _ => by simp [qao]))
 replace HRm := Lib.hid (HRm.out.fr (R' := fun b => w.heap.size + 2 ≤ b ∧ b < V4.heap.size) (Fr.of_below (own := []) hb) (fun b hlt h => ⟨by simp, h, hlt⟩) (fun _ => by simp [qay]))
 replace HRi := Lib.hid (HRi.out.fr (R' := fun b => w.heap.size + 2 ≤ b ∧ b < V4.heap.size) (Fr.of_below (own := []) hb) (fun b hlt h => ⟨by simp, h, hlt⟩) (fun _ => by simp [qaz]))
 replace HS := Lib.hid (HS.out.call hb)
 have z4 := HS.out.cell (i := 21) (v := slV h.s) rfl
 have f4 := HS.out.frz 21
 clear hr hb
 go_wp2_with fail
 obtain ⟨hA, hnc, gs, hgs, hgA, hst⟩ := ClSt.start kRsOk (B := w.heap.size) (subs := subs) HRs.out HLs.out (fun j hj => (HSUB.out j hj).fr kRsOk (Fr.of_below (own := []) HS.out.b) (fun b hlt _ => ⟨by simp, hlt⟩))
 have hst' := hst.other kRsOk (qaE w4 w.heap.size 21 (.slice A4 h.s.2.1 c4)) (World.there_setCells hst.th w.heap.size 21 [.slice A4 h.s.2.1 c4]) (by have := HSZ4.out; simp; omega) (fun g hg => by have := HS.out.s; simp at hg; omega)
 have HR0 := Lib.hid (show ClRr w ⟨h.n, (A0, h.d.2.1, c0), (A1, h.a.2.1, c1), (A2, h.m.2.1, c2), (A3, h.i.2.1, c3), (A4, h.s.2.1, c4)⟩ v subs h.s.2.1 gs w4.heap.size _ 0 (w4.setCell ⟨w.heap.size, 21, none⟩ (.slice A4 h.s.2.1 c4)) from
  ⟨HS.out.set 21 _, ⟨HN.out, HRd.out.fr (qaE _ _ _ _) (fun b _ h => ⟨by simp; omega, h.1, by omega⟩) (fun _ => by simp [enc8]), HRa.out.fr (qaE _ _ _ _) (fun b _ h => ⟨by simp; omega, h.1, by omega⟩) (fun _ => by simp [qao]), HRm.out.fr (qaE _ _ _ _) (fun b _ h => ⟨by simp; omega, h.1, by omega⟩) (fun _ => by simp [qay]), HRi.out.fr (qaE _ _ _ _) (fun b _ h => ⟨by simp; omega, h.1, by omega⟩) (fun _ => by simp [qaz])⟩, hst', (qaE w4 w.heap.size 21 _).size⟩)
 have HA := Lib.hid (And.intro hA (And.intro hnc hgA)); have HGS := Lib.hid (show w.heap.size + 2 ≤ gs from Nat.le_trans HSZ4.out hgs); have HHI := Lib.hid (show 0 < h.s.2.1 → gs < w4.heap.size from fun h0 => (hgA h0).2)
 have HSH := Lib.hid (show w.heap.size + 2 ≤ w4.heap.size from Nat.le_trans HSZ4.out HBX4.out.size)
 clear hA hnc hgs hgA hst hst' HRd HRa HRi HRm HRs HBX4 HSZ4 HCd HCa HCi HCm HCs HLd HLa HLi HLm HLs z4 f4 HS HSUB
 generalize w4.setCell ⟨w.heap.size, 21, none⟩ (.slice A4 h.s.2.1 c4) = V5 at *
 generalize w4.heap.size = hi at *
 go_loopw [29] (fun i wr => ∃ k : Nat, i = .int .i64 ↑k ∧ k ≤ h.s.2.1 ∧ ClRr w ⟨h.n, (A0, h.d.2.1, c0), (A1, h.a.2.1, c1), (A2, h.m.2.1, c2), (A3, h.i.2.1, c3), (A4, h.s.2.1, c4)⟩ v subs h.s.2.1 gs hi rzRs k wr) (fun i _ => h.s.2.1 - (RowKit.intOf i).toNat)
 case atStart => exact ⟨0, rfl, Nat.zero_le _, HR0.out⟩
 case round =>
  obtain ⟨k, rfl, hk, hR⟩ := hrel
  have hsb := HSB.out
  by_cases hlt : k < h.s.2.1
  ·have hA4 := (HA.out.2.2 (by omega)).1
   obtain ⟨hh, hr, htk⟩ := hR.r.old k (Nat.le_refl _) hlt
   have HIHk := Lib.hid (fun (W : World) (hW : Below wr.heap.size wr W) => HIH.out k (by rw [HLEN.out]; exact hlt) hh W _ (htk.fr kRsOk (Fr.of_below (own := []) hW) (fun b hb h => ⟨by simp, h⟩)) (HOK.out k (by rw [HLEN.out]; exact hlt)))
   have HR := Lib.hid hR
   have HLT := Lib.hid hlt
   subst hA4
   have HSO := Lib.hid (fun (W : World) (hW : Below wr.heap.size wr W) => And.intro ((hR.s.call hW).cell (i := 21) (v := .slice (some ⟨gs, 0, none⟩) h.s.2.1 c4) rfl) (qbf hr hW))
   clear hR htk hr
   go_wp2_with fail
   refine qaP (S := fun w' => w'.cell? ⟨w.heap.size, 21, none⟩ = some (.slice (some ⟨gs, 0, none⟩) h.s.2.1 c4) ∧ w'.rangeAt gs (k * 22) (qax hh)) 9 (by kernel_rfl) (HSO.out _ (qaj _)) (fun hHeld => ?_)
   refine qad (i := 0) (v := .pointer (some ⟨w.heap.size, 21, none⟩)) rfl (by kernel_rfl) (fun _ _ _ h => h) (Or.inl ⟨by rfl, by intro w hSw; clear hSw; go_simp⟩) (by assumption) ?_
   (try simp only [pT])
   refine qad (i := 1) (v := .slice (some ⟨gs, 0, none⟩) h.s.2.1 c4) rfl (by kernel_rfl) (fun _ _ _ h => h) (Or.inl ⟨by rfl, by intro w hSw; have hSx := hSw.1; clear hSw; go_simp⟩) (by assumption) ?_
   (try simp only [pT])
   refine qad (i := 2) (v := .int .i64 ↑k) rfl (by kernel_rfl) (fun _ _ _ h => h) (Or.inl ⟨by rfl, by intro w hSw; clear hSw; go_simp⟩) (by assumption) ?_
   (try simp only [pT])
   refine qad (i := 3) (v := .pointer (some ⟨w.heap.size, 21, none⟩)) rfl (by kernel_rfl) (fun _ _ _ h => h) (Or.inl ⟨by rfl, by intro w hSw; clear hSw; go_simp⟩) (by assumption) ?_
   (try simp only [pT])
   refine qad (i := 4) (v := .slice (some ⟨gs, 0, none⟩) h.s.2.1 c4) rfl (by kernel_rfl) (fun _ _ _ h => h) (Or.inl ⟨by rfl, by intro w hSw; have hSx := hSw.1; clear hSw; go_simp⟩) (by assumption) ?_
   (try simp only [pT])
   refine qad (i := 5) (v := .int .i64 ↑k) rfl (by kernel_rfl) (fun _ _ _ h => h) (Or.inl ⟨by rfl, by intro w hSw; clear hSw; go_simp⟩) (by assumption) ?_
   (try simp only [pT])
   refine qad (i := 6) (v := .pointer (some ⟨gs, k * 22, none⟩)) rfl (by kernel_rfl) (fun _ _ _ h => h) (Or.inl ⟨by rfl, by intro w hSw; clear hSw; go_simp⟩) (by assumption) ?_
   (try simp only [pT])
   refine qad (i := 7) (v := .agg (qax hh).toArray) rfl (by kernel_rfl) (fun _ _ _ h => h) (yieldsIf_load_mid (by rfl) 59 _ rfl gs (k * 22) rfl (qax hh) _ (fun _ h => h.2) qbY rfl qbk) (by assumption) ?_
   (try simp only [pT])
   refine qaq (i := 8) rfl (by kernel_rfl) (fun K hK => ?_)
   go_simp
   refine (HIHk.out _ (qaj _)).mono ?_
   rintro e w6 ⟨⟨h6, rfl, ht6⟩, hb6⟩
   dsimp only
   have hbA := (qaj wr).trans (hb6.mono (qaj wr).size)
   refine hK.out _ _ (HSO.out _ hbA) ?_
   clear hK K
   (try simp only [pT])
   refine qaG (n := 9) (by kernel_rfl) ?_
   simp only [List.drop_succ_cons, List.drop_zero]
   have hth := qck (HR.out.r.there_row hlt) hbA
   have HX := Lib.hid (HR.out.step hbA (hh := h6) (TrAt.fr kRsOk ht6 (Fr.refl [] w6) (fun b _ h => ⟨by simp, Nat.le_trans (qaj wr).size h⟩)) hlt (HHI.out (by omega)) HGS.out)
   clear hbA hHeld HR HSO HR0 ht6 hb6
   go_wp2_with (first
    | (apply qaW 59; exact rfl; exact rfl; exact rfl; exact rfl; assumption; exact qbk; simp [Value.oneCell'])
    | fail)
   go_roundw
   case rel => exact ⟨k + 1, by go_num, by omega, HX.out⟩
   case measure => show h.s.2.1 - ((↑k + 1 : Int)).toNat < h.s.2.1 - (↑k : Int).toNat; omega
  ·have hkn : k = h.s.2.1 := by omega
   subst hkn
   have gC : wr.heap[w.heap.size]? = some (.cells #[.int .i32 h.n.ty, .int .i32 h.n.co, .string h.n.path, .int .i64 h.n.q.a, .int .i64 h.n.q.b, .int .i64 h.n.q.c, .int .i64 h.n.q.d, .int .i32 h.n.q.e, .int .i32 h.n.q.f, .int .i32 h.n.q.g, .int .i64 h.n.q.h, .int .i32 h.n.q.i, .int .i32 h.n.q.j, .int .i64 h.n.q.k, .slice A0 h.d.2.1 c0, .slice A1 h.a.2.1 c1, .slice A2 h.m.2.1 c2, .int .i32 h.n.ct, .int .i64 h.n.si, .int .i32 h.n.st, .slice A3 h.i.2.1 c3, .slice A4 h.s.2.1 c4] 59 (0, 0)) := hR.s.c
   have gZ := hR.s.z
   have HF := Lib.hid (qaS wr (w.heap.size + 1) (qax ⟨h.n, (A0, h.d.2.1, c0), (A1, h.a.2.1, c1), (A2, h.m.2.1, c2), (A3, h.i.2.1, c3), (A4, h.s.2.1, c4)⟩).toArray)
   have HTH := Lib.hid (hR.r.other kRsOk HF.out (qbp hR.r.th HF.out (by have := HGS.out; simp; omega)) (by have := HGS.out; simp; omega) (fun g hg => by have := HSH.out; simp at hg; omega))
   have HR := Lib.hid hR
   clear hR HR0
   go_wp2_with (first
    | (apply qaw 59 59; exact rfl; exact rfl; exact rfl; (first | assumption | (refine qaa ?_; assumption) | (exact qab _ _) | (exact qae _ _ _) | (exact qag _ _ _ _) | (exact qas _ _ _ _ _) | (exact qaa (qab _ _)) | (exact qaa (qae _ _ _)) | (exact qaa (qag _ _ _ _)) | (exact qaa (qaa (qab _ _))) | (exact qaa (qaa (qae _ _ _))) | (exact qaa (qaa (qaa (qab _ _))))); exact qbY; exact rfl; exact qbk)
    | (apply qam 59 59; exact rfl; exact rfl; exact rfl; exact rfl; (first | assumption | (refine qaa ?_; assumption) | (exact qab _ _) | (exact qae _ _ _) | (exact qag _ _ _ _) | (exact qas _ _ _ _ _) | (exact qaa (qab _ _)) | (exact qaa (qae _ _ _)) | (exact qaa (qag _ _ _ _)) | (exact qaa (qaa (qab _ _))) | (exact qaa (qaa (qae _ _ _))) | (exact qaa (qaa (qaa (qab _ _))))); exact qbk; exact rfl; simp [Value.oneCell'])
    | fail)
   have hTR : RsAt (wr.setRow (w.heap.size + 1) (qax ⟨h.n, (A0, h.d.2.1, c0), (A1, h.a.2.1, c1), (A2, h.m.2.1, c2), (A3, h.i.2.1, c3), (A4, h.s.2.1, c4)⟩).toArray) (w.heap.size ≤ ·) ⟨h.n, (A0, h.d.2.1, c0), (A1, h.a.2.1, c1), (A2, h.m.2.1, c2), (A3, h.i.2.1, c3), (A4, h.s.2.1, c4)⟩ (.mk v subs) :=
    HTH.out.tree kRsOk (kRsOk.loc HR.out.l HF.out (fun b _ h => ⟨by simp; omega, by omega⟩)) HLEN.out rfl ⟨HA.out.1, HA.out.2.1⟩ (fun h0 => ⟨(HA.out.2.2 h0).1, by have := HGS.out; omega⟩) (fun b hb => by have := HSH.out; omega)
   exact qaD rfl rfl (setRow_heap _ _ _ _ _ _ gZ) qbY rfl qbk rfl ⟨⟨_, rfl, hTR⟩, below_setRow HR.out.s.b (by omega) _⟩
open Go.RowKit Go.MapKept
def qlP (t : RpT) (w : World) (e : Ending) (w' : World) : Prop := (∃ h', e = .returned (rpV h') ∧ RpAt w' (w.heap.size ≤ ·) h' t) ∧ Below w.heap.size w w'
theorem qii (h : RpH) (t : RpT) (w : World) (R : Nat → Prop) (ht : RpAt w R h t) (hok : RpSm 1048576 t) : Calls Tryz.prog 110 #[rpV h] w (qlP t w) := by
 have HS := Lib.hid (CnSt.start w (rwRp h) rzRp 61)
 have HC := Lib.hid (fun (W : World) (hW : Below w.heap.size w W) => qfh t.r h.r W _ (TrAt.fr kRsOk (R' := R) ht.2 (Fr.of_below (own := []) hW) (fun b _ h => ⟨by simp, h⟩)) hok.2)
 have HE := Lib.hid ht.1
 have r0 : ((w.alloc (.cells (rwRp h) 61)).alloc (.cells rzRp 61)).rangeAt w.heap.size 3 (qax h.r) := qal (pre := [.int .i32 h.xi, .int .i64 h.zx, .int .i32 h.co]) (mid := qax h.r) (post := []) HS.out.c rfl rfl
 clear ht hok
 go_enter Tryz.func110, Tryz.ntmps110
 go_wp2_with (first
  | (apply qai 61 61; exact rfl; exact rfl; exact rfl; (first | (with_reducible rfl) | (exact sz1 _ _) | (exact sz2 _ _ _) | (exact sz3 _ _ _ _)); exact rfl; exact qbM; exact rfl; simp [Value.oneCell'])
  | (apply qau 59; exact rfl; exact rfl; exact rfl; assumption; exact qbY; exact rfl; exact qbk)
  | fail)
 refine (HC.out _ HS.out.b).mono ?_
 generalize ((w.alloc (.cells (rwRp h) 61)).alloc (.cells rzRp 61)) = V0 at *
 rintro e w1 ⟨⟨h6, rfl, ht6⟩, hb⟩
 have HB1 := Lib.hid hb
 have HSZ := Lib.hid HS.out.s
 replace HS := Lib.hid (HS.out.call hb)
 have hth : w1.there w.heap.size 3 22 := qbT HS.out.c _ _ (Nat.le_refl _)
 have hF := qaB w1 w.heap.size 3 (qax h6)
 have gZ : (w1.setCells w.heap.size 3 (qax h6)).heap[w.heap.size + 1]? = some (.cells rzRp 61 (0, 0)) := (hF.block _ (by have := HS.out.s; omega) (by simp)).trans HS.out.z
 have hp : (w1.setCells w.heap.size 3 (qax h6)).rangeAt w.heap.size 0 [.int .i32 h.xi, .int .i64 h.zx, .int .i32 h.co] := World.rangeAt_setCells_apart (qal (pre := []) (mid := [.int .i32 h.xi, .int .i64 h.zx, .int .i32 h.co]) (post := [.int .i32 h.r.n.ty, .int .i32 h.r.n.co, .string h.r.n.path, .int .i64 h.r.n.q.a, .int .i64 h.r.n.q.b, .int .i64 h.r.n.q.c, .int .i64 h.r.n.q.d, .int .i32 h.r.n.q.e, .int .i32 h.r.n.q.f, .int .i32 h.r.n.q.g, .int .i64 h.r.n.q.h, .int .i32 h.r.n.q.i, .int .i32 h.r.n.q.j, .int .i64 h.r.n.q.k, slV h.r.d, slV h.r.a, slV h.r.m, .int .i32 h.r.n.ct, .int .i64 h.r.n.si, .int .i32 h.r.n.st, slV h.r.i, slV h.r.s]) HS.out.c rfl rfl) _ _ _ (.inr (.inl (by simp)))
 have hrr : (w1.setCells w.heap.size 3 (qax h6)).rangeAt w.heap.size 0 (qaX ⟨h.xi, h.zx, h.co, h6⟩) := qca hp (World.rangeAt_setCells_same w1 w.heap.size 3 (qax h6) hth) rfl
 have ht7 : RsAt (w1.setCells w.heap.size 3 (qax h6)) (w.heap.size + 2 ≤ ·) h6 t.r := TrAt.fr kRsOk ht6 hF (fun b _ h => ⟨by have := HSZ.out; simp; omega, Nat.le_trans HSZ.out h⟩)
 have HT7 := Lib.hid ht7; have HG := Lib.hid (And.intro (hF.below HS.out.b.size (by simp)) gZ)
 have HF := Lib.hid hF
 clear ht6 hb ht7 hp hF
 go_wp2_with (first
  | (apply qaW 59; exact rfl; exact rfl; exact rfl; exact rfl; assumption; exact qbk; simp [Value.oneCell'])
  | (apply qau 61; exact rfl; exact rfl; exact rfl; assumption; exact qcA; exact rfl; exact qbM)
  | (apply qam 61 61; exact rfl; exact rfl; exact rfl; exact rfl; (first | assumption | (refine qaa ?_; assumption) | (exact qab _ _) | (exact qae _ _ _) | (exact qag _ _ _ _) | (exact qas _ _ _ _ _) | (exact qaa (qab _ _)) | (exact qaa (qae _ _ _)) | (exact qaa (qag _ _ _ _)) | (exact qaa (qaa (qab _ _))) | (exact qaa (qaa (qae _ _ _))) | (exact qaa (qaa (qaa (qab _ _))))); exact qbM; exact rfl; simp [Value.oneCell'])
  | fail)
 have hFr := qaS (w1.setCells w.heap.size 3 (qax h6)) (w.heap.size + 1) (qaX ⟨h.xi, h.zx, h.co, h6⟩).toArray
 exact qaD rfl rfl (setRow_heap _ _ _ _ _ _ gZ) qcA rfl qbM rfl ⟨⟨⟨h.xi, h.zx, h.co, h6⟩, rfl, ⟨HE.out, TrAt.fr kRsOk HT7.out hFr (fun b _ h => ⟨by simp; omega, by omega⟩)⟩⟩, below_setRow (HS.out.b.trans HG.out.1) (by omega) _⟩
/-- the voters that have all up to z -/
def hasI (ak : List Int) (z : Int) : List Int := ((List.range ak.length).filter (fun i => decide (z ≤ ak[i]!))).map (fun i : Nat => (i : Int))
theorem hasI_mem {ak : List Int} {z : Int} {i : Nat} : (i : Int) ∈ hasI ak z ↔ i < ak.length ∧ z ≤ ak[i]! := by
 unfold hasI
 rw [List.mem_map]
 constructor
 ·rintro ⟨j, hj, e⟩
  obtain rfl : j = i := by omega
  rw [List.mem_filter, List.mem_range, decide_eq_true_eq] at hj
  exact hj
 ·intro h
  exact ⟨i, by rw [List.mem_filter, List.mem_range, decide_eq_true_eq]; exact h, rfl⟩
theorem qft {ak : List Int} {z x : Int} (h : x ∈ hasI ak z) : ∃ i : Nat, x = (i : Int) ∧ i < ak.length ∧ z ≤ ak[i]! := by
 have h0 := h
 unfold hasI at h
 obtain ⟨j, _, e⟩ := List.mem_map.1 h
 rw [← e] at h0
 exact ⟨j, e.symm, hasI_mem.1 h0⟩
theorem qmN {ak : List Int} {y z : Int} (h : y ≤ z) : ∀ x ∈ hasI ak z, x ∈ hasI ak y := by
 intro x hx
 obtain ⟨i, rfl, h1, h2⟩ := qft hx
 exact hasI_mem.2 ⟨h1, by omega⟩
/-- have a quorum z? -/
def chB (vs : List VtV) (ak : List Int) (z : Int) : Bool := qbd vs (hasI ak z)
theorem qmd {vs : List VtV} {ak : List Int} {y z : Int} (h : y ≤ z) (hc : chB vs ak z = true) : chB vs ak y = true := qfb vs (qmN h) hc
def qcB (vs : List VtV) (ak : List Int) (b : Int) (l : List Int) : Int := l.foldl (fun b z => if b < z ∧ chB vs ak z = true then z else b) b
theorem qjo (vs : List VtV) (ak : List Int) (b z : Int) (l : List Int) : qcB vs ak b (z :: l) = qcB vs ak (if b < z ∧ chB vs ak z = true then z else b) l := rfl
theorem qhe (vs : List VtV) (ak : List Int) : ∀ (l : List Int) (b y : Int), y ≤ qcB vs ak b l ↔ y ≤ b ∨ ∃ z ∈ l, y ≤ z ∧ b < z ∧ chB vs ak z = true
 | [], b, y => by simp [qcB]
 | z :: l, b, y => by
  rw [qjo, qhe vs ak l]
  by_cases hc : b < z ∧ chB vs ak z = true
  ·rw [if_pos hc]
   constructor
   ·rintro (h | ⟨x, hx, h1, h2, h3⟩)
    ·exact .inr ⟨z, List.mem_cons_self, h, hc.1, hc.2⟩
    ·exact .inr ⟨x, List.mem_cons_of_mem _ hx, h1, by omega, h3⟩
   ·rintro (h | ⟨x, hx, h1, h2, h3⟩)
    ·exact .inl (by omega)
    ·rcases List.mem_cons.1 hx with rfl | hx
     ·exact .inl h1
     ·by_cases h4 : z < x
      ·exact .inr ⟨x, hx, h1, h4, h3⟩
      ·exact .inl (by omega)
  ·rw [if_neg hc]
   constructor
   ·rintro (h | ⟨x, hx, h1⟩)
    ·exact .inl h
    ·exact .inr ⟨x, List.mem_cons_of_mem _ hx, h1⟩
   ·rintro (h | ⟨x, hx, h1, h2, h3⟩)
    ·exact .inl h
    ·rcases List.mem_cons.1 hx with rfl | hx
     ·exact absurd ⟨h2, h3⟩ hc
     ·exact .inr ⟨x, hx, h1, h2, h3⟩
def qbE (vs : List VtV) (ak : List Int) (last : Int) : Int := if ak.length = 0 then last else qcB vs ak 0 ak
/-- the document's: is z chosen? -/
def qcm (vs : List VtV) (ak : List Int) (z : Int) : Bool := decide (ak.length = 0) || chB vs ak z
theorem qlV (ak : List Int) (i : Nat) (z : Int) (hi : i < ak.length) (hz : z ≤ ak[i]!) : ∃ m ∈ ak, z ≤ m ∧ ∀ x ∈ ak, z ≤ x → m ≤ x := by
 have key : ∀ l : List Int, (∃ y ∈ l, z ≤ y) → ∃ m ∈ l, z ≤ m ∧ ∀ x ∈ l, z ≤ x → m ≤ x := by
  intro l
  induction l with
  | nil => rintro ⟨y, hy, _⟩; cases hy
  | cons a r ih =>
   rintro ⟨y, hy, hzy⟩
   by_cases hr : ∃ y ∈ r, z ≤ y
   ·obtain ⟨m, hm, h1, h2⟩ := ih hr
    by_cases ha : z ≤ a ∧ a < m
    ·exact ⟨a, List.mem_cons_self, ha.1, fun x hx hzx => by
      rcases List.mem_cons.1 hx with rfl | hx
      ·omega
      ·have := h2 x hx hzx; omega⟩
    ·exact ⟨m, List.mem_cons_of_mem _ hm, h1, fun x hx hzx => by
      rcases List.mem_cons.1 hx with rfl | hx
      ·omega
      ·exact h2 x hx hzx⟩
   ·rcases List.mem_cons.1 hy with rfl | hy
    ·exact ⟨y, List.mem_cons_self, hzy, fun x hx hzx => by
      rcases List.mem_cons.1 hx with rfl | hx
      ·omega
      ·exact absurd ⟨x, hx, hzx⟩ hr⟩
    ·exact absurd ⟨y, hy, hzy⟩ hr
 exact key ak ⟨ak[i]!, by rw [getElem!_pos ak i hi]; exact List.getElem_mem hi, hz⟩
/-- the least that those who have z have is chosen with z -/
theorem qjB {vs : List VtV} {ak : List Int} {last z : Int} (h1 : 1 ≤ z) (hl : z ≤ last) : z ≤ qbE vs ak last ↔ qcm vs ak z = true := by
 unfold qbE qcm
 by_cases h0 : ak.length = 0
 ·rw [if_pos h0, decide_eq_true h0]; simp [hl]
 ·rw [if_neg h0, decide_eq_false h0, Bool.false_or, qhe]
  constructor
  ·rintro (h | ⟨x, _, hzx, _, hc⟩)
   ·omega
   ·exact qmd hzx hc
  ·intro hc
   right
   have hne : ∃ i, i < ak.length ∧ z ≤ ak[i]! := by
    apply Classical.byContradiction
    intro hn
    have : hasI ak z = [] := by
     rw [List.eq_nil_iff_forall_not_mem]
     intro x hx
     obtain ⟨i, _, h⟩ := qft hx
     exact hn ⟨i, h⟩
    unfold chB at hc
    rw [this, qkb] at hc
    cases hc
   obtain ⟨i, hi, hz⟩ := hne
   obtain ⟨m, hm, h2, h3⟩ := qlV ak i z hi hz
   refine ⟨m, hm, h2, by omega, ?_⟩
   unfold chB at hc ⊢
   refine qfb vs (fun x hx => ?_) hc
   obtain ⟨j, rfl, hj, hzj⟩ := qft hx
   refine hasI_mem.2 ⟨hj, h3 _ ?_ hzj⟩
   rw [getElem!_pos ak j hj]; exact List.getElem_mem hj
def qbU (zs : List Int) (z : Int) : Nat := (zs.takeWhile (fun x => decide (x ≤ z))).length
def qdy (vs : List VtV) (ak : List Int) (zs : List Int) : Nat := (zs.takeWhile (qcm vs ak)).length
theorem qdU {α : Type} {p q : α → Bool} : ∀ {l : List α}, (∀ x ∈ l, p x = q x) → l.takeWhile p = l.takeWhile q
 | [], _ => rfl
 | x :: l, h => by
  rw [List.takeWhile_cons, List.takeWhile_cons, h x List.mem_cons_self, qdU fun y hy => h y (List.mem_cons_of_mem _ hy)]
theorem qkF {vs : List VtV} {ak zs : List Int} {last : Int} (h : ∀ z ∈ zs, 1 ≤ z ∧ z ≤ last) : qbU zs (qbE vs ak last) = qdy vs ak zs := by
 unfold qbU qdy
 rw [qdU fun z hz => ?_]
 rw [Bool.eq_iff_iff, decide_eq_true_eq]
 exact qjB (h z hz).1 (h z hz).2
theorem qgB (zs : List Int) (z : Int) : qbU zs z ≤ zs.length := by
 unfold qbU
 exact (List.takeWhile_sublist _).length_le
/-- rising numbers -/
def qdb (zs : List Int) : Prop := zs.Pairwise (· < ·)
theorem qiv (x : Int) (zs : List Int) (z : Int) : qbU (x :: zs) z = if x ≤ z then qbU zs z + 1 else 0 := by
 unfold qbU
 rw [List.takeWhile_cons]
 by_cases h : x ≤ z
 ·rw [if_pos h, if_pos (by simpa using h)]; rfl
 ·rw [if_neg h, if_neg (by simpa using h)]; rfl
/-- of rising numbers: just the first ones are at most z -/
theorem qjr {zs : List Int} {z : Int} (hr : qdb zs) : ∀ i, i < zs.length → (zs[i]! ≤ z ↔ i < qbU zs z) := by
 induction zs with
 | nil => intro i hi; simp at hi
 | cons x r ih =>
  intro i hi
  have hx := (List.pairwise_cons.1 hr).1
  have hr' := (List.pairwise_cons.1 hr).2
  rw [qiv]
  cases i with
  | zero =>
   show x ≤ z ↔ _
   by_cases h : x ≤ z
   ·rw [if_pos h]; simp [h]
   ·rw [if_neg h]; simp [h]
  | succ i =>
   have hi' : i < r.length := by simpa using hi
   have e : (x :: r)[i + 1]! = r[i]! := by simp
   rw [e]
   by_cases h : x ≤ z
   ·rw [if_pos h, ih hr' i hi']; omega
   ·rw [if_neg h]
    have := hx r[i]! (by rw [getElem!_pos r i hi']; exact List.getElem_mem hi')
    constructor
    ·intro h2; omega
    ·intro h2; omega
/-- acknowledgements -/
def ackL (ak : List Int) (v : Nat) (z : Int) : List Int := ak.set v (max ak[v]! z)
theorem qfp (ak : List Int) (v : Nat) (z : Int) : (ackL ak v z).length = ak.length := by simp [ackL]
theorem qok (ak : List Int) (v : Nat) (z : Int) (i : Nat) (hi : i < ak.length) : (ackL ak v z)[i]! = if v = i then max ak[i]! z else ak[i]! := by
 unfold ackL
 rw [getElem!_pos _ i (by simpa using hi), List.getElem_set]
 by_cases h : v = i
 ·subst h; rw [if_pos rfl, if_pos rfl]
 ·rw [if_neg h, if_neg h, getElem!_pos ak i hi]
open Go.RowKit Go.MapKept Go.Maps
theorem qnD : ElemB encVt 25 82 2 16 (.agg #[.int .i64 0, .int .i64 0]) where
 under := Tryz.underlying25
 info := by kernel_rfl
 size := rfl
 len := fun _ => rfl
 pos := by decide
 one := fun x u hu => by
  simp [encVt] at hu
  rcases hu with rfl | rfl <;> rfl
 small := by decide
theorem qnF (w : World) : (binOp .eql 25 (.slice none 0 0) (.slice none 0 0)).run Tryz.prog w = .ok (.bool true) w := by kernel_rfl
theorem qmy (a : Addr) (n c : Nat) (w : World) : (binOp .eql 25 (.slice (some a) n c) (.slice none 0 0)).run Tryz.prog w = .ok (.bool false) w := by kernel_rfl
theorem qjP (w : World) : Calls Tryz.prog 71 #[.slice none 0 0] w fun e w' => e = .returned (.slice none 0 0) ∧ w = w' := by
 have hq := qnF
 go_enter Tryz.func71, Tryz.ntmps71
 go_wp2_with fail
 go_ret
 exact ⟨rfl, rfl⟩
theorem qiu (A : Option Addr) (n c : Nat) (l : List VtV) (w : World) (hz : Sl w w.heap.size encVt 2 A n l) (hA : A = none → n = 0 ∧ c = 0) (hn : n ≤ 4194304) :
  Calls Tryz.prog 71 #[.slice A n c] w (CloneP 82 encVt 2 n l w) := by
 cases A with
 | none =>
  obtain ⟨rfl, rfl⟩ := hA rfl
  have hl : l = [] := List.length_eq_zero_iff.1 hz.len
  subst hl
  refine (qjP w).mono ?_
  rintro e w' ⟨rfl, rfl⟩
  exact ⟨⟨none, 0, rfl, World.ownsRow_nil _ _ _ _⟩, Below.refl _ _⟩
 | some a =>
  have hb0 : Below w.heap.size w (w.alloc (.cells #[] 82)) := (Below.refl _ w).alloc (Nat.le_refl _) _
  have HS := Lib.hid (hz.belowMore hb0 hb0.size)
  have HB := Lib.hid hb0
  have HOW := Lib.hid (qbc (T := 82) (k := 2) w)
  have hq := qmy a n c
  clear hz hA hb0
  go_enter Tryz.func71, Tryz.ntmps71
  go_wp2_with (at_builtin; refine qaY qnD rfl _ _ rfl w.heap.size (some ⟨w.heap.size, 0, none⟩) 0 0 [] ?hx HOW.out (some a) n c l ?hy HS.out (fun e => by cases e) (by omega) HB.out.size ?hk)
  (try case hx => rfl)
  (try case hy => rfl)
  case hk =>
   intro A2 c2 w2 hv2 hb2 _
   have HV2 := Lib.hid hv2; have HB2 := Lib.hid (HB.out.trans hb2)
   clear hv2 hb2
   go_wp2_with fail
   go_ret
   exact ⟨⟨A2, c2, by simp, by simpa using HV2.out⟩, HB2.out⟩
open Go.RowKit Go.MapKept Go.Maps
theorem qht : ElemB qaz 45 155 2 32 (.agg #[.string ⟨#[]⟩, .string ⟨#[]⟩]) where
 under := Tryz.underlying45
 info := by kernel_rfl
 size := rfl
 len := fun _ => rfl
 pos := by decide
 one := fun x u hu => by
  simp [qaz] at hu
  rcases hu with rfl | rfl <;> rfl
 small := by decide
theorem qhp {α : Type} [Inhabited α] (l : List α) (x : α) (j : Nat) (h : j < l.length) : (l ++ [x])[j]! = l[j]! := by
 rw [getElem!_pos (l ++ [x]) j (by simp; omega), getElem!_pos l j h, List.getElem_append_left h]
theorem qhC {α : Type} [Inhabited α] (l : List α) (x : α) : (l ++ [x])[l.length]! = x := by
 rw [getElem!_pos (l ++ [x]) l.length (by simp)]; simp
theorem OnT.keep {A A' : Option Addr} {w w' : World} (h : OnT A A' w w') : ∃ own, Fr own w w' ∧ (∀ b, b < w.heap.size → offRow A b → b ∉ own ∧ offRow A' b) ∧ ∀ g ∈ own, A = some ⟨g, 0, none⟩ := by
 rcases h with ⟨rfl, b, rfl, hf⟩ | ⟨hb, b, rfl, hge⟩
 ·refine ⟨[b], hf, fun b' _ h => ⟨?_, h⟩, fun g hg => by rw [List.mem_singleton.1 hg]⟩
  rw [List.mem_singleton]
  intro e; subst e; exact h 0 rfl
 ·exact ⟨[], Fr.of_below hb, fun b' hlt _ => ⟨by simp, fun o e => by injection e with e; injection e with e1 _; omega⟩, fun g hg => by cases hg⟩
theorem CnSt.fr {w V V' : World} {C Z : Array Value} {T : TypeId} {own : List Nat} (H : CnSt w V C Z T) (hf : Fr own V V') (hn : ∀ g ∈ own, w.heap.size + 2 ≤ g) : CnSt w V' C Z T :=
 ⟨(hf.block _ (by have := H.s; omega) (fun h => by have := hn _ h; omega)).trans H.c, (hf.block _ (by have := H.s; omega) (fun h => by have := hn _ h; omega)).trans H.z, H.b.trans (hf.below H.b.size (fun g hg => by have := hn g hg; omega)), Nat.le_trans H.s hf.size⟩
section
variable {α : Type} [Inhabited α] {w w' : World} {B : Nat} {k : Nat} {enc : α → List Value} {h : SlC} {zs : List α}
theorem SlR.nlater (H : SlR w (NfR w B) enc k h zs) (hb : Below w.heap.size w w') (hk : ∀ x, 0 < (enc x).length) : SlR w' (NfR w' B) enc k h zs :=
 H.fr (Fr.of_below (own := []) hb) (fun b _ h => ⟨by simp, h.below hb⟩) hk
theorem SlR.nput {g : Nat} (H : SlR w (NfR w (g + 2)) enc k h zs) (hk : ∀ x, 0 < (enc x).length) (o : Nat) (v : Value) : SlR (w.setCell ⟨g, o, none⟩ v) (NfR (w.setCell ⟨g, o, none⟩ v) (g + 2)) enc k h zs :=
 H.fr (qaE w g o v) (fun b _ h => by
  have hn : b ∉ [g] := by have := h.1; simp; omega
  exact ⟨hn, h.fr (qaE w g o v) hn (Nat.le_refl _)⟩) hk
theorem SlR.nown {T : TypeId} {base n c : Nat} {A : Option Addr} {l : List α} (h : w.ownsRow base T k (.slice A n c) n (l.flatMap enc)) (hk : ∀ x, (enc x).length = k) (hl : l.length = n) (hB : B ≤ base) : SlR w (NfR w B) enc k (A, n, c) l := qfA (qfx h hB) hk hl
end
end Go.Proofs.YtbpmmmnphpkdjaaGreatDoor
