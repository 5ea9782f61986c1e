/- The walk of the law's step: what is common; a push. Condition: lists of at most 2^20. -/
import Derived.Test.YtbpmmmnphpkdjaaGreatDoorWSpo
import Derived.Test.YtbpmmmnphpkdjaaGreatDoorWRqG
import Derived.Test.YtbpmmmnphpkdjaaGreatDoorWWgt
import Derived.Test.YtbpmmmnphpkdjaaGreatDoorWQueD
namespace Go.Proofs.YtbpmmmnphpkdjaaGreatDoor
set_option linter.unusedSimpArgs false
set_option maxRecDepth 100000
set_option maxHeartbeats 20000000
open Go.RowKit Go.MapKept Go.Maps
theorem qnb : Tryz.prog.underlying 77 = some (.struct (Tryz.prog.fieldsOf 77)) := by kernel_rfl
theorem qmX : (Tryz.prog.info? 77).map (·.size) = some 48 := by kernel_rfl
/-- what a step leaves: both queues alike, as ever -/
def StpP (w0 : World) (bq br : Nat) (e : Ending) (w' : World) : Prop := e = .returned (.bool true) ∧ ∃ st' x' R' y' Q', st'.vs.length ≤ 9 ∧ PlE w0 w' bq br st' st' x' R' y' Q'
theorem qml (st : QuT) (p : PrT) : (qbx st p).vs = st.vs := by unfold qbx; split <;> rfl
theorem qnS (st : QuT) (v z : Int) : (ackT st v z).vs = st.vs := by unfold ackT; split <;> rfl
theorem qlL (st : QuT) : (qbX st).vs = st.vs := by unfold qbX; split <;> rfl
/-- the law's own copy of an op's proposal, in a variable -/
structure Mn (w W : World) (z : QoC) (h : PrH) (gM : Nat) (hm : PrH) (p : PrT) : Prop where
 box : W.heap[w.heap.size]? = some (.cells (encQo z h).toArray 77 (0, 0))
 mn : W.heap[gM]? = some (.cells (qah hm).toArray 63 (0, 0))
 at_ : PrAt W (fun b => NfR W w.heap.size b ∧ b ≠ gM) hm p
 b : Below w.heap.size w W
 ge : w.heap.size < gM
section
variable {w0 w W W' : World} {z : QoC} {h hm : PrH} {gM : Nat} {p : PrT} {bq br : Nat} {sa sb : QuT} {x : QuX} {R : Nat → Prop} {y : RqX} {Q : Nat → Prop}
/-- the blocks of the copy -/
def MnP (w W : World) (gM b : Nat) : Prop := w.heap.size ≤ b ∧ b < W.heap.size ∧ b ≠ gM
theorem Mn.lt (H : Mn w W z h gM hm p) : w.heap.size < W.heap.size ∧ gM < W.heap.size := ⟨(Array.getElem?_eq_some_iff.1 H.box).1, (Array.getElem?_eq_some_iff.1 H.mn).1⟩
theorem Mn.nf (H : Mn w W z h gM hm p) : PrNf W (MnP w W gM) hm := PrAt.nf H.at_ (fun _ hb => ⟨⟨Nat.zero_le _, hb.1.2⟩, hb.1.1, hb.1.lt, hb.2⟩)
/-- behind the calls on the queues the copy is as it was -/
theorem Mn.sp {own : List Nat} (H : Mn w W z h gM hm p) (hf : Fr own W W') (hn : ∀ g, MnP w W gM g → g ∉ own) (hg : gM ∉ own) : SpS W' gM (MnP w W gM) hm W' ∧ PrAt W' (MnP w W gM) hm p :=
 ⟨⟨(hf.block _ H.lt.2 hg).trans H.mn, fun h => h.2.2 rfl, H.nf.fr hf (fun b _ hb => ⟨hn b hb, hb⟩), ⟨[], Fr.refl _ _, fun g hg => by cases hg⟩⟩, H.at_.fr hf (fun b hlt hb => ⟨hn b ⟨hb.1.1, hlt, hb.2⟩, hb.1.1, hlt, hb.2⟩)⟩
theorem qoA {own own' : List Nat} (h : Fr own W W') (hs : ∀ g ∈ own, g ∈ own') : Fr own' W W' := ⟨h.os, h.tape, h.output, h.size, fun g hg hn => h.block g hg (fun hm => hn (hs g hm))⟩
theorem Mn.ranges {own : List Nat} (H : Mn w W z h gM hm p) (hf : Fr own W W') (h1 : w.heap.size ∉ own) (h2 : gM ∉ own) : W'.rangeAt gM 0 (qah hm) ∧ W'.rangeAt w.heap.size 3 (qaU h.d) ∧ W'.rangeAt w.heap.size 23 (qaX h.r) :=
 ⟨qal (pre := []) (mid := qah hm) (post := []) ((hf.block _ H.lt.2 h2).trans H.mn) (by simp) rfl,
  qal (pre := [.int .i64 z.1, .int .i64 z.2.1, .int .i64 z.2.2]) (mid := qaU h.d) (post := qaX h.r) ((hf.block _ H.lt.1 h1).trans H.box) rfl rfl, qal (pre := [.int .i64 z.1, .int .i64 z.2.1, .int .i64 z.2.2] ++ qaU h.d) (mid := qaX h.r) (post := []) ((hf.block _ H.lt.1 h1).trans H.box) rfl rfl⟩
theorem Mn.close {XD w1 XR w2 V : World} {D : DlH} {Rr : RpH} {zc : Array Value} (hw : Below w.heap.size w W) (hbox : W.heap[w.heap.size]? = some (.cells (encQo z h).toArray 77 (0, 0))) (b1 : Below W.heap.size W XD) (c1 : Below XD.heap.size XD w1) (b2 : Below w1.heap.size w1 XR) (c2 : Below XR.heap.size XR w2) (b3 : Below w2.heap.size w2 V)
  (hd : DlAt w1 (NfR w1 XD.heap.size) D p.d) (hr : RpAt w2 (NfR w2 XR.heap.size) Rr p.r) (hz : V.heap[gM]? = some (.cells zc 63 (0, 0))) (hge : w.heap.size < gM) (n1 : gM < XD.heap.size ∨ w1.heap.size ≤ gM) (n2 : gM < XR.heap.size ∨ w2.heap.size ≤ gM) : Mn w (V.setRow gM (qah ⟨D, Rr⟩).toArray) z h gM ⟨D, Rr⟩ p := by
 have hl : w.heap.size < W.heap.size := (Array.getElem?_eq_some_iff.1 hbox).1
 have u1 := b1.trans (c1.mono b1.size)
 have u2 := u1.trans (b2.mono u1.size)
 have u3 := u2.trans (c2.mono u2.size)
 have u4 := u3.trans (b3.mono u3.size)
 have d1 := b2.trans (c2.mono b2.size)
 have d2 := d1.trans (b3.mono d1.size)
 have hf := qaS V gM (qah ⟨D, Rr⟩).toArray
 have s1 := b1.size; have s2 := c1.size; have s3 := b2.size; have s4 := c2.size
 refine ⟨(hf.block _ (by have := u4.size; omega) (by simp; omega)).trans ((u4.block _ hl).trans hbox), setRow_heap _ _ _ _ _ _ hz, ⟨?_, ?_⟩, (hw.trans (u4.mono hw.size)).trans (hf.below (Nat.le_trans hw.size u4.size) (by simp; omega)), hge⟩
 ·refine (hd.fr (R' := fun b => NfR V w.heap.size b ∧ b ≠ gM) (Fr.of_below (own := []) d2) (fun b hlt hb => ⟨by simp, hb.fr (Fr.of_below (own := []) d2) (by simp) (by omega), by have := hb.1; omega⟩)).fr hf (fun b _ hb => ⟨by simp; exact hb.2, hb.1.fr hf (by simp; exact hb.2) (Nat.le_refl _), hb.2⟩)
 ·refine (hr.fr (R' := fun b => NfR V w.heap.size b ∧ b ≠ gM) (Fr.of_below (own := []) b3) (fun b hlt hb => ⟨by simp, hb.fr (Fr.of_below (own := []) b3) (by simp) (by omega), by have := hb.1; omega⟩)).fr hf (fun b _ hb => ⟨by simp; exact hb.2, hb.1.fr hf (by simp; exact hb.2) (Nat.le_refl _), hb.2⟩)
end
theorem qll (w0 w : World) (hE : Env w0) (bq br : Nat) (st : QuT) (x : QuX) (R : Nat → Prop) (y : RqX) (Q : Nat → Prop) (H : PlE w0 w bq br st st x R y Q) (hv9 : st.vs.length ≤ 9) (on oz : Int) (h : PrH) (p : PrT) (hp : PrAt w0 (· < w0.heap.size) h p) (hsm : PrSm 1048576 p) :
  Calls Tryz.prog 30 #[.pointer (some ⟨bq, 0, none⟩), .pointer (some ⟨br, 0, none⟩), .agg (encQo (1, on, oz) h).toArray] w (StpP w0 bq br) := by
 have HH := Lib.hid H
 have HG := Lib.hid (qab w (.cells (encQo (1, on, oz) h).toArray 77))
 have HB1 := Lib.hid (show Below w.heap.size w (w.alloc (.cells (encQo (1, on, oz) h).toArray 77)) from (Below.refl _ w).alloc (Nat.le_refl _) _)
 have HZ1 := Lib.hid (sz1 w (.cells (encQo (1, on, oz) h).toArray 77))
 have HP0 := Lib.hid hp; have HSM := Lib.hid hsm; have HE := Lib.hid hE
 clear H hp hsm hE
 go_enter Tryz.func30, Tryz.ntmps30
 go_upto_region 1 with fail
 generalize w.alloc (.cells (encQo (1, on, oz) h).toArray 77) = W at *
 have k0 : W.cell? ⟨w.heap.size, 0, none⟩ = some (.int .i64 1) := by rw [qaf HG.out]; rfl
 have HPW := Lib.hid (fun (V : World) (hV : Below W.heap.size W V) => show PrAt V (· < w0.heap.size) h p from HP0.out.fr (R' := (· < w0.heap.size)) (Fr.of_below (own := []) ((HH.out.b.trans (HB1.out.mono HH.out.b.size)).trans (hV.mono (Nat.le_trans HH.out.b.size HB1.out.size)))) (fun b _ h => ⟨by simp, h⟩))
 have HCd := Lib.hid (fun (V : World) (hV : Below W.heap.size W V) => qgs h.d p.d V _ (HPW.out V hV).1 HSM.out.1)
 have HCr := Lib.hid (fun (V : World) (hV : Below W.heap.size W V) => qgl h.r p.r V _ (HPW.out V hV).2 HSM.out.2)
 have HSO := Lib.hid (fun (V : World) (hV : Below W.heap.size W V) => (show V.rangeAt w.heap.size 3 (qaU h.d) ∧ V.rangeAt w.heap.size 23 (qaX h.r) from
  ⟨qal (pre := [.int .i64 1, .int .i64 on, .int .i64 oz]) (mid := qaU h.d) (post := qaX h.r) ((hV.block _ (by have := HZ1.out; omega)).trans HG.out) rfl rfl, qal (pre := [.int .i64 1, .int .i64 on, .int .i64 oz] ++ qaU h.d) (mid := qaX h.r) (post := []) ((hV.block _ (by have := HZ1.out; omega)).trans HG.out) rfl rfl⟩))
 go_upto_region 3 with fail
 go_cut [7] from 24 to 30 (fun v wx => ∃ gM hm, v = .pointer (some ⟨gM, 0, none⟩) ∧ Mn w wx (1, on, oz) h gM hm p)
 case first =>
  refine qaP (S := fun V => V.rangeAt w.heap.size 3 (qaU h.d) ∧ V.rangeAt w.heap.size 23 (qaX h.r)) 8 (by kernel_rfl) (HSO.out _ (qaj W)) (fun hHeld => ?_)
  refine qad (i := 0) (v := .pointer (some ⟨w.heap.size, 3, none⟩)) rfl (by kernel_rfl) (fun _ _ _ h => h) (Or.inl ⟨by rfl, by intro w hSw; clear hSw; go_simp⟩) (by assumption) ?_
  (try simp only [pT])
  refine qad (i := 1) (v := .agg (qaU h.d).toArray) rfl (by kernel_rfl) (fun _ _ _ h => h) (yieldsIf_load_mid (by rfl) 54 _ rfl w.heap.size 3 rfl (qaU h.d) _ (fun _ h => h.1) qcn rfl qbC) (by assumption) ?_
  (try simp only [pT])
  refine qad (i := 3) (v := .pointer (some ⟨w.heap.size, 23, none⟩)) rfl (by kernel_rfl) (fun _ _ _ h => h) (Or.inl ⟨by rfl, by intro w hSw; clear hSw; go_simp⟩) (by assumption) ?_
  (try simp only [pT])
  refine qad (i := 4) (v := .agg (qaX h.r).toArray) rfl (by kernel_rfl) (fun _ _ _ h => h) (yieldsIf_load_mid (by rfl) 61 _ rfl w.heap.size 23 rfl (qaX h.r) _ (fun _ h => h.2) qcA rfl qbM) (by assumption) ?_
  (try simp only [pT])
  refine qdo (i := 2) (j := 7) rfl rfl (by kernel_rfl) (fun K hK => ?_) (fun K hK => ?_)
  ·go_simp
   refine (HCd.out _ (qaj W)).mono ?_
   rintro e w1 ⟨⟨hd, rfl, had⟩, hb1⟩
   dsimp only
   have HAD := Lib.hid had; have HC1 := Lib.hid hb1
   have U1 := Lib.hid (Below.trans (qaj W) (hb1.mono (Below.size (qaj W))))
   refine hK.out _ _ (HSO.out _ U1.out) ?_
   clear hK K had hb1
   (try simp only [pT])
   refine qdo (i := 5) (j := 7) rfl rfl (by kernel_rfl) (fun K hK => ?_) (fun K hK => ?_)
   ·go_simp
    refine (HCr.out _ U1.out).mono ?_
    rintro e w2 ⟨⟨hr, rfl, har⟩, hb2⟩
    dsimp only
    have HAR := Lib.hid har; have HC2 := Lib.hid hb2
    have U2 := Lib.hid (Below.trans U1.out (hb2.mono (Below.size U1.out)))
    refine hK.out _ _ (HSO.out _ U2.out) ?_
    clear hK K har hb2
    (try simp only [pT])
    have hHeld2 := HSO.out _ U2.out
    refine qad (i := 6) (v := .agg (List.toArray (.int .i64 hd.se :: .int .i32 hd.xi :: .int .i64 hd.zx :: .int .i64 hd.ti :: .int .i32 hd.t.n.ty :: .string hd.t.n.path :: slV hd.t.d :: slV hd.t.a :: .int .i64 hd.t.n.ow :: .int .i32 hd.t.n.ve :: .int .i32 hd.t.n.cr :: .bool hd.t.n.qh :: .int .i64 hd.t.n.qc :: .int .i64 hd.t.n.qb :: .int .i64 hd.t.n.si :: .int .i32 hd.t.n.st :: slV hd.t.i :: slV hd.t.p :: .int .i32 hd.t.n.co :: slV hd.t.s :: .int .i32 hr.xi :: .int .i64 hr.zx :: .int .i32 hr.co :: .int .i32 hr.r.n.ty :: .int .i32 hr.r.n.co :: .string hr.r.n.path :: .int .i64 hr.r.n.q.a :: .int .i64 hr.r.n.q.b :: .int .i64 hr.r.n.q.c :: .int .i64 hr.r.n.q.d :: .int .i32 hr.r.n.q.e :: .int .i32 hr.r.n.q.f :: .int .i32 hr.r.n.q.g :: .int .i64 hr.r.n.q.h :: .int .i32 hr.r.n.q.i :: .int .i32 hr.r.n.q.j :: .int .i64 hr.r.n.q.k :: slV hr.r.d :: slV hr.r.a :: slV hr.r.m :: .int .i32 hr.r.n.ct :: .int .i64 hr.r.n.si :: .int .i32 hr.r.n.st :: slV hr.r.i :: slV hr.r.s :: []))) rfl (by kernel_rfl) (fun _ _ _ h => h) (Or.inl ⟨by rfl, by intro w hSw; clear hSw; go_simp⟩) (by assumption) ?_
    (try simp only [pT])
    refine qaq (i := 7) rfl (by kernel_rfl) (fun K hK => ?_)
    go_simp
    refine hK.out _ _ (HSO.out _ (U2.out.trans (((Below.refl _ w2).alloc (Nat.le_refl _) (.cells (List.toArray (.int .i64 0 :: .int .i32 0 :: .int .i64 0 :: .int .i64 0 :: .int .i32 0 :: .string ⟨#[]⟩ :: .slice none 0 0 :: .slice none 0 0 :: .int .i64 0 :: .int .i32 0 :: .int .i32 0 :: .bool false :: .int .i64 0 :: .int .i64 0 :: .int .i64 0 :: .int .i32 0 :: .slice none 0 0 :: .slice none 0 0 :: .int .i32 0 :: .slice none 0 0 :: .int .i32 0 :: .int .i64 0 :: .int .i32 0 :: .int .i32 0 :: .int .i32 0 :: .string ⟨#[]⟩ :: .int .i64 0 :: .int .i64 0 :: .int .i64 0 :: .int .i64 0 :: .int .i32 0 :: .int .i32 0 :: .int .i32 0 :: .int .i64 0 :: .int .i32 0 :: .int .i32 0 :: .int .i64 0 :: .slice none 0 0 :: .slice none 0 0 :: .slice none 0 0 :: .int .i32 0 :: .int .i64 0 :: .int .i32 0 :: .slice none 0 0 :: .slice none 0 0 :: [])) 63)).mono U2.out.size))) ?_
    clear hK K
    (try simp only [pT])
    refine qaG (n := 8) (by kernel_rfl) ?_
    simp only [List.drop_succ_cons, List.drop_zero]
    have gZ := (qab w2 (.cells rzPr 63))
    go_wp2_with (first
     | (apply qam 63 63; exact rfl; exact rfl; exact rfl; exact rfl; (first | assumption | (refine qaa ?_; assumption) | (exact qab _ _) | (exact qae _ _ _) | (exact qag _ _ _ _) | (exact qas _ _ _ _ _) | (exact qaa (qab _ _)) | (exact qaa (qae _ _ _)) | (exact qaa (qag _ _ _ _)) | (exact qaa (qaa (qab _ _))) | (exact qaa (qaa (qae _ _ _))) | (exact qaa (qaa (qaa (qab _ _))))); exact qaI; exact rfl; (first | exact qbo _ | simp [Value.oneCell']))
     | fail)
    go_meet
    exact ⟨_, ⟨hd, hr⟩, rfl, Mn.close HB1.out HG.out (qaj W) HC1.out (Below.refl _ _) HC2.out ((Below.refl _ w2).alloc (Nat.le_refl _) (.cells (List.toArray (.int .i64 0 :: .int .i32 0 :: .int .i64 0 :: .int .i64 0 :: .int .i32 0 :: .string ⟨#[]⟩ :: .slice none 0 0 :: .slice none 0 0 :: .int .i64 0 :: .int .i32 0 :: .int .i32 0 :: .bool false :: .int .i64 0 :: .int .i64 0 :: .int .i64 0 :: .int .i32 0 :: .slice none 0 0 :: .slice none 0 0 :: .int .i32 0 :: .slice none 0 0 :: .int .i32 0 :: .int .i64 0 :: .int .i32 0 :: .int .i32 0 :: .int .i32 0 :: .string ⟨#[]⟩ :: .int .i64 0 :: .int .i64 0 :: .int .i64 0 :: .int .i64 0 :: .int .i32 0 :: .int .i32 0 :: .int .i32 0 :: .int .i64 0 :: .int .i32 0 :: .int .i32 0 :: .int .i64 0 :: .slice none 0 0 :: .slice none 0 0 :: .slice none 0 0 :: .int .i32 0 :: .int .i64 0 :: .int .i32 0 :: .slice none 0 0 :: .slice none 0 0 :: [])) 63)) HAD.out HAR.out (qab w2 (.cells rzPr 63)) (by have := U2.out.size; have := HZ1.out; omega) (.inr HC2.out.size) (.inr (Nat.le_refl _))⟩
   ·go_simp
    refine hK.out _ _ (HSO.out _ (U1.out.trans (((Below.refl _ w1).alloc (Nat.le_refl _) (.cells (List.toArray (.int .i64 0 :: .int .i32 0 :: .int .i64 0 :: .int .i64 0 :: .int .i32 0 :: .string ⟨#[]⟩ :: .slice none 0 0 :: .slice none 0 0 :: .int .i64 0 :: .int .i32 0 :: .int .i32 0 :: .bool false :: .int .i64 0 :: .int .i64 0 :: .int .i64 0 :: .int .i32 0 :: .slice none 0 0 :: .slice none 0 0 :: .int .i32 0 :: .slice none 0 0 :: .int .i32 0 :: .int .i64 0 :: .int .i32 0 :: .int .i32 0 :: .int .i32 0 :: .string ⟨#[]⟩ :: .int .i64 0 :: .int .i64 0 :: .int .i64 0 :: .int .i64 0 :: .int .i32 0 :: .int .i32 0 :: .int .i32 0 :: .int .i64 0 :: .int .i32 0 :: .int .i32 0 :: .int .i64 0 :: .slice none 0 0 :: .slice none 0 0 :: .slice none 0 0 :: .int .i32 0 :: .int .i64 0 :: .int .i32 0 :: .slice none 0 0 :: .slice none 0 0 :: [])) 63)).mono U1.out.size))) ?_
    clear hK K
    (try simp only [pT])
    refine qaq (i := 5) rfl (by kernel_rfl) (fun K hK => ?_)
    go_simp
    refine (HCr.out _ (U1.out.trans (((Below.refl _ w1).alloc (Nat.le_refl _) (.cells (List.toArray (.int .i64 0 :: .int .i32 0 :: .int .i64 0 :: .int .i64 0 :: .int .i32 0 :: .string ⟨#[]⟩ :: .slice none 0 0 :: .slice none 0 0 :: .int .i64 0 :: .int .i32 0 :: .int .i32 0 :: .bool false :: .int .i64 0 :: .int .i64 0 :: .int .i64 0 :: .int .i32 0 :: .slice none 0 0 :: .slice none 0 0 :: .int .i32 0 :: .slice none 0 0 :: .int .i32 0 :: .int .i64 0 :: .int .i32 0 :: .int .i32 0 :: .int .i32 0 :: .string ⟨#[]⟩ :: .int .i64 0 :: .int .i64 0 :: .int .i64 0 :: .int .i64 0 :: .int .i32 0 :: .int .i32 0 :: .int .i32 0 :: .int .i64 0 :: .int .i32 0 :: .int .i32 0 :: .int .i64 0 :: .slice none 0 0 :: .slice none 0 0 :: .slice none 0 0 :: .int .i32 0 :: .int .i64 0 :: .int .i32 0 :: .slice none 0 0 :: .slice none 0 0 :: [])) 63)).mono U1.out.size))).mono ?_
    rintro e w2 ⟨⟨hr, rfl, har⟩, hb2⟩
    dsimp only
    have HAR := Lib.hid har; have HC2 := Lib.hid hb2
    have U2 := Lib.hid (Below.trans (U1.out.trans (((Below.refl _ w1).alloc (Nat.le_refl _) (.cells (List.toArray (.int .i64 0 :: .int .i32 0 :: .int .i64 0 :: .int .i64 0 :: .int .i32 0 :: .string ⟨#[]⟩ :: .slice none 0 0 :: .slice none 0 0 :: .int .i64 0 :: .int .i32 0 :: .int .i32 0 :: .bool false :: .int .i64 0 :: .int .i64 0 :: .int .i64 0 :: .int .i32 0 :: .slice none 0 0 :: .slice none 0 0 :: .int .i32 0 :: .slice none 0 0 :: .int .i32 0 :: .int .i64 0 :: .int .i32 0 :: .int .i32 0 :: .int .i32 0 :: .string ⟨#[]⟩ :: .int .i64 0 :: .int .i64 0 :: .int .i64 0 :: .int .i64 0 :: .int .i32 0 :: .int .i32 0 :: .int .i32 0 :: .int .i64 0 :: .int .i32 0 :: .int .i32 0 :: .int .i64 0 :: .slice none 0 0 :: .slice none 0 0 :: .slice none 0 0 :: .int .i32 0 :: .int .i64 0 :: .int .i32 0 :: .slice none 0 0 :: .slice none 0 0 :: [])) 63)).mono U1.out.size)) (hb2.mono (Below.size (U1.out.trans (((Below.refl _ w1).alloc (Nat.le_refl _) (.cells (List.toArray (.int .i64 0 :: .int .i32 0 :: .int .i64 0 :: .int .i64 0 :: .int .i32 0 :: .string ⟨#[]⟩ :: .slice none 0 0 :: .slice none 0 0 :: .int .i64 0 :: .int .i32 0 :: .int .i32 0 :: .bool false :: .int .i64 0 :: .int .i64 0 :: .int .i64 0 :: .int .i32 0 :: .slice none 0 0 :: .slice none 0 0 :: .int .i32 0 :: .slice none 0 0 :: .int .i32 0 :: .int .i64 0 :: .int .i32 0 :: .int .i32 0 :: .int .i32 0 :: .string ⟨#[]⟩ :: .int .i64 0 :: .int .i64 0 :: .int .i64 0 :: .int .i64 0 :: .int .i32 0 :: .int .i32 0 :: .int .i32 0 :: .int .i64 0 :: .int .i32 0 :: .int .i32 0 :: .int .i64 0 :: .slice none 0 0 :: .slice none 0 0 :: .slice none 0 0 :: .int .i32 0 :: .int .i64 0 :: .int .i32 0 :: .slice none 0 0 :: .slice none 0 0 :: [])) 63)).mono U1.out.size)))))
    refine hK.out _ _ (HSO.out _ U2.out) ?_
    clear hK K har hb2
    (try simp only [pT])
    have hHeld2 := HSO.out _ U2.out
    refine qad (i := 6) (v := .agg (List.toArray (.int .i64 hd.se :: .int .i32 hd.xi :: .int .i64 hd.zx :: .int .i64 hd.ti :: .int .i32 hd.t.n.ty :: .string hd.t.n.path :: slV hd.t.d :: slV hd.t.a :: .int .i64 hd.t.n.ow :: .int .i32 hd.t.n.ve :: .int .i32 hd.t.n.cr :: .bool hd.t.n.qh :: .int .i64 hd.t.n.qc :: .int .i64 hd.t.n.qb :: .int .i64 hd.t.n.si :: .int .i32 hd.t.n.st :: slV hd.t.i :: slV hd.t.p :: .int .i32 hd.t.n.co :: slV hd.t.s :: .int .i32 hr.xi :: .int .i64 hr.zx :: .int .i32 hr.co :: .int .i32 hr.r.n.ty :: .int .i32 hr.r.n.co :: .string hr.r.n.path :: .int .i64 hr.r.n.q.a :: .int .i64 hr.r.n.q.b :: .int .i64 hr.r.n.q.c :: .int .i64 hr.r.n.q.d :: .int .i32 hr.r.n.q.e :: .int .i32 hr.r.n.q.f :: .int .i32 hr.r.n.q.g :: .int .i64 hr.r.n.q.h :: .int .i32 hr.r.n.q.i :: .int .i32 hr.r.n.q.j :: .int .i64 hr.r.n.q.k :: slV hr.r.d :: slV hr.r.a :: slV hr.r.m :: .int .i32 hr.r.n.ct :: .int .i64 hr.r.n.si :: .int .i32 hr.r.n.st :: slV hr.r.i :: slV hr.r.s :: []))) rfl (by kernel_rfl) (fun _ _ _ h => h) (Or.inl ⟨by rfl, by intro w hSw; clear hSw; go_simp⟩) (by assumption) ?_
    (try simp only [pT])
    refine qaG (n := 8) (by kernel_rfl) ?_
    simp only [List.drop_succ_cons, List.drop_zero]
    have gZ := ((HC2.out.block w1.heap.size (by rw [sz1]; exact Nat.lt_succ_self _)).trans (qab w1 (.cells rzPr 63)))
    go_wp2_with (first
     | (apply qam 63 63; exact rfl; exact rfl; exact rfl; exact rfl; (first | assumption | (refine qaa ?_; assumption) | (exact qab _ _) | (exact qae _ _ _) | (exact qag _ _ _ _) | (exact qas _ _ _ _ _) | (exact qaa (qab _ _)) | (exact qaa (qae _ _ _)) | (exact qaa (qag _ _ _ _)) | (exact qaa (qaa (qab _ _))) | (exact qaa (qaa (qae _ _ _))) | (exact qaa (qaa (qaa (qab _ _))))); exact qaI; exact rfl; (first | exact qbo _ | simp [Value.oneCell']))
     | fail)
    go_meet
    exact ⟨_, ⟨hd, hr⟩, rfl, Mn.close HB1.out HG.out (qaj W) HC1.out ((Below.refl _ w1).alloc (Nat.le_refl _) (.cells (List.toArray (.int .i64 0 :: .int .i32 0 :: .int .i64 0 :: .int .i64 0 :: .int .i32 0 :: .string ⟨#[]⟩ :: .slice none 0 0 :: .slice none 0 0 :: .int .i64 0 :: .int .i32 0 :: .int .i32 0 :: .bool false :: .int .i64 0 :: .int .i64 0 :: .int .i64 0 :: .int .i32 0 :: .slice none 0 0 :: .slice none 0 0 :: .int .i32 0 :: .slice none 0 0 :: .int .i32 0 :: .int .i64 0 :: .int .i32 0 :: .int .i32 0 :: .int .i32 0 :: .string ⟨#[]⟩ :: .int .i64 0 :: .int .i64 0 :: .int .i64 0 :: .int .i64 0 :: .int .i32 0 :: .int .i32 0 :: .int .i32 0 :: .int .i64 0 :: .int .i32 0 :: .int .i32 0 :: .int .i64 0 :: .slice none 0 0 :: .slice none 0 0 :: .slice none 0 0 :: .int .i32 0 :: .int .i64 0 :: .int .i32 0 :: .slice none 0 0 :: .slice none 0 0 :: [])) 63)) HC2.out (Below.refl _ _) HAD.out HAR.out ((HC2.out.block w1.heap.size (by rw [sz1]; exact Nat.lt_succ_self _)).trans (qab w1 (.cells rzPr 63))) (by have := U1.out.size; have := HZ1.out; omega) (.inr (Nat.le_refl _)) (.inl (by rw [sz1]; exact Nat.lt_succ_self _))⟩
  ·go_simp
   refine hK.out _ _ (HSO.out _ ((qaj W).trans (((Below.refl _ W.drew).alloc (Nat.le_refl _) (.cells (List.toArray (.int .i64 0 :: .int .i32 0 :: .int .i64 0 :: .int .i64 0 :: .int .i32 0 :: .string ⟨#[]⟩ :: .slice none 0 0 :: .slice none 0 0 :: .int .i64 0 :: .int .i32 0 :: .int .i32 0 :: .bool false :: .int .i64 0 :: .int .i64 0 :: .int .i64 0 :: .int .i32 0 :: .slice none 0 0 :: .slice none 0 0 :: .int .i32 0 :: .slice none 0 0 :: .int .i32 0 :: .int .i64 0 :: .int .i32 0 :: .int .i32 0 :: .int .i32 0 :: .string ⟨#[]⟩ :: .int .i64 0 :: .int .i64 0 :: .int .i64 0 :: .int .i64 0 :: .int .i32 0 :: .int .i32 0 :: .int .i32 0 :: .int .i64 0 :: .int .i32 0 :: .int .i32 0 :: .int .i64 0 :: .slice none 0 0 :: .slice none 0 0 :: .slice none 0 0 :: .int .i32 0 :: .int .i64 0 :: .int .i32 0 :: .slice none 0 0 :: .slice none 0 0 :: [])) 63)).mono (qaj W).size))) ?_
   clear hK K
   (try simp only [pT])
   refine qaq (i := 2) rfl (by kernel_rfl) (fun K hK => ?_)
   go_simp
   refine (HCd.out _ ((qaj W).trans (((Below.refl _ W.drew).alloc (Nat.le_refl _) (.cells (List.toArray (.int .i64 0 :: .int .i32 0 :: .int .i64 0 :: .int .i64 0 :: .int .i32 0 :: .string ⟨#[]⟩ :: .slice none 0 0 :: .slice none 0 0 :: .int .i64 0 :: .int .i32 0 :: .int .i32 0 :: .bool false :: .int .i64 0 :: .int .i64 0 :: .int .i64 0 :: .int .i32 0 :: .slice none 0 0 :: .slice none 0 0 :: .int .i32 0 :: .slice none 0 0 :: .int .i32 0 :: .int .i64 0 :: .int .i32 0 :: .int .i32 0 :: .int .i32 0 :: .string ⟨#[]⟩ :: .int .i64 0 :: .int .i64 0 :: .int .i64 0 :: .int .i64 0 :: .int .i32 0 :: .int .i32 0 :: .int .i32 0 :: .int .i64 0 :: .int .i32 0 :: .int .i32 0 :: .int .i64 0 :: .slice none 0 0 :: .slice none 0 0 :: .slice none 0 0 :: .int .i32 0 :: .int .i64 0 :: .int .i32 0 :: .slice none 0 0 :: .slice none 0 0 :: [])) 63)).mono (qaj W).size))).mono ?_
   rintro e w1 ⟨⟨hd, rfl, had⟩, hb1⟩
   dsimp only
   have HAD := Lib.hid had; have HC1 := Lib.hid hb1
   have U1 := Lib.hid (Below.trans ((qaj W).trans (((Below.refl _ W.drew).alloc (Nat.le_refl _) (.cells (List.toArray (.int .i64 0 :: .int .i32 0 :: .int .i64 0 :: .int .i64 0 :: .int .i32 0 :: .string ⟨#[]⟩ :: .slice none 0 0 :: .slice none 0 0 :: .int .i64 0 :: .int .i32 0 :: .int .i32 0 :: .bool false :: .int .i64 0 :: .int .i64 0 :: .int .i64 0 :: .int .i32 0 :: .slice none 0 0 :: .slice none 0 0 :: .int .i32 0 :: .slice none 0 0 :: .int .i32 0 :: .int .i64 0 :: .int .i32 0 :: .int .i32 0 :: .int .i32 0 :: .string ⟨#[]⟩ :: .int .i64 0 :: .int .i64 0 :: .int .i64 0 :: .int .i64 0 :: .int .i32 0 :: .int .i32 0 :: .int .i32 0 :: .int .i64 0 :: .int .i32 0 :: .int .i32 0 :: .int .i64 0 :: .slice none 0 0 :: .slice none 0 0 :: .slice none 0 0 :: .int .i32 0 :: .int .i64 0 :: .int .i32 0 :: .slice none 0 0 :: .slice none 0 0 :: [])) 63)).mono (qaj W).size)) (hb1.mono (Below.size ((qaj W).trans (((Below.refl _ W.drew).alloc (Nat.le_refl _) (.cells (List.toArray (.int .i64 0 :: .int .i32 0 :: .int .i64 0 :: .int .i64 0 :: .int .i32 0 :: .string ⟨#[]⟩ :: .slice none 0 0 :: .slice none 0 0 :: .int .i64 0 :: .int .i32 0 :: .int .i32 0 :: .bool false :: .int .i64 0 :: .int .i64 0 :: .int .i64 0 :: .int .i32 0 :: .slice none 0 0 :: .slice none 0 0 :: .int .i32 0 :: .slice none 0 0 :: .int .i32 0 :: .int .i64 0 :: .int .i32 0 :: .int .i32 0 :: .int .i32 0 :: .string ⟨#[]⟩ :: .int .i64 0 :: .int .i64 0 :: .int .i64 0 :: .int .i64 0 :: .int .i32 0 :: .int .i32 0 :: .int .i32 0 :: .int .i64 0 :: .int .i32 0 :: .int .i32 0 :: .int .i64 0 :: .slice none 0 0 :: .slice none 0 0 :: .slice none 0 0 :: .int .i32 0 :: .int .i64 0 :: .int .i32 0 :: .slice none 0 0 :: .slice none 0 0 :: [])) 63)).mono (qaj W).size)))))
   refine hK.out _ _ (HSO.out _ U1.out) ?_
   clear hK K had hb1
   (try simp only [pT])
   refine qaq (i := 5) rfl (by kernel_rfl) (fun K hK => ?_)
   go_simp
   refine (HCr.out _ U1.out).mono ?_
   rintro e w2 ⟨⟨hr, rfl, har⟩, hb2⟩
   dsimp only
   have HAR := Lib.hid har; have HC2 := Lib.hid hb2
   have U2 := Lib.hid (Below.trans U1.out (hb2.mono (Below.size U1.out)))
   refine hK.out _ _ (HSO.out _ U2.out) ?_
   clear hK K har hb2
   (try simp only [pT])
   have hHeld2 := HSO.out _ U2.out
   refine qad (i := 6) (v := .agg (List.toArray (.int .i64 hd.se :: .int .i32 hd.xi :: .int .i64 hd.zx :: .int .i64 hd.ti :: .int .i32 hd.t.n.ty :: .string hd.t.n.path :: slV hd.t.d :: slV hd.t.a :: .int .i64 hd.t.n.ow :: .int .i32 hd.t.n.ve :: .int .i32 hd.t.n.cr :: .bool hd.t.n.qh :: .int .i64 hd.t.n.qc :: .int .i64 hd.t.n.qb :: .int .i64 hd.t.n.si :: .int .i32 hd.t.n.st :: slV hd.t.i :: slV hd.t.p :: .int .i32 hd.t.n.co :: slV hd.t.s :: .int .i32 hr.xi :: .int .i64 hr.zx :: .int .i32 hr.co :: .int .i32 hr.r.n.ty :: .int .i32 hr.r.n.co :: .string hr.r.n.path :: .int .i64 hr.r.n.q.a :: .int .i64 hr.r.n.q.b :: .int .i64 hr.r.n.q.c :: .int .i64 hr.r.n.q.d :: .int .i32 hr.r.n.q.e :: .int .i32 hr.r.n.q.f :: .int .i32 hr.r.n.q.g :: .int .i64 hr.r.n.q.h :: .int .i32 hr.r.n.q.i :: .int .i32 hr.r.n.q.j :: .int .i64 hr.r.n.q.k :: slV hr.r.d :: slV hr.r.a :: slV hr.r.m :: .int .i32 hr.r.n.ct :: .int .i64 hr.r.n.si :: .int .i32 hr.r.n.st :: slV hr.r.i :: slV hr.r.s :: []))) rfl (by kernel_rfl) (fun _ _ _ h => h) (Or.inl ⟨by rfl, by intro w hSw; clear hSw; go_simp⟩) (by assumption) ?_
   (try simp only [pT])
   refine qaG (n := 8) (by kernel_rfl) ?_
   simp only [List.drop_succ_cons, List.drop_zero]
   have gZ := ((HC2.out.block W.heap.size (Nat.lt_of_lt_of_le (by rw [sz1]; exact Nat.lt_succ_self _) HC1.out.size)).trans ((HC1.out.block W.heap.size (by rw [sz1]; exact Nat.lt_succ_self _)).trans (qab W.drew (.cells rzPr 63))))
   go_wp2_with (first
    | (apply qam 63 63; exact rfl; exact rfl; exact rfl; exact rfl; (first | assumption | (refine qaa ?_; assumption) | (exact qab _ _) | (exact qae _ _ _) | (exact qag _ _ _ _) | (exact qas _ _ _ _ _) | (exact qaa (qab _ _)) | (exact qaa (qae _ _ _)) | (exact qaa (qag _ _ _ _)) | (exact qaa (qaa (qab _ _))) | (exact qaa (qaa (qae _ _ _))) | (exact qaa (qaa (qaa (qab _ _))))); exact qaI; exact rfl; (first | exact qbo _ | simp [Value.oneCell']))
    | fail)
   go_meet
   exact ⟨_, ⟨hd, hr⟩, rfl, Mn.close HB1.out HG.out ((qaj W).trans (((Below.refl _ W.drew).alloc (Nat.le_refl _) (.cells (List.toArray (.int .i64 0 :: .int .i32 0 :: .int .i64 0 :: .int .i64 0 :: .int .i32 0 :: .string ⟨#[]⟩ :: .slice none 0 0 :: .slice none 0 0 :: .int .i64 0 :: .int .i32 0 :: .int .i32 0 :: .bool false :: .int .i64 0 :: .int .i64 0 :: .int .i64 0 :: .int .i32 0 :: .slice none 0 0 :: .slice none 0 0 :: .int .i32 0 :: .slice none 0 0 :: .int .i32 0 :: .int .i64 0 :: .int .i32 0 :: .int .i32 0 :: .int .i32 0 :: .string ⟨#[]⟩ :: .int .i64 0 :: .int .i64 0 :: .int .i64 0 :: .int .i64 0 :: .int .i32 0 :: .int .i32 0 :: .int .i32 0 :: .int .i64 0 :: .int .i32 0 :: .int .i32 0 :: .int .i64 0 :: .slice none 0 0 :: .slice none 0 0 :: .slice none 0 0 :: .int .i32 0 :: .int .i64 0 :: .int .i32 0 :: .slice none 0 0 :: .slice none 0 0 :: [])) 63)).mono (qaj W).size)) HC1.out (Below.refl _ _) HC2.out (Below.refl _ _) HAD.out HAR.out gZ (by have := HZ1.out; omega) (.inl (by rw [sz1]; exact Nat.lt_succ_self _)) (.inl (Nat.lt_of_lt_of_le (by rw [sz1]; exact Nat.lt_succ_self _) HC1.out.size))⟩
 case rest =>
 obtain ⟨gM, hm, rfl, hmn⟩ := hcut
 rename World => W3
 have HMN := Lib.hid hmn
 have HP3 := Lib.hid (HH.out.later hmn.b)
 have HO3 := Lib.hid (show PrAt W3 (· < w0.heap.size) h p from HP0.out.fr (R' := (· < w0.heap.size)) (Fr.of_below (own := []) HP3.out.b) (fun b _ h => ⟨by simp, h⟩))
 have HAL := Lib.hid (show ∀ g, w.heap.size ≤ g → g ∉ [bq, x.gr, x.ga, br, y.gv] from fun g hg => by
  have h1 := HH.out.new (P := fun b => w.heap.size ≤ b) (fun _ h => h) g hg
  have h2 := h1.1
  simp only [List.mem_cons, List.not_mem_nil, or_false, not_or] at h2 ⊢
  exact ⟨h2.1, h2.2.1, h2.2.2, h1.2.2.1, h1.2.2.2.1⟩)
 have HA := Lib.hid (HH.out.new (P := MnP w W3 gM) (fun g h => h.1))
 have HSP := Lib.hid (fun (V : World) (hV : Fr [bq, x.gr, x.ga, br, y.gv] W3 V) => hmn.sp hV (fun g hg => HAL.out g hg.1) (HAL.out gM (Nat.le_of_lt hmn.ge)))
 have HS3 := Lib.hid (fun (V : World) (hV : Fr [bq, x.gr, x.ga, br, y.gv] W3 V) => hmn.ranges hV (HAL.out _ (Nat.le_refl _)) (HAL.out gM (Nat.le_of_lt hmn.ge)))
 have HPU := Lib.hid (fun (V : World) (hV : Below W3.heap.size W3 V) => qmV (HP3.out.later hV).q (HP3.out.later hV).ia (PrAt.fr (R' := fun _ => True) hmn.at_ (Fr.of_below (own := []) hV) (fun b _ h => ⟨by simp, trivial⟩)) ((HP3.out.later hV).env HE.out) HSM.out)
 have HV9 := Lib.hid hv9
 clear hmn HCd HCr HSO HPW HG HB1 HZ1 k0 HMN hv9
 go_upto_region 4 with fail
 refine qaP (S := fun V => V.rangeAt gM 0 (qah hm) ∧ V.rangeAt w.heap.size 3 (qaU h.d) ∧ V.rangeAt w.heap.size 23 (qaX h.r)) 13 (by kernel_rfl) (HS3.out _ (Fr.of_below (qaj W3))) (fun hHeld => ?_)
 refine qad (i := 0) (v := .pointer (some ⟨bq, 0, none⟩)) rfl (by kernel_rfl) (fun _ _ _ h => h) (Or.inl ⟨by rfl, by intro w hSw; clear hSw; go_simp⟩) (by assumption) ?_
 (try simp only [pT])
 refine qad (i := 1) (v := .agg (qah hm).toArray) rfl (by kernel_rfl) (fun _ _ _ h => h) (yieldsIf_load_mid (by rfl) 63 _ rfl gM 0 rfl (qah hm) _ (fun _ h => h.1) qbq rfl qaI) (by assumption) ?_
 (try simp only [pT])
 refine qad (i := 4) (v := .pointer (some ⟨br, 0, none⟩)) rfl (by kernel_rfl) (fun _ _ _ h => h) (Or.inl ⟨by rfl, by intro w hSw; clear hSw; go_simp⟩) (by assumption) ?_
 (try simp only [pT])
 refine qad (i := 5) (v := .pointer (some ⟨w.heap.size, 3, none⟩)) rfl (by kernel_rfl) (fun _ _ _ h => h) (Or.inl ⟨by rfl, by intro w hSw; clear hSw; go_simp⟩) (by assumption) ?_
 (try simp only [pT])
 refine qad (i := 6) (v := .agg (qaU h.d).toArray) rfl (by kernel_rfl) (fun _ _ _ h => h) (yieldsIf_load_mid (by rfl) 54 _ rfl w.heap.size 3 rfl (qaU h.d) _ (fun _ h => h.2.1) qcn rfl qbC) (by assumption) ?_
 (try simp only [pT])
 refine qad (i := 7) (v := .pointer (some ⟨w.heap.size, 23, none⟩)) rfl (by kernel_rfl) (fun _ _ _ h => h) (Or.inl ⟨by rfl, by intro w hSw; clear hSw; go_simp⟩) (by assumption) ?_
 (try simp only [pT])
 refine qad (i := 8) (v := .agg (qaX h.r).toArray) rfl (by kernel_rfl) (fun _ _ _ h => h) (yieldsIf_load_mid (by rfl) 61 _ rfl w.heap.size 23 rfl (qaX h.r) _ (fun _ h => h.2.2) qcA rfl qbM) (by assumption) ?_
 (try simp only [pT])
 refine qad (i := 9) (v := .agg (List.toArray (.int .i64 h.d.se :: .int .i32 h.d.xi :: .int .i64 h.d.zx :: .int .i64 h.d.ti :: .int .i32 h.d.t.n.ty :: .string h.d.t.n.path :: slV h.d.t.d :: slV h.d.t.a :: .int .i64 h.d.t.n.ow :: .int .i32 h.d.t.n.ve :: .int .i32 h.d.t.n.cr :: .bool h.d.t.n.qh :: .int .i64 h.d.t.n.qc :: .int .i64 h.d.t.n.qb :: .int .i64 h.d.t.n.si :: .int .i32 h.d.t.n.st :: slV h.d.t.i :: slV h.d.t.p :: .int .i32 h.d.t.n.co :: slV h.d.t.s :: .int .i32 h.r.xi :: .int .i64 h.r.zx :: .int .i32 h.r.co :: .int .i32 h.r.r.n.ty :: .int .i32 h.r.r.n.co :: .string h.r.r.n.path :: .int .i64 h.r.r.n.q.a :: .int .i64 h.r.r.n.q.b :: .int .i64 h.r.r.n.q.c :: .int .i64 h.r.r.n.q.d :: .int .i32 h.r.r.n.q.e :: .int .i32 h.r.r.n.q.f :: .int .i32 h.r.r.n.q.g :: .int .i64 h.r.r.n.q.h :: .int .i32 h.r.r.n.q.i :: .int .i32 h.r.r.n.q.j :: .int .i64 h.r.r.n.q.k :: slV h.r.r.d :: slV h.r.r.a :: slV h.r.r.m :: .int .i32 h.r.r.n.ct :: .int .i64 h.r.r.n.si :: .int .i32 h.r.r.n.st :: slV h.r.r.i :: slV h.r.r.s :: []))) rfl (by kernel_rfl) (fun _ _ _ h => h) (Or.inl ⟨by rfl, by intro w hSw; clear hSw; go_simp⟩) (by assumption) ?_
 (try simp only [pT])
 refine qaq (i := 2) rfl (by kernel_rfl) (fun K hK => ?_)
 go_simp
 refine (HPU.out _ (qaj W3)).mono ?_
 rintro e w4 ⟨rfl, hs4⟩
 dsimp only
 obtain ⟨x4, R4, h4, -, hA4⟩ := PlE.stepA (HP3.out.later (qaj W3)) hs4 (qeq HP3.out.ia p HSM.out)
 have HF4 := Lib.hid (show Fr [bq, x.gr, x.ga, br, y.gv] W3 w4 from (Fr.of_below (own := [bq, x.gr, x.ga, br, y.gv]) (qaj W3)).trans hs4.2 (fun g hg => .inl (by simp at hg ⊢; omega)))
 have H4 := Lib.hid h4
 have HA4 := Lib.hid (hA4 (MnP w W3 gM) (fun g hg => hg.2.1) HA.out)
 refine hK.out _ _ (HS3.out _ HF4.out) ?_
 clear hK K hs4 h4 hA4
 (try simp only [pT])
 have HRP := Lib.hid (qib w4 w0.heap.size br y Q st h p H4.out.r H4.out.ib.l4 (HO3.out.fr (R' := (· < w0.heap.size)) HF4.out (fun b hlt hb => ⟨by
  have h1 := H4.out.las; have h2 := H4.out.r.ge; have h3 := HP3.out.las bq (by simp); have h4 := HP3.out.las x.gr (by simp); have h5 := HP3.out.las x.ga (by simp)
  simp only [List.mem_cons, List.not_mem_nil, or_false, not_or]
  omega, hb⟩)) HSM.out)
 refine qaq (i := 3) rfl (by kernel_rfl) (fun K hK => ?_)
 go_simp
 refine (qcW _ _).mono ?_
 rintro e w' ⟨rfl, rfl⟩
 dsimp only
 refine hK.out _ _ (HS3.out _ HF4.out) ?_
 clear hK K
 (try simp only [pT])
 refine qaq (i := 10) rfl (by kernel_rfl) (fun K hK => ?_)
 go_simp
 refine HRP.out.mono ?_
 rintro e w5 ⟨rfl, hs5⟩
 dsimp only
 obtain ⟨y5, Q5, h5, hA5⟩ := PlE.stepB H4.out hs5 (qeq H4.out.ib p HSM.out)
 have HF5 := Lib.hid (show Fr [bq, x.gr, x.ga, br, y.gv] W3 w5 from HF4.out.trans hs5.2 (fun g hg => .inl (by simp at hg ⊢; omega)))
 have H5 := Lib.hid h5
 have HA5 := Lib.hid (hA5 (MnP w W3 gM) (fun g hg => Nat.lt_of_lt_of_le hg.2.1 HF4.out.size) HA4.out)
 refine hK.out _ _ (HS3.out _ HF5.out) ?_
 clear hK K hs5 h5 hA5 HRP HPU
 (try simp only [pT])
 have HPE := Lib.hid (show qaL st p = qaL st p from rfl)
 clear HPE
 have hHeld5 := HS3.out _ HF5.out
 refine qad (i := 11) (v := .bool true) rfl (by kernel_rfl) (fun _ _ _ h => h) (Or.inl ⟨by rfl, by intro w hSw; clear hSw; go_simp⟩) (by assumption) ?_
 (try simp only [pT])
 refine qad (i := 12) (v := .bool true) rfl (by kernel_rfl) (fun _ _ _ h => h) (Or.inl ⟨by rfl, by intro w hSw; clear hSw; go_simp⟩) (by assumption) ?_
 (try simp only [pT])
 refine qaG (n := 13) (by kernel_rfl) ?_
 simp only [List.drop_succ_cons, List.drop_zero, List.drop_nil]
 go_wp2_with fail
 have hsp := HSP.out _ HF5.out
 have HCS := Lib.hid (qeF w5 gM (MnP w W3 gM) hm hsp.1 hsp.2 HSM.out)
 clear hsp
 refine HCS.out.mono ?_
 rintro e w6 ⟨rfl, ho⟩
 have H6 := Lib.hid (H5.out.only HA5.out ho)
 clear ho HCS
 go_wp2_with fail
 go_ret
 exact ⟨rfl, qbx st p, x4, R4, y5, Q5, by rw [qml]; exact HV9.out, H6.out⟩
end Go.Proofs.YtbpmmmnphpkdjaaGreatDoor
