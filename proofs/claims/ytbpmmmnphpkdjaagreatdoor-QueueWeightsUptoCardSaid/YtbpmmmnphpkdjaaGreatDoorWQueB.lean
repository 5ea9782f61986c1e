/- The walk of Proposal.own. Condition: lists of at most 2^20. Rows whose cells may be written. -/
import Derived.Test.YtbpmmmnphpkdjaaGreatDoorWRplI
import Derived.Test.YtbpmmmnphpkdjaaGreatDoorWRgtP
namespace Go.Proofs.YtbpmmmnphpkdjaaGreatDoor
set_option linter.unusedSimpArgs false
set_option maxRecDepth 100000
set_option maxHeartbeats 20000000
open Go.RowKit Go.MapKept
theorem qbq : Tryz.prog.underlying 63 = some (.struct (Tryz.prog.fieldsOf 63)) := by kernel_rfl
theorem qaI : (Tryz.prog.info? 63).map (·.size) = some 45 := by kernel_rfl
@[reducible] def prV (h : PrH) : Value := .agg #[.int .i64 h.d.se, .int .i32 h.d.xi, .int .i64 h.d.zx, .int .i64 h.d.ti, .int .i32 h.d.t.n.ty, .string h.d.t.n.path, slV h.d.t.d, slV h.d.t.a, .int .i64 h.d.t.n.ow, .int .i32 h.d.t.n.ve, .int .i32 h.d.t.n.cr, .bool h.d.t.n.qh, .int .i64 h.d.t.n.qc, .int .i64 h.d.t.n.qb, .int .i64 h.d.t.n.si, .int .i32 h.d.t.n.st, slV h.d.t.i, slV h.d.t.p, .int .i32 h.d.t.n.co, slV h.d.t.s, .int .i32 h.r.xi, .int .i64 h.r.zx, .int .i32 h.r.co, .int .i32 h.r.r.n.ty, .int .i32 h.r.r.n.co, .string h.r.r.n.path, .int .i64 h.r.r.n.q.a, .int .i64 h.r.r.n.q.b, .int .i64 h.r.r.n.q.c, .int .i64 h.r.r.n.q.d, .int .i32 h.r.r.n.q.e, .int .i32 h.r.r.n.q.f, .int .i32 h.r.r.n.q.g, .int .i64 h.r.r.n.q.h, .int .i32 h.r.r.n.q.i, .int .i32 h.r.r.n.q.j, .int .i64 h.r.r.n.q.k, slV h.r.r.d, slV h.r.r.a, slV h.r.r.m, .int .i32 h.r.r.n.ct, .int .i64 h.r.r.n.si, .int .i32 h.r.r.n.st, slV h.r.r.i, slV h.r.r.s]
def PrSm (m : Nat) (p : PrT) : Prop := DlSm m p.d ∧ RpSm m p.r
def qor (t : PrT) (w : World) (e : Ending) (w' : World) : Prop := (∃ h', e = .returned (prV h') ∧ PrAt w' (w.heap.size ≤ ·) h' t) ∧ Below w.heap.size w w'
theorem DlAt.fr {own : List Nat} {w w' : World} {R R' : Nat → Prop} {h : DlH} {t : DlT} (H : DlAt w R h t) (hf : Fr own w w') (hR : ∀ b, b < w.heap.size → R b → b ∉ own ∧ R' b) : DlAt w' R' h t := ⟨H.1, TrAt.fr kTxOk H.2 hf hR⟩
theorem RpAt.fr {own : List Nat} {w w' : World} {R R' : Nat → Prop} {h : RpH} {t : RpT} (H : RpAt w R h t) (hf : Fr own w w') (hR : ∀ b, b < w.heap.size → R b → b ∉ own ∧ R' b) : RpAt w' R' h t := ⟨H.1, TrAt.fr kRsOk H.2 hf hR⟩
theorem PrAt.fr {own : List Nat} {w w' : World} {R R' : Nat → Prop} {h : PrH} {t : PrT} (H : PrAt w R h t) (hf : Fr own w w') (hR : ∀ b, b < w.heap.size → R b → b ∉ own ∧ R' b) : PrAt w' R' h t := ⟨H.1.fr hf hR, H.2.fr hf hR⟩
theorem qkN (h : PrH) (t : PrT) (w : World) (R : Nat → Prop) (ht : PrAt w R h t) (hok : PrSm 1048576 t) : Calls Tryz.prog 65 #[prV h] w (qor t w) := by
 have HS := Lib.hid (CnSt.start w (rwPr h) rzPr 63)
 have HCd := Lib.hid (fun (W : World) (hW : Below w.heap.size w W) => qid h.d t.d W _ (DlAt.fr (R' := R) ht.1 (Fr.of_below (own := []) hW) (fun b _ h => ⟨by simp, h⟩)) hok.1)
 have HCr := Lib.hid (fun (W : World) (hW : Below w.heap.size w W) => qii h.r t.r W _ (RpAt.fr (R' := R) ht.2 (Fr.of_below (own := []) hW) (fun b _ h => ⟨by simp, h⟩)) hok.2)
 clear ht hok
 go_enter Tryz.func65, Tryz.ntmps65
 go_wp2_with (first
  | (apply qai 63 63; exact rfl; exact rfl; exact rfl; (first | (with_reducible rfl) | (exact sz1 _ _) | (exact sz2 _ _ _) | (exact sz3 _ _ _ _)); exact rfl; exact qaI; exact rfl; simp [Value.oneCell'])
  | fail)
 generalize ((w.alloc (.cells (rwPr h) 63)).alloc (.cells rzPr 63)) = V at *
 replace HS := Lib.hid (HS.out.call (qaj V))
 have HSO := Lib.hid (fun (W : World) (hW : Below V.drew.heap.size V.drew W) => (show W.rangeAt w.heap.size 0 (qaU h.d) ∧ W.rangeAt w.heap.size 20 (qaX h.r) from ⟨qal (pre := []) (mid := qaU h.d) (post := qaX h.r) (HS.out.call hW).c rfl rfl, qal (pre := qaU h.d) (mid := qaX h.r) (post := []) (HS.out.call hW).c rfl rfl⟩))
 refine qaP (S := fun w' => w'.rangeAt w.heap.size 0 (qaU h.d) ∧ w'.rangeAt w.heap.size 20 (qaX h.r)) 7 (by kernel_rfl) (HSO.out _ (Below.refl _ _)) (fun hHeld => ?_)
 generalize V.drew = V0 at *
 refine qad (i := 0) (v := .pointer (some ⟨w.heap.size, 0, none⟩)) rfl (by kernel_rfl) (fun _ _ _ h => h) (Or.inl ⟨by rfl, by intro w hSw; clear hSw; go_simp⟩) (by assumption) ?_
 (try simp only [pT])
 refine qad (i := 1) (v := .agg (qaU h.d).toArray) rfl (by kernel_rfl) (fun _ _ _ h => h) (yieldsIf_load_mid (by rfl) 54 _ rfl w.heap.size 0 rfl (qaU h.d) _ (fun _ h => h.1) qcn rfl qbC) (by assumption) ?_
 (try simp only [pT])
 refine qad (i := 3) (v := .pointer (some ⟨w.heap.size, 20, none⟩)) rfl (by kernel_rfl) (fun _ _ _ h => h) (Or.inl ⟨by rfl, by intro w hSw; clear hSw; go_simp⟩) (by assumption) ?_
 (try simp only [pT])
 refine qad (i := 4) (v := .agg (qaX h.r).toArray) rfl (by kernel_rfl) (fun _ _ _ h => h) (yieldsIf_load_mid (by rfl) 61 _ rfl w.heap.size 20 rfl (qaX h.r) _ (fun _ h => h.2) qcA rfl qbM) (by assumption) ?_
 (try simp only [pT])
 refine qaq (i := 2) rfl (by kernel_rfl) (fun K hK => ?_)
 go_simp
 refine (HCd.out _ HS.out.b).mono ?_
 rintro e w1 ⟨⟨hd, rfl, hat⟩, hb⟩
 dsimp only
 have HD := Lib.hid (And.intro HS.out.s hat)
 replace HSO := Lib.hid (fun (W : World) (hW : Below w1.heap.size w1 W) => HSO.out W (hb.trans (hW.mono hb.size)))
 replace HS := Lib.hid (HS.out.call hb)
 replace hHeld := HSO.out _ (Below.refl _ _)
 refine hK.out _ _ hHeld ?_
 clear hK K hat hb
 (try simp only [pT])
 refine qaq (i := 5) rfl (by kernel_rfl) (fun K hK => ?_)
 go_simp
 refine (HCr.out _ HS.out.b).mono ?_
 rintro e w2 ⟨⟨hr, rfl, hat⟩, hb⟩
 dsimp only
 have HRR := Lib.hid (And.intro HS.out.s hat)
 have HB2 := Lib.hid hb
 replace HSO := Lib.hid (fun (W : World) (hW : Below w2.heap.size w2 W) => HSO.out W (hb.trans (hW.mono hb.size)))
 replace HS := Lib.hid (HS.out.call hb)
 refine hK.out _ _ (HSO.out _ (Below.refl _ _)) ?_
 clear hK K hat hb hHeld
 (try simp only [pT])
 refine qaq (i := 6) rfl (by kernel_rfl) (fun K hK => ?_)
 go_simp
 refine hK.out _ _ (HSO.out _ (Below.refl _ _)) ?_
 clear hK K
 (try simp only [pT])
 refine qaG (n := 7) (by kernel_rfl) ?_
 simp only [List.drop_succ_cons, List.drop_zero]
 have gZ := HS.out.z
 go_wp2_with (first
  | (apply qam 63 63; exact rfl; exact rfl; exact rfl; exact rfl; (first | assumption | (refine qaa ?_; assumption) | (exact qab _ _) | (exact qae _ _ _) | (exact qag _ _ _ _) | (exact qas _ _ _ _ _) | (exact qaa (qab _ _)) | (exact qaa (qae _ _ _)) | (exact qaa (qag _ _ _ _)) | (exact qaa (qaa (qab _ _))) | (exact qaa (qaa (qae _ _ _))) | (exact qaa (qaa (qaa (qab _ _))))); exact qaI; exact rfl; simp [Value.oneCell'])
  | fail)
 have hFr := qaS w2 (w.heap.size + 1) (qah ⟨hd, hr⟩).toArray
 exact qaD rfl rfl (setRow_heap _ _ _ _ _ _ gZ) qbq rfl qaI rfl ⟨⟨⟨hd, hr⟩, rfl, ⟨(HD.out.2.fr (R' := (w.heap.size + 2 ≤ ·)) (Fr.of_below (own := []) HB2.out) (fun b _ h => ⟨by simp, Nat.le_trans HD.out.1 h⟩)).fr hFr (fun b _ h => ⟨by simp; omega, by omega⟩), HRR.out.2.fr hFr (fun b _ h => ⟨by have := HRR.out.1; simp; omega, by have := HRR.out.1; omega⟩)⟩⟩, below_setRow HS.out.b (by omega) _⟩
open Go.RowKit Go.MapKept Go.Maps
/-- a row's cells are there and may be written -/
def SlN (w : World) (R : Nat → Prop) (k : Nat) (s : SlC) : Prop := ∀ b off, s.1 = some ⟨b, off, none⟩ → 0 < s.2.1 → R b ∧ w.there b off (s.2.1 * k)
section
variable {w w' : World} {R R' : Nat → Prop} {k : Nat} {s : SlC}
theorem SlN.fr {own : List Nat} (H : SlN w R k s) (hf : Fr own w w') (hR : ∀ b, b < w.heap.size → R b → b ∉ own ∧ R' b) (hk : 0 < k) : SlN w' R' k s := fun b off e h0 => by
 obtain ⟨h1, h2⟩ := H b off e h0
 have hlt : b < w.heap.size := by
  obtain ⟨h3, _⟩ := h2 0 (Nat.mul_pos h0 hk)
  obtain ⟨u, hu⟩ := Option.isSome_iff_exists.1 h3
  exact World.block_lt_of_cell? w _ hu
 exact ⟨(hR b hlt h1).2, qbp h2 hf (hR b hlt h1).1⟩
theorem SlN.later (H : SlN w R k s) (hb : Below w.heap.size w w') (hk : 0 < k) : SlN w' R k s := H.fr (Fr.of_below (own := []) hb) (fun b _ h => ⟨by simp, h⟩) hk
theorem SlN.put {g : Nat} (H : SlN w (g + 2 ≤ ·) k s) (hk : 0 < k) (o : Nat) (v : Value) : SlN (w.setCell ⟨g, o, none⟩ v) (g + 2 ≤ ·) k s := H.fr (qaE w g o v) (fun b _ h => ⟨by simp; omega, h⟩) hk
theorem SlN.own {base B n c : Nat} {T : TypeId} {A : Option Addr} {xs : List Value} (h : w.ownsRow base T k (.slice A n c) n xs) (hB : B ≤ base) : SlN w (B ≤ ·) k (A, n, c) := fun b off e h0 => by
 rcases qdA h with ⟨rfl, _⟩ | ⟨g, cur, rfl, hg, hc, hnc, hs⟩
 ·cases e
 ·injection e with e; injection e with e1 e2
  subst e1 e2
  refine ⟨Nat.le_trans hB hg, qbT hc _ _ ?_⟩
  have := Nat.mul_le_mul_right k hnc
  show 0 + n * k ≤ _
  omega
end
def TxNf (w : World) (R : Nat → Prop) (h : TxH) : Prop := SlN w R 1 h.d ∧ SlN w R 1 h.p ∧ SlN w R 16 h.s
def RsNf (w : World) (R : Nat → Prop) (h : RsH) : Prop := SlN w R 1 h.m ∧ SlN w R 22 h.s
def PrNf (w : World) (R : Nat → Prop) (h : PrH) : Prop := TxNf w R h.d.t ∧ RsNf w R h.r.r
section
variable {w w' : World} {R R' : Nat → Prop} {own : List Nat}
theorem TxNf.fr {h : TxH} (H : TxNf w R h) (hf : Fr own w w') (hR : ∀ b, b < w.heap.size → R b → b ∉ own ∧ R' b) : TxNf w' R' h := ⟨H.1.fr hf hR (by decide), H.2.1.fr hf hR (by decide), H.2.2.fr hf hR (by decide)⟩
theorem RsNf.fr {h : RsH} (H : RsNf w R h) (hf : Fr own w w') (hR : ∀ b, b < w.heap.size → R b → b ∉ own ∧ R' b) : RsNf w' R' h := ⟨H.1.fr hf hR (by decide), H.2.fr hf hR (by decide)⟩
theorem PrNf.fr {h : PrH} (H : PrNf w R h) (hf : Fr own w w') (hR : ∀ b, b < w.heap.size → R b → b ∉ own ∧ R' b) : PrNf w' R' h := ⟨H.1.fr hf hR, H.2.fr hf hR⟩
end
/-- the document's copies: rows of NfR -/
theorem SlR.nf {α : Type} [Inhabited α] {w : World} {R P : Nat → Prop} {k : Nat} {enc : α → List Value} {h : SlC} {zs : List α} (H : SlR w R enc k h zs) (hk : ∀ x, (enc x).length = k) (hR : ∀ b, R b → NfR w 0 b ∧ P b) : SlN w P k h := fun b off e h0 => by
 obtain ⟨b2, off2, e2, hb, hc⟩ := H.2.2 h0
 rw [e] at e2; injection e2 with e2; injection e2 with e3 e4
 subst e3 e4
 have hb := hR _ hb
 refine ⟨hb.2, fun j hj => ⟨?_, hb.1.frz _⟩⟩
 have hkp : 0 < k := by
  rcases Nat.eq_zero_or_pos k with h | h
  ·subst h; simp at hj
  ·exact h
 have h1 : j / k < h.2.1 := Nat.div_lt_of_lt_mul (by rw [Nat.mul_comm]; exact hj)
 have h2 := hc (j / k) h1 (j % k) _ (List.getElem?_eq_getElem (by rw [hk]; exact Nat.mod_lt _ hkp))
 have h3 : off + j / k * k + j % k = off + j := by rw [Nat.add_assoc, Nat.div_add_mod']
 rw [h3] at h2
 rw [h2]; rfl
theorem TxAt.nf {w : World} {R P : Nat → Prop} {h : TxH} {t : TxT} (H : TxAt w R h t) (hR : ∀ b, R b → NfR w 0 b ∧ P b) : TxNf w P h := by
 obtain ⟨L, hL, _⟩ := TrAt.subs_at H
 have hl : locTx w R h t.v := TrAt.loc H
 exact ⟨hl.2.1.nf (fun _ => rfl) hR, hl.2.2.2.2.nf (fun _ => rfl) hR, SlR.nf (enc := qar) (k := 16) hL (fun _ => rfl) hR⟩
theorem RsAt.nf {w : World} {R P : Nat → Prop} {h : RsH} {t : RsT} (H : RsAt w R h t) (hR : ∀ b, R b → NfR w 0 b ∧ P b) : RsNf w P h := by
 obtain ⟨L, hL, _⟩ := TrAt.subs_at H
 have hl : locRs w R h t.v := TrAt.loc H
 exact ⟨hl.2.2.2.1.nf (fun _ => rfl) hR, SlR.nf (enc := qax) (k := 22) hL (fun _ => rfl) hR⟩
theorem PrAt.nf {w : World} {R P : Nat → Prop} {h : PrH} {p : PrT} (H : PrAt w R h p) (hR : ∀ b, R b → NfR w 0 b ∧ P b) : PrNf w P h := ⟨TxAt.nf H.1.2 hR, RsAt.nf H.2.2 hR⟩
theorem SlN.more {w : World} {R R' : Nat → Prop} {k : Nat} {s : SlC} (H : SlN w R k s) (hk : 0 < k) (hR : ∀ b, b < w.heap.size → R b → R' b) : SlN w R' k s := H.fr (Fr.refl [] w) (fun b hb h => ⟨by simp, hR b hb h⟩) hk
theorem PrNf.more {w : World} {R R' : Nat → Prop} {h : PrH} (H : PrNf w R h) (hR : ∀ b, b < w.heap.size → R b → R' b) : PrNf w R' h := H.fr (Fr.refl [] w) (fun b hb h => ⟨by simp, hR b hb h⟩)
/-- the proposal that is none -/
def qeU : PrT := ⟨⟨0, 0, 0, 0, .mk ⟨default, [], [], [], []⟩ []⟩, ⟨0, 0, 0, .mk ⟨default, [], [], [], []⟩ []⟩⟩
theorem qcD (w : World) (R : Nat → Prop) : PrAt w R default qeU := by
 refine ⟨⟨⟨rfl, rfl, rfl, rfl⟩, ?_⟩, ⟨⟨rfl, rfl, rfl⟩, ?_⟩⟩
 ·exact .mk _ _ [] (fun _ => default) 0 0 ⟨rfl, SlR.nil_, SlR.nil_, SlR.nil_, SlR.nil_⟩ rfl ⟨fun _ => ⟨rfl, rfl⟩, Nat.le_refl _⟩ (fun h => absurd h (by show ¬ 0 < 0; omega)) (fun j hj => absurd hj (by show ¬ j < 0; omega)) (fun j hj => absurd hj (by show ¬ j < 0; omega))
 ·exact .mk _ _ [] (fun _ => default) 0 0 ⟨rfl, SlR.nil_, SlR.nil_, SlR.nil_, SlR.nil_⟩ rfl ⟨fun _ => ⟨rfl, rfl⟩, Nat.le_refl _⟩ (fun h => absurd h (by show ¬ 0 < 0; omega)) (fun j hj => absurd hj (by show ¬ j < 0; omega)) (fun j hj => absurd hj (by show ¬ j < 0; omega))
theorem qeO : PrSm 1048576 qeU := by
 have z32 : in32 0 := by unfold in32; omega
 have z64 : in64 0 := by unfold in64; omega
 refine ⟨⟨⟨z64, z32, z64, z64⟩, .mk _ _ ?_ (fun j hj => absurd hj (by simp))⟩, ⟨⟨z32, z64, z32⟩, .mk _ _ ?_ (fun j hj => absurd hj (by simp))⟩⟩
 ·refine ⟨⟨z32, z64, z32, z32, z64, z64, z64, z32, z32⟩, by decide, by decide, by decide, by decide, by decide, by decide, ?_, ?_, ?_⟩ <;> exact fun j hj => absurd hj (by simp)
 ·refine ⟨⟨z32, z32, z32, z64, z32⟩, by decide, by decide, by decide, by decide, by decide, by decide, ?_, ?_, ?_⟩ <;> exact fun j hj => absurd hj (by simp)
open Go.RowKit Go.MapKept Go.Maps
/-- what a queue is -/
structure QuT where
 (L : List PrT) (bound : Int) (vs : List VtV) (acked : List Int) (last committed : Int)
/-- where it lies: the array of the ring (block gr, cap places, the first one's number), the voters' header, the array of what they have (block ga) -/
structure QuX where
 (gr cap first : Nat) (A : Option Addr) (vh : SlC) (ga ac : Nat) (aA : Option Addr)
/-- a ring: block gr, cap places; L lies from place 'first' on -/
structure RingAt (w : World) (A : Option Addr) (gr cap first : Nat) (R : Nat → Prop) (L : List PrT) : Prop where
 le : L.length ≤ cap
 fst : first < cap ∨ (cap = 0 ∧ first = 0)
 at_ : (cap = 0 ∧ A = none) ∨ (0 < cap ∧ A = some ⟨gr, 0, none⟩)
 th : w.there gr 0 (cap * 45) ∨ cap = 0
 el : ∀ j, j < L.length → ∃ h, w.rangeAt gr (((first + j) % cap) * 45) (qah h) ∧ PrAt w R h L[j]!
structure QuAt (w : World) (bq : Nat) (x : QuX) (R : Nat → Prop) (st : QuT) : Prop where
 box : w.heap[bq]? = some (.cells #[.slice x.A x.cap x.cap, .int .i64 x.first, .int .i64 st.L.length, .int .i64 st.bound, slV x.vh, .slice x.aA st.acked.length x.ac, .int .i64 st.last, .int .i64 st.committed] 135 (0, 0))
 ring : RingAt w x.A x.gr x.cap x.first R st.L
 vs : SlR w R encVt 2 x.vh st.vs
 ack : (st.acked.length = 0 ∧ x.aA = none) ∨ (x.aA = some ⟨x.ga, 0, none⟩ ∧ w.there x.ga 0 st.acked.length ∧ ∀ j, j < st.acked.length → w.cell? ⟨x.ga, j, none⟩ = some (.int .i64 st.acked[j]!))
 acl : st.acked.length ≤ x.ac
 lt : ∀ b, R b → b < w.heap.size
 nq : ¬ R bq
 ngr : 0 < x.cap → x.gr ≠ bq ∧ ¬ R x.gr ∧ x.gr < w.heap.size
 nga : x.aA ≠ none → x.ga ≠ bq ∧ ¬ R x.ga ∧ x.ga < w.heap.size ∧ (0 < x.cap → x.ga ≠ x.gr)
def AtP (gr m : Nat) (w : World) (e : Ending) (w' : World) : Prop := e = .returned (.pointer (some ⟨gr, m * 45, none⟩)) ∧ w' = w.drew
theorem qdu (bq gr cap first i : Nat) (w : World) (c0 : w.cell? ⟨bq, 0, none⟩ = some (.slice (some ⟨gr, 0, none⟩) cap cap)) (c1 : w.cell? ⟨bq, 1, none⟩ = some (.int .i64 first)) (h1 : first < cap) (h2 : i < cap) (h3 : cap ≤ 1048576) :
  Calls Tryz.prog 69 #[.pointer (some ⟨bq, 0, none⟩), .int .i64 i] w (AtP gr ((first + i) % cap) w) := by
 have hov : IntKind.i64.wrap ((first : Int) + (i : Int)) = (first : Int) + (i : Int) := by rw [IntKind.wrap_i64]; omega
 have hr : ((first : Int) + (i : Int)).tmod (cap : Int) = (((first + i) % cap : Nat) : Int) := by
  rw [show (first : Int) + (i : Int) = ((first + i : Nat) : Int) by omega, Int.ofNat_tmod]
 have hm : (first + i) % cap < cap := Nat.mod_lt _ (by omega)
 have hz : ((cap : Int) == 0) = false := beq_eq_false_iff_ne.2 (by omega)
 generalize (first + i) % cap = m at *
 have hb1 : (0 : Int) ≤ (m : Int) := by omega
 have hb2 : (m : Int) < (cap : Int) := by omega
 go_enter Tryz.func69, Tryz.ntmps69
 go_wp2_with fail
 go_region
 all_goals go_wp2_with fail
 all_goals go_ret
 all_goals exact ⟨rfl, rfl⟩
open Go.RowKit Go.MapKept Go.Maps
theorem qlN {first cap j : Nat} : ((first + 1) % cap + j) % cap = (first + (j + 1)) % cap := by
 rw [Nat.mod_add_mod, show first + 1 + j = first + (j + 1) by omega]
theorem qnv {first cap j : Nat} (hf : first < cap) (hj : j + 1 < cap) : (first + (j + 1)) % cap ≠ first := by
 intro e
 by_cases h : first + (j + 1) < cap
 ·rw [Nat.mod_eq_of_lt h] at e; omega
 ·rw [Nat.mod_eq_sub_mod (by omega), Nat.mod_eq_of_lt (by omega)] at e; omega
theorem qeH {a b : Nat} (h : a ≠ b) : a * 45 + 45 ≤ b * 45 ∨ b * 45 + 45 ≤ a * 45 := by omega
theorem qbB (h : PrH) : (qah h).length = 45 := by simp [qah]
theorem RingAt.taken {w : World} {A : Option Addr} {gr cap first : Nat} {R : Nat → Prop} {p : PrT} {rest : List PrT} (H : RingAt w A gr cap first R (p :: rest)) (hf : first < cap) (zs : List Value) (hz : zs.length = 45) (hR : ¬ R gr) : RingAt (w.setCells gr (first * 45) zs) A gr cap ((first + 1) % cap) R rest := by
 have hle : rest.length + 1 ≤ cap := H.le
 refine ⟨by omega, .inl (Nat.mod_lt _ (by omega)), H.at_, H.th.imp (fun h => World.there_setCells h _ _ _) id, fun j hj => ?_⟩
 obtain ⟨h, hr, hp⟩ := H.el (j + 1) (by simp; omega)
 have e : (p :: rest)[j + 1]! = rest[j]! := by simp
 rw [e] at hp
 refine ⟨h, ?_, hp.fr (qaB w gr (first * 45) zs) (fun b _ hb => ⟨by simp; exact fun e => hR (e ▸ hb), hb⟩)⟩
 rw [qlN]
 refine World.rangeAt_setCells_apart hr _ _ _ (.inr ?_)
 rw [qbB, hz]
 exact qeH (qnv hf (by omega))
open Go.RowKit Go.MapKept Go.Maps
theorem bd63 : Tryz.prog.built 63 [] = some rzPr := by kernel_rfl
theorem qdc {ops : Array Oper} {rest : List Oper} {o : Oper} {a : Act} {w : World} {Q : Exit → Act → World → Prop} (hg : o.guard = none) (ho : o.op = .build 63 #[]) (h : wpList Tryz.prog ops Q rest (a.put o.dst (.agg rzPr)) w) : wpList Tryz.prog ops Q (o :: rest) a w := by
 have e : Tryz.prog.built 63 ((#[] : Array (Nat × Operand)).map fun (i, x) => (i, a.eval x)).toList = some rzPr := by
  simpa using bd63
 refine wpList_build hg 63 #[] ho (by rw [e]; rfl) ?_
 rw [e]
 exact h
theorem oneZ : (rzPr : Array Value).all (·.oneCell') = true := by simp [Value.oneCell']
theorem qoR : (rzPr : Array Value).size = 45 := rfl
theorem qbo (h : PrH) : (qah h).toArray.all (·.oneCell') = true := by simp [qah, Value.oneCell']
def zPr : List Value := [.int .i64 0, .int .i32 0, .int .i64 0, .int .i64 0, .int .i32 0, .string ⟨#[]⟩, .slice none 0 0, .slice none 0 0, .int .i64 0, .int .i32 0, .int .i32 0, .bool false, .int .i64 0, .int .i64 0, .int .i64 0, .int .i32 0, .slice none 0 0, .slice none 0 0, .int .i32 0, .slice none 0 0, .int .i32 0, .int .i64 0, .int .i32 0, .int .i32 0, .int .i32 0, .string ⟨#[]⟩, .int .i64 0, .int .i64 0, .int .i64 0, .int .i64 0, .int .i32 0, .int .i32 0, .int .i32 0, .int .i64 0, .int .i32 0, .int .i32 0, .int .i64 0, .slice none 0 0, .slice none 0 0, .slice none 0 0, .int .i32 0, .int .i64 0, .int .i32 0, .slice none 0 0, .slice none 0 0]
def QuX.next (x : QuX) : QuX := { x with first := (x.first + 1) % x.cap }
def QuT.rest (st : QuT) : QuT := { st with L := st.L.tail }
def qjV (p : PrT) (bq : Nat) (x : QuX) (R : Nat → Prop) (st : QuT) (w : World) (e : Ending) (w' : World) : Prop := (∃ h, e = .returned (prV h) ∧ PrAt w' R h p ∧ QuAt w' bq x.next R st) ∧ Fr [bq, x.gr] w w'
/-- the queue behind a call that turns other blocks -/
theorem RingAt.fr {w w' : World} {A : Option Addr} {gr cap first : Nat} {R : Nat → Prop} {L : List PrT} {own : List Nat} (h : RingAt w A gr cap first R L) (hf : Fr own w w') (hgr : 0 < cap → gr ∉ own) (hR : ∀ b, R b → b ∉ own) : RingAt w' A gr cap first R L := by
 refine ⟨h.le, h.fst, h.at_, ?_, fun j hj => ?_⟩
 ·rcases h.th with ht | ht
  ·by_cases h0 : cap = 0
   ·exact .inr h0
   ·exact .inl (qbp ht hf (hgr (by omega)))
  ·exact .inr ht
 ·obtain ⟨hh, hr, hp⟩ := h.el j hj
  have hc : 0 < cap := by have := h.le; omega
  refine ⟨hh, fun i u hu => ?_, hp.fr hf (fun b _ hb => ⟨hR b hb, hb⟩)⟩
  have h1 := hr i u hu
  rw [hf.cell (p := ⟨gr, _ + i, none⟩) (World.block_lt_of_cell? w _ h1) (hgr hc)]; exact h1
theorem qia (bq : Nat) (x : QuX) (R : Nat → Prop) (p : PrT) (rest : List PrT) (bd : Int) (vs : List VtV) (ak : List Int) (la co : Int) (w : World) (hq : QuAt w bq x R ⟨p :: rest, bd, vs, ak, la, co⟩) (hcap : x.cap ≤ 1048576) :
  Calls Tryz.prog 70 #[.pointer (some ⟨bq, 0, none⟩)] w (qjV p bq x R ⟨rest, bd, vs, ak, la, co⟩ w) := by
 have hlen : rest.length + 1 ≤ x.cap := hq.ring.le
 have hfst : x.first < x.cap := by rcases hq.ring.fst with h | h <;> omega
 have hA : x.A = some ⟨x.gr, 0, none⟩ := by
  rcases hq.ring.at_ with h | h
  ·omega
  ·exact h.2
 have hth : w.there x.gr 0 (x.cap * 45) := by
  rcases hq.ring.th with h | h
  ·exact h
  ·omega
 obtain ⟨h, hr, hp⟩ := hq.ring.el 0 (by simp)
 rw [Nat.add_zero, Nat.mod_eq_of_lt hfst] at hr
 have hbox := hq.box
 dsimp only at hbox
 rw [hA, show (p :: rest).length = rest.length + 1 from rfl] at hbox
 have hngr := hq.ngr (by omega)
 have hrow : w.there x.gr (x.first * 45) 45 := fun j hj => by
  have h1 := Nat.mul_le_mul_right 45 (show x.first + 1 ≤ x.cap by omega)
  have := hth (x.first * 45 + j) (by omega)
  rwa [Nat.zero_add] at this
 have hltq : bq < w.heap.size := (Array.getElem?_eq_some_iff.1 hbox).1
 have HQ := Lib.hid hq; have HP := Lib.hid hp
 -- the worlds
 have hf1 : Below w.heap.size w (w.alloc (.cells rzPr 63)) := (Below.refl _ w).alloc (Nat.le_refl _) _
 have HB1 := Lib.hid hf1.drew
 have HG0 := Lib.hid (show (w.alloc (.cells rzPr 63)).drew.heap[w.heap.size]? = some (.cells rzPr 63 (0, 0)) from qab w _)
 have HS1 := Lib.hid (show (w.alloc (.cells rzPr 63)).drew.heap.size = w.heap.size + 1 from sz1 w _)
 have c0 : (w.alloc (.cells rzPr 63)).cell? ⟨bq, 0, none⟩ = some (.slice (some ⟨x.gr, 0, none⟩) x.cap x.cap) := by rw [qaf ((hf1.block bq hltq).trans hbox)]; rfl
 have c1 : (w.alloc (.cells rzPr 63)).cell? ⟨bq, 1, none⟩ = some (.int .i64 x.first) := by rw [qaf ((hf1.block bq hltq).trans hbox)]; rfl
 have HC1 := Lib.hid (qdu bq x.gr x.cap x.first 0 _ c0 c1 hfst (by omega) hcap)
 have hr1 : (w.alloc (.cells rzPr 63)).drew.rangeAt x.gr (x.first * 45) (qah h) := qbf hr HB1.out
 have HT := Lib.hid hrow
 have HX := Lib.hid hbox; have HLQ := Lib.hid hltq
 rw [Nat.add_zero, Nat.mod_eq_of_lt hfst] at HC1
 clear hf1 c0 c1 hq hp hbox hr hth hrow hltq
 go_enter Tryz.func70, Tryz.ntmps70
 go_wp2_with fail
 refine HC1.out.mono ?_
 rintro e w1 ⟨rfl, rfl⟩
 generalize (w.alloc (.cells rzPr 63)).drew = V1 at *
 have hf2 : Below V1.heap.size V1 (V1.alloc (.cells (qah h).toArray 63)) := (Below.refl _ V1).alloc (Nat.le_refl _) _
 have hbx2 : (V1.alloc (.cells (qah h).toArray 63)).heap[bq]? = _ := ((HB1.out.trans (hf2.mono HB1.out.size)).block bq HLQ.out).trans HX.out
 have HC2 := Lib.hid (qdu bq x.gr x.cap x.first 0 (V1.alloc (.cells (qah h).toArray 63)) (by rw [qaf hbx2]; rfl) (by rw [qaf hbx2]; rfl) hfst (by omega) hcap)
 rw [Nat.add_zero, Nat.mod_eq_of_lt hfst] at HC2
 have HB2 := Lib.hid (HB1.out.trans (hf2.mono HB1.out.size)).drew
 have HG1 := Lib.hid (show (V1.alloc (.cells (qah h).toArray 63)).drew.heap[V1.heap.size]? = some (.cells (qah h).toArray 63 (0, 0)) from qab V1 _)
 have HG02 := Lib.hid (show (V1.alloc (.cells (qah h).toArray 63)).drew.heap[w.heap.size]? = some (.cells rzPr 63 (0, 0)) from (hf2.block _ (by rw [HS1.out]; omega)).trans HG0.out)
 have HS2 := Lib.hid (show (V1.alloc (.cells (qah h).toArray 63)).drew.heap.size = V1.heap.size + 1 from sz1 V1 _)
 clear hf2 hbx2
 go_wp2_with (first
  | (apply qau 63; exact rfl; exact rfl; exact rfl; assumption; exact qbq; exact rfl; exact qaI)
  | (apply qai 63 63; exact rfl; exact rfl; exact rfl; (first | (with_reducible rfl) | (exact sz1 _ _) | (exact sz2 _ _ _) | (exact sz3 _ _ _ _)); exact rfl; exact qaI; exact rfl; (first | exact qbo _ | simp [Value.oneCell']))
  | fail)
 refine HC2.out.mono ?_
 rintro e w2 ⟨rfl, rfl⟩
 generalize (V1.alloc (.cells (qah h).toArray 63)).drew = V2 at *
 have hth2 : V2.there x.gr (x.first * 45) (rzPr : Array Value).size := by rw [qoR]; exact qck HT.out HB2.out
 have hF3 := qaB V2 x.gr (x.first * 45) zPr
 have hne : x.gr ≠ bq := hngr.1
 have hbx3 : (V2.setCells x.gr (x.first * 45) zPr).heap[bq]? = _ := (hF3.block bq (Nat.lt_of_lt_of_le HLQ.out HB2.out.size) (by simp; exact fun e => hne e.symm)).trans ((HB2.out.block bq HLQ.out).trans HX.out)
 have HG03 := Lib.hid ((hF3.block w.heap.size (by have := HS1.out; have := HS2.out; omega) (by have := hngr.2.2; simp; omega)).trans HG02.out)
 have HG13 := Lib.hid ((hF3.block V1.heap.size (by have := HS2.out; omega) (by have := hngr.2.2; have := HS1.out; simp; omega)).trans HG1.out)
 have c0 := qaf (o := 0) hbx3
 have c1 := qaf (o := 1) hbx3
 have c2 := qaf (o := 2) hbx3
 have f1 : (V2.setCells x.gr (x.first * 45) zPr).frozen? ⟨bq, 1, none⟩ = false := by simp [World.frozen?, hbx3]
 have f2 : (V2.setCells x.gr (x.first * 45) zPr).frozen? ⟨bq, 2, none⟩ = false := by simp [World.frozen?, hbx3]
 simp only [List.getElem?_toArray, List.getElem?_cons_zero, List.getElem?_cons_succ] at c0 c1 c2
 have hov : IntKind.i64.wrap ((x.first : Int) + 1) = (x.first : Int) + 1 := by rw [IntKind.wrap_i64]; omega
 have hrm : ((x.first : Int) + 1).tmod (x.cap : Int) = (((x.first + 1) % x.cap : Nat) : Int) := by
  rw [show (x.first : Int) + 1 = ((x.first + 1 : Nat) : Int) by omega, Int.ofNat_tmod]
 have hzc : ((x.cap : Int) == 0) = false := beq_eq_false_iff_ne.2 (by omega)
 have HBX3 := Lib.hid hbx3; have HF3 := Lib.hid hF3
 clear hbx3 hF3
 go_wp2_with (first
  | (refine qdc rfl rfl ?_)
  | (refine qaW 63 rfl rfl rfl rfl hth2 qaI oneZ ?_)
  | fail)
 have HRING := Lib.hid (RingAt.taken (RingAt.fr HQ.out.ring (Fr.of_below (own := []) HB2.out) (by simp) (by simp)) hfst zPr rfl hngr.2.1)
 change Code.wp _ _ _ _ (V2.setCells x.gr (x.first * 45) zPr)
 generalize V2.setCells x.gr (x.first * 45) zPr = V3 at *
 (try simp only [pT])
 have hzn : ¬ x.cap = 0 := by omega
 generalize hcE : x.cap = cap at *
 generalize hfE : x.first = first at *
 generalize hmE : (first + 1) % cap = m at *
 have HCE := Lib.hid (And.intro hcE (And.intro hfE hmE))
 clear hcE hfE hmE
 have hw0 : w.heap.size ≠ bq := by have := HLQ.out; omega
 have hw1 : V1.heap.size ≠ bq := by have := HLQ.out; have := HS1.out; omega
 have hsub : IntKind.i64.wrap ((↑(rest.length + 1) : Int) - 1) = (rest.length : Int) := by rw [IntKind.wrap_i64]; omega
 have g1 : ((V3.setCell ⟨bq, 1, none⟩ (.int .i64 ↑m)).setCell ⟨bq, 2, none⟩ (.int .i64 ↑rest.length)).drew.heap[V1.heap.size]? = some (.cells (qah h).toArray 63 (0, 0)) := ((qaK _ bq 2 _ hw1).trans (qaK _ bq 1 _ hw1)).trans HG13.out
 have g0 : ((V3.setCell ⟨bq, 1, none⟩ (.int .i64 ↑m)).setCell ⟨bq, 2, none⟩ (.int .i64 ↑rest.length)).drew.heap[w.heap.size]? = some (.cells rzPr 63 (0, 0)) := ((qaK _ bq 2 _ hw0).trans (qaK _ bq 1 _ hw0)).trans HG03.out
 go_region
 all_goals go_wp2_with (first
  | (apply qaw 63 63; exact rfl; exact rfl; exact rfl; (first | assumption | (refine qaa ?_; assumption) | (exact qab _ _) | (exact qae _ _ _) | (exact qag _ _ _ _) | (exact qas _ _ _ _ _) | (exact qaa (qab _ _)) | (exact qaa (qae _ _ _)) | (exact qaa (qag _ _ _ _)) | (exact qaa (qaa (qab _ _))) | (exact qaa (qaa (qae _ _ _))) | (exact qaa (qaa (qaa (qab _ _))))); exact qbq; exact rfl; exact qaI)
  | (apply qam 63 63; exact rfl; exact rfl; exact rfl; exact rfl; (first | assumption | (refine qaa ?_; assumption) | (exact qab _ _) | (exact qae _ _ _) | (exact qag _ _ _ _) | (exact qas _ _ _ _ _) | (exact qaa (qab _ _)) | (exact qaa (qae _ _ _)) | (exact qaa (qag _ _ _ _)) | (exact qaa (qaa (qab _ _))) | (exact qaa (qaa (qae _ _ _))) | (exact qaa (qaa (qaa (qab _ _))))); exact qaI; exact rfl; (first | exact qbo _ | simp [Value.oneCell']))
  | fail)
 case _ =>
 have hf4 : Fr [bq, w.heap.size] V3 (((V3.setCell ⟨bq, 1, none⟩ (.int .i64 ↑m)).setCell ⟨bq, 2, none⟩ (.int .i64 ↑rest.length)).drew.setRow w.heap.size (qah h).toArray) :=
  ((((Fr.refl _ V3).set (by simp) 1 _).set (by simp) 2 _).trans (Fr.of_below (own := []) (qaj _)) (by simp)).trans (qaS _ _ _) (by simp)
 have hft : Fr [bq, x.gr, w.heap.size] w (((V3.setCell ⟨bq, 1, none⟩ (.int .i64 ↑m)).setCell ⟨bq, 2, none⟩ (.int .i64 ↑rest.length)).drew.setRow w.heap.size (qah h).toArray) :=
  ((Fr.of_below (own := [bq, x.gr, w.heap.size]) HB2.out).trans HF3.out (fun g hg => .inl (by simp at hg; simp [hg]))).trans hf4 (fun g hg => .inl (by simp at hg; rcases hg with h | h <;> simp [h]))
 have hbx : (((V3.setCell ⟨bq, 1, none⟩ (.int .i64 ↑m)).setCell ⟨bq, 2, none⟩ (.int .i64 ↑rest.length)).drew.setRow w.heap.size (qah h).toArray).heap[bq]? = _ := (setRow_other _ _ _ _ (Ne.symm hw0)).trans (qaZ (qaZ HBX3.out (.int .i64 ↑m)) (.int .i64 ↑rest.length))
 have hRb : ∀ b, b < w.heap.size → R b → b ∉ [bq, x.gr, w.heap.size] ∧ R b := fun b hlt hb => ⟨by
  have h1 : b ≠ bq := fun e => HQ.out.nq (e ▸ hb)
  have h2 : b ≠ x.gr := fun e => hngr.2.1 (e ▸ hb)
  simp [h1, h2]; omega, hb⟩
 have hring := RingAt.fr HRING.out hf4 (fun _ => by have := hngr.2.2; simp [hngr.1]; omega) (fun b hb => by have h1 := HQ.out.lt b hb; have h2 : b ≠ bq := fun e => HQ.out.nq (e ▸ hb); simp [h2]; omega)
 have hvs := HQ.out.vs.fr hft hRb (fun _ => by simp [encVt])
 have hpr := HP.out.fr hft hRb
 have hnga : x.aA = some ⟨x.ga, 0, none⟩ → x.ga ∉ [bq, x.gr, w.heap.size] ∧ x.ga < w.heap.size := fun e => by
  have h1 := HQ.out.nga (by rw [e]; simp)
  have h2 := h1.2.2.2 (by rw [HCE.out.1]; omega)
  refine ⟨?_, h1.2.2.1⟩
  have h3 := h1.2.2.1
  simp [h1.1, h2]; omega
 have hack := HQ.out.ack.imp id fun h => And.intro h.1 (And.intro (qbp h.2.1 hft (hnga h.1).1) fun j hj => (hft.cell (p := ⟨x.ga, j, none⟩) (hnga h.1).2 (hnga h.1).1).trans (h.2.2 j hj))
 obtain ⟨hc1, hc2, hc3⟩ := HCE.out
 subst hc1 hc2 hc3
 refine qaD rfl rfl (setRow_heap _ _ _ _ _ _ g0) qbq rfl qaI rfl ⟨⟨h, rfl, hpr, ?_⟩, ⟨hft.os, hft.tape, hft.output, hft.size, fun g hg hn => hft.block g hg (by simp at hn ⊢; exact ⟨hn.1, hn.2, by omega⟩)⟩⟩
 refine ⟨?_, hring, hvs, hack, HQ.out.acl, fun b hb => Nat.lt_of_lt_of_le (HQ.out.lt b hb) hft.size, HQ.out.nq, fun hc => ⟨hngr.1, hngr.2.1, Nat.lt_of_lt_of_le hngr.2.2 hft.size⟩, fun hn => ⟨(HQ.out.nga hn).1, (HQ.out.nga hn).2.1, Nat.lt_of_lt_of_le (HQ.out.nga hn).2.2.1 hft.size, (HQ.out.nga hn).2.2.2⟩⟩
 refine hbx.trans ?_
 show some (Obj.cells #[.slice (some ⟨x.gr, 0, none⟩) x.cap x.cap, _, _, _, _, _, _, _] _ _) = some (Obj.cells #[.slice x.A x.cap x.cap, _, _, _, _, _, _, _] _ _)
 rw [hA]
 rfl
end Go.Proofs.YtbpmmmnphpkdjaaGreatDoor
