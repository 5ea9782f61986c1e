/- The walk of the queue's Push. Condition: a queue of at most 4096 proposals; a proposal whose lists have at most 2^20. -/
import Derived.Test.YtbpmmmnphpkdjaaGreatDoorWQueD
import Derived.Test.YtbpmmmnphpkdjaaGreatDoorWDltF
import Derived.Test.YtbpmmmnphpkdjaaGreatDoorWRplI
import Derived.BigQuiet
import Derived.Deep.QuietTactic
import Derived.Laws.OwnMore
import Derived.Deep.RegionLaw
namespace Go.Proofs.YtbpmmmnphpkdjaaGreatDoor
set_option linter.unusedSimpArgs false
set_option maxRecDepth 100000
set_option maxHeartbeats 20000000
open Go.RowKit Go.MapKept Go.Maps
noncomputable def qaL (st : QuT) (p : PrT) : Int := if qaQ p.d ≠ 0 then qaQ p.d else if p.r.xi ≠ p.d.xi ∨ p.r.zx ≠ p.d.zx then 1 else if p.d.zx ≤ st.last then 150 else if st.bound ≤ st.L.length then 3 else 0
noncomputable def qbx (st : QuT) (p : PrT) : QuT := if qaL st p = 0 then { st with L := st.L ++ [p], last := p.d.zx } else st
/-- what a call of Push leaves -/
def qmZ (bq : Nat) (x : QuX) (R : Nat → Prop) (st : QuT) (p : PrT) (w : World) (e : Ending) (w' : World) : Prop := e = .returned (.int .i64 (qaL st p)) ∧ QuPo bq x R (qbx st p) w w'
theorem QuAt.rebox {w w' : World} {bq : Nat} {x : QuX} {R : Nat → Prop} {st st' : QuT} (H : QuAt w bq x R st) (hF : Fr [bq] w w') (hL : st'.L = st.L) (hv : st'.vs = st.vs) (ha : st'.acked = st.acked)
  (hb : w'.heap[bq]? = some (.cells #[.slice x.A x.cap x.cap, .int .i64 x.first, .int .i64 st'.L.length, .int .i64 st'.bound, slV x.vh, .slice x.aA st'.acked.length x.ac, .int .i64 st'.last, .int .i64 st'.committed] 135 (0, 0))) : QuAt w' bq x R st' := by
 have hRb : ∀ b, R b → b ∉ [bq] := fun b hb => by simp; exact fun e => H.nq (e ▸ hb)
 refine ⟨hb, ?_, ?_, ?_, by rw [ha]; exact H.acl, fun b hb => Nat.lt_of_lt_of_le (H.lt b hb) hF.size, H.nq, fun hc => ⟨(H.ngr hc).1, (H.ngr hc).2.1, Nat.lt_of_lt_of_le (H.ngr hc).2.2 hF.size⟩, fun hn => ⟨(H.nga hn).1, (H.nga hn).2.1, Nat.lt_of_lt_of_le (H.nga hn).2.2.1 hF.size, (H.nga hn).2.2.2⟩⟩
 ·rw [hL]; exact H.ring.fr hF (fun hc => by simpa using (H.ngr hc).1) hRb
 ·rw [hv]; exact H.vs.fr hF (fun b _ hb => ⟨hRb b hb, hb⟩) (fun _ => by simp [encVt])
 ·rw [ha]
  refine H.ack.imp id fun k => ?_
  have hn : x.aA ≠ none := by rw [k.1]; simp
  have hno : x.ga ∉ [bq] := by simp [(H.nga hn).1]
  exact ⟨k.1, qbp k.2.1 hF hno, fun j hj => (hF.cell (p := ⟨x.ga, j, none⟩) (H.nga hn).2.2.1 hno).trans (k.2.2 j hj)⟩
theorem QuAt.more {w : World} {bq : Nat} {x : QuX} {R R' : Nat → Prop} {st : QuT} (H : QuAt w bq x R st) (hR : ∀ b, R b → R' b) (hlt : ∀ b, R' b → b < w.heap.size) (hq : ¬ R' bq) (hgr : 0 < x.cap → ¬ R' x.gr) (hga : x.aA ≠ none → ¬ R' x.ga) : QuAt w bq x R' st :=
 ⟨H.box, H.ring.more hR, H.vs.fr (Fr.refl [] w) (fun b _ hb => ⟨by simp, hR b hb⟩) (fun _ => by simp [encVt]), H.ack, H.acl, hlt, hq, fun hc => ⟨(H.ngr hc).1, hgr hc, (H.ngr hc).2.2⟩, fun hn => ⟨(H.nga hn).1, hga hn, (H.nga hn).2.2⟩⟩
theorem QuPo.same {bq : Nat} {x : QuX} {R : Nat → Prop} {st : QuT} {w w' : World} (H : QuAt w bq x R st) (hb : Below w.heap.size w w') (hc : x.cap ≤ 8192) : QuPo bq x R st w w' :=
 ⟨⟨x, R, ⟨H.below hb, ⟨rfl, rfl⟩, .inl rfl, fun _ h => .inl h, fun _ h => h⟩, hc⟩, Fr.of_below hb⟩
theorem qdO {bq : Nat} {x : QuX} {R : Nat → Prop} {st : QuT} {p : PrT} {w w' : World} {c : Int} (H : QuAt w bq x R st) (hb : Below w.heap.size w w') (hc : x.cap ≤ 8192) (h : qaL st p = c) (h0 : c ≠ 0) : qmZ bq x R st p w (.returned (.int .i64 c)) w' :=
 ⟨by rw [h], by unfold qbx; rw [if_neg (by rw [h]; exact h0)]; exact QuPo.same H hb hc⟩
theorem qlH (bq : Nat) (x : QuX) (R Rp : Nat → Prop) (st : QuT) (h : PrH) (p : PrT) (w : World) (hq : QuAt w bq x R st) (hp : PrAt w Rp h p) (hE : Env w) (hsm : PrSm 1048576 p) (hlen : st.L.length ≤ 4096) (hcap : x.cap ≤ 8192) (hgr : x.gr < w.heap.size) :
  Calls Tryz.prog 19 #[.pointer (some ⟨bq, 0, none⟩), prV h] w (qmZ bq x R st p w) := by
 have hltq : bq < w.heap.size := (Array.getElem?_eq_some_iff.1 hq.box).1
 have hb1 : Below w.heap.size w (w.alloc (.cells (qah h).toArray 63)) := (Below.refl _ w).alloc (Nat.le_refl _) _
 have hg1 : (w.alloc (.cells (qah h).toArray 63)).heap[w.heap.size]? = some (.cells (qah h).toArray 63 (0, 0)) := qab w _
 have hp1 := hp.fr (R' := Rp) (Fr.of_below (own := []) hb1) (fun b _ hb => ⟨by simp, hb⟩)
 have hrd : (w.alloc (.cells (qah h).toArray 63)).rangeAt w.heap.size 0 (qaU h.d) := qal (pre := []) (mid := qaU h.d) (post := qaX h.r) hg1 (by simp [qah]) rfl
 have HCR := Lib.hid (qiC h.d p.d _ Rp hp1.1 (hE.below (Nat.le_refl _) hb1) hsm.1)
 have HS1 := Lib.hid (sz1 w (.cells (qah h).toArray 63))
 have HQ := Lib.hid hq; have HP1 := Lib.hid hp1; have HG1 := Lib.hid hg1; have HB1 := Lib.hid hb1; have HE := Lib.hid hE; have HSM := Lib.hid hsm; have HLQ := Lib.hid hltq
 have HPE := Lib.hid hp
 clear hq hp hb1 hg1 hp1 hE hsm hltq
 go_enter Tryz.func19, Tryz.ntmps19
 go_wp2_with (first
  | (apply qau 54; exact rfl; exact rfl; exact rfl; assumption; exact qcn; exact rfl; exact qbC)
  | fail)
 refine HCR.out.mono ?_
 rintro e w2 ⟨rfl, hb2⟩
 generalize w.alloc (.cells (qah h).toArray 63) = W1 at *
 have HB2 := Lib.hid (HB1.out.trans (hb2.mono HB1.out.size))
 have HG2 := Lib.hid ((hb2.block w.heap.size (by have := HS1.out; omega)).trans HG1.out)
 have HP2 := Lib.hid (HP1.out.fr (R' := Rp) (Fr.of_below (own := []) hb2) (fun b _ hb => ⟨by simp, hb⟩))
 have HQ2 := Lib.hid (HQ.out.below HB2.out)
 have HS2 := Lib.hid (show w.heap.size + 1 ≤ w2.heap.size by have := HS1.out; have := hb2.size; omega)
 clear hrd HCR HS1 HG1 HP1 HB1 hb2
 obtain ⟨⟨e0, e1, e2, e3⟩, -⟩ := HP2.out.1
 obtain ⟨⟨e4, e5, e6⟩, -⟩ := HP2.out.2
 clear e0 e3 e6
 have hc1 : w2.cell? ⟨w.heap.size, 1, none⟩ = some (.int .i32 p.d.xi) := by rw [qaf HG2.out, e1]; rfl
 have hc2 : w2.cell? ⟨w.heap.size, 2, none⟩ = some (.int .i64 p.d.zx) := by rw [qaf HG2.out, e2]; rfl
 have hc20 : w2.cell? ⟨w.heap.size, 20, none⟩ = some (.int .i32 p.r.xi) := by rw [qaf HG2.out, e4]; rfl
 have hc21 : w2.cell? ⟨w.heap.size, 21, none⟩ = some (.int .i64 p.r.zx) := by rw [qaf HG2.out, e5]; rfl
 have hl6 : w2.cell? ⟨bq, 6, none⟩ = some (.int .i64 st.last) := by rw [qaf HQ2.out.box]; rfl
 clear e1 e2 e4 e5
 have HPU := Lib.hid (show qaL st p = _ from rfl)
 unfold qaL at HPU
 generalize hEr : qaQ p.d = er at *
 by_cases hr : er = 0
 ·subst hr
  have HER := Lib.hid hEr; clear hEr
  have hn0 : ((0 : Int) != 0) = false := rfl
  by_cases hx : p.r.xi = p.d.xi
  ·have bx : (p.r.xi != p.d.xi) = false := by simp [hx]
   have HX := Lib.hid hx; clear hx
   by_cases hz : p.r.zx = p.d.zx
   ·have bz : (p.r.zx != p.d.zx) = false := by simp [hz]
    have HZ := Lib.hid hz; clear hz
    have HXZ := Lib.hid (show ¬ (p.r.xi ≠ p.d.xi ∨ p.r.zx ≠ p.d.zx) by rw [HX.out, HZ.out]; simp)
    have HP3 := Lib.hid (show qaL st p = if p.d.zx ≤ st.last then 150 else if st.bound ≤ st.L.length then 3 else 0 from by
     unfold qaL; rw [if_neg (by rw [HER.out]; simp), if_neg HXZ.out])
    clear HPU
    by_cases hla : p.d.zx ≤ st.last
    ·have bl : decide (p.d.zx ≤ st.last) = true := decide_eq_true hla
     have HN := Lib.hid (show qaL st p = 150 by rw [HP3.out, if_pos hla])
     clear hla
     go_wp2_with fail
     go_quiet (fail)
     go_wp2_with fail
     go_ret
     exact qdO HQ.out (qac HB2.out _) hcap HN.out (by decide)
    ·have bl : decide (p.d.zx ≤ st.last) = false := decide_eq_false hla
     have HP4 := Lib.hid (show qaL st p = if st.bound ≤ st.L.length then 3 else 0 by rw [HP3.out, if_neg hla])
     clear hla
     by_cases hfu : st.bound ≤ st.L.length
     ·have HN := Lib.hid (show qaL st p = 3 by rw [HP4.out, if_pos hfu])
      have HCF := Lib.hid (fun q => qdM bq x R st (w2.drewN q) (HQ.out.below (qac HB2.out q)))
      rw [decide_eq_true hfu] at HCF
      clear hfu
      go_wp2_with fail
      go_quiet (fail)
      go_wp2_with fail
      refine (HCF.out _).mono ?_
      rintro e w3 ⟨rfl, q3, rfl⟩
      go_wp2_with fail
      go_ret
      exact qdO HQ.out (qac HB2.out _) hcap HN.out (by decide)
     ·have HN := Lib.hid (show qaL st p = 0 by rw [HP4.out, if_neg hfu])
      have HCF := Lib.hid (fun q => qdM bq x R st (w2.drewN q) (HQ.out.below (qac HB2.out q)))
      rw [decide_eq_false hfu] at HCF
      clear hfu
      go_wp2_with fail
      go_quiet (fail)
      go_wp2_with fail
      refine (HCF.out _).mono ?_
      rintro e w3 ⟨rfl, q3, rfl⟩
      go_wp2_with fail
      have HB3 := Lib.hid (qac HB2.out (nq + q3))
      have HG3 := Lib.hid (show (w2.drewN (nq + q3)).heap[w.heap.size]? = some (.cells (qah h).toArray 63 (0, 0)) from HG2.out)
      have HP5 := Lib.hid (HP2.out.fr (R' := Rp) (Fr.drewN [] w2 (nq + q3)) (fun b _ hb => ⟨by simp, hb⟩))
      have HS3 := Lib.hid (show w.heap.size + 1 ≤ (w2.drewN (nq + q3)).heap.size from HS2.out)
      have HZ2 := Lib.hid (show (w2.drewN (nq + q3)).cell? ⟨w.heap.size, 2, none⟩ = some (.int .i64 p.d.zx) from hc2)
      clear hc1 hc2 hc20 hc21 hl6 HCF HG2 HP2 HQ2 HS2
      generalize w2.drewN (nq + q3) = W3 at *
      have HSO := Lib.hid (fun (W : World) (hW : Below W3.heap.size W3 W) => (qal (pre := []) (mid := qah h) (post := []) ((hW.block _ (by have := HS3.out; omega)).trans HG3.out) (by simp) rfl : W.rangeAt w.heap.size 0 (qah h)))
      have HCO := Lib.hid (fun (W : World) (hW : Below W3.heap.size W3 W) => qkN h p W Rp (HP5.out.fr (Fr.of_below (own := []) hW) (fun b _ hb => ⟨by simp, hb⟩)) HSM.out)
      refine qaP (S := fun w' => w'.rangeAt w.heap.size 0 (qah h)) 6 (by kernel_rfl) (HSO.out _ (qaj W3)) (fun hHeld => ?_)
      have HD := Lib.hid (qaj W3)
      generalize W3.drew = V0 at *
      refine qad (i := 0) (v := .pointer (some ⟨bq, 0, none⟩)) rfl (by kernel_rfl) (fun _ _ _ h => h) (Or.inl ⟨by rfl, by intro w hSw; clear hSw; go_simp⟩) (by assumption) ?_
      (try simp only [pT])
      refine qad (i := 1) (v := .pointer (some ⟨bq, 0, none⟩)) rfl (by kernel_rfl) (fun _ _ _ h => h) (Or.inl ⟨by rfl, by intro w hSw; clear hSw; go_simp⟩) (by assumption) ?_
      (try simp only [pT])
      refine qad (i := 2) (v := .pointer (some ⟨bq, 0, none⟩)) rfl (by kernel_rfl) (fun _ _ _ h => h) (Or.inl ⟨by rfl, by intro w hSw; clear hSw; go_simp⟩) (by assumption) ?_
      (try simp only [pT])
      refine qad (i := 3) (v := .agg (qah h).toArray) rfl (by kernel_rfl) (fun _ _ _ h => h) (yieldsIf_load_mid (by rfl) 63 _ rfl w.heap.size 0 rfl (qah h) _ (fun _ h => h) qbq rfl qaI) (by assumption) ?_
      (try simp only [pT])
      refine qaq (i := 4) rfl (by kernel_rfl) (fun K hK => ?_)
      go_simp
      refine (HCO.out _ HD.out).mono ?_
      rintro e w4 ⟨⟨h', rfl, hat⟩, hb4⟩
      dsimp only
      have HAT := Lib.hid hat
      have HB4 := Lib.hid (HD.out.trans (hb4.mono HD.out.size))
      refine hK.out _ _ (HSO.out _ HB4.out) ?_
      clear hK K hat hb4 hHeld
      (try simp only [pT])
      have HBW := Lib.hid (HB3.out.trans (HB4.out.mono HB3.out.size))
      have HQ4 := Lib.hid ((HQ.out.below HBW.out).more (R' := fun b => R b ∨ (w.heap.size ≤ b ∧ b < w4.heap.size)) (fun b hb => .inl hb) (fun b hb => hb.elim (fun hb => Nat.lt_of_lt_of_le (HQ.out.lt b hb) HBW.out.size) (fun hb => hb.2)) (fun hb => hb.elim HQ.out.nq (fun hb => by have := HLQ.out; omega)) (fun hc hb => hb.elim (HQ.out.ngr hc).2.1 (fun hb => by omega)) (fun hn hb => hb.elim (HQ.out.nga hn).2.1 (fun hb => by have := (HQ.out.nga hn).2.2.1; omega)))
      have HP6 := Lib.hid (HAT.out.fr (R' := fun b => R b ∨ (w.heap.size ≤ b ∧ b < w4.heap.size)) (Fr.refl [] w4) (fun b hl hb => ⟨by simp, .inr ⟨by have h1 := HB3.out.size; have h2 := HD.out.size; have h3 : V0.heap.size ≤ b := hb; omega, hl⟩⟩))
      have HCP := Lib.hid (qnW bq x _ st h' p w4 HQ4.out HP6.out hlen hcap)
      refine qaq (i := 5) rfl (by kernel_rfl) (fun K hK => ?_)
      go_simp
      refine HCP.out.mono ?_
      rintro e w5 ⟨rfl, ⟨x', hq5, hx1, hx2, hx3, hx4⟩, hf5⟩
      dsimp only
      have hnb : w.heap.size ∉ [bq, x.gr] := by have := HLQ.out; simp; omega
      have hl4 : w.heap.size < w4.heap.size := by have := HS3.out; have := HB4.out.size; omega
      refine hK.out _ _ (fun i u hu => (hf5.cell (p := ⟨w.heap.size, 0 + i, none⟩) hl4 hnb).trans (HSO.out _ HB4.out i u hu)) ?_
      clear hK K
      (try simp only [pT])
      refine qaG (n := 6) (by kernel_rfl) ?_
      simp only [List.drop_succ_cons, List.drop_zero, List.drop_nil]
      have HQ5 := Lib.hid hq5; have HX1 := Lib.hid hx1; have HX2 := Lib.hid hx2; have HX3 := Lib.hid hx3; have HX4 := Lib.hid hx4; have HF5 := Lib.hid hf5
      have hz5 : w5.cell? ⟨w.heap.size, 2, none⟩ = some (.int .i64 p.d.zx) := by
       rw [hf5.cell (p := ⟨w.heap.size, 2, none⟩) hl4 hnb]
       exact qaC HZ2.out HB4.out
      have l5 : w5.cell? ⟨bq, 6, none⟩ = some (.int .i64 st.last) := by rw [qaf hq5.box]; rfl
      have f5 : w5.frozen? ⟨bq, 6, none⟩ = false := by simp [World.frozen?, hq5.box]
      clear hq5 hx1 hx2 hx3 hx4 hf5 HCP hnb hl4
      go_wp2_with fail
      go_ret
      refine ⟨by rw [HN.out]; rfl, ?_⟩
      unfold qbx
      rw [if_pos HN.out]
      refine ⟨⟨x', _, ⟨HQ5.out.rebox (st' := { st with L := st.L ++ [p], last := p.d.zx }) (qaE w5 bq 6 _) rfl rfl rfl ((qaZ HQ5.out.box _).trans (by simp)), ⟨HX1.out, HX2.out⟩, HX3.out.imp id (fun h => Nat.le_trans HBW.out.size h), fun b hb => hb.imp id (fun h => h.1), fun b hb => .inl hb⟩, HX4.out⟩, ?_⟩
      exact (((Fr.of_below (own := [bq, x.gr, x.ga]) HBW.out).trans HF5.out (fun g hg => .inl (by simp at hg; rcases hg with h | h <;> simp [h])))).set (by simp) 6 _
   ·have bz : (p.r.zx != p.d.zx) = true := by simp [hz]
    have HN := Lib.hid (show qaL st p = 1 by unfold qaL; rw [if_neg (by rw [HER.out]; simp), if_pos (.inr hz)])
    clear hz
    go_wp2_with fail
    go_ret
    exact qdO HQ.out HB2.out hcap HN.out (by decide)
  ·have bx : (p.r.xi != p.d.xi) = true := by simp [hx]
   have HN := Lib.hid (show qaL st p = 1 by unfold qaL; rw [if_neg (by rw [HER.out]; simp), if_pos (.inl hx)])
   clear hx
   go_wp2_with fail
   go_ret
   exact qdO HQ.out HB2.out hcap HN.out (by decide)
 ·have bn : (er != 0) = true := by simp [hr]
  have HN := Lib.hid (show qaL st p = er by unfold qaL; rw [hEr, if_pos hr])
  have HR := Lib.hid hr
  clear hEr hr
  go_wp2_with fail
  go_ret
  exact qdO HQ.out HB2.out hcap HN.out HR.out
open Go.RowKit Go.MapKept Go.Maps
theorem qmO : Elem encN 23 3 1 8 (.int .i64 0) := ⟨Tryz.underlying23, by kernel_rfl, rfl, fun _ => rfl, by decide, fun x u hu => by simp [encN] at hu; subst hu; rfl, by decide⟩
def hasF (ak : List Int) (z : Int) (j : Nat) : List Int := ((List.range j).filter (fun i => decide (z ≤ ak[i]!))).map (fun i : Nat => (i : Int))
theorem qgG (ak : List Int) (z : Int) (j : Nat) : hasF ak z (j + 1) = if z ≤ ak[j]! then hasF ak z j ++ [(j : Int)] else hasF ak z j := by
 unfold hasF
 rw [List.range_succ, List.filter_append, List.map_append]
 by_cases h : z ≤ ak[j]!
 ·rw [if_pos h, List.filter_cons, if_pos (decide_eq_true h)]; simp
 ·rw [if_neg h, List.filter_cons, if_neg (by simpa using h)]; simp
theorem qeS (ak : List Int) (z : Int) (j : Nat) : (hasF ak z j).length ≤ j := by
 unfold hasF
 rw [List.length_map]
 exact Nat.le_trans (List.length_filter_le _ _) (by simp)
theorem qhw (ak : List Int) (z : Int) : hasF ak z ak.length = hasI ak z := rfl
theorem qjJ (vs : List VtV) (ak : List Int) (k : Nat) (hk : k < ak.length) : qcB vs ak 0 (ak.take (k + 1)) = if qcB vs ak 0 (ak.take k) < ak[k]! ∧ chB vs ak ak[k]! = true then ak[k]! else qcB vs ak 0 (ak.take k) := by
 rw [qbi ak k hk]
 show List.foldl _ _ _ = _
 rw [List.foldl_append]
 rfl
def ChsP (z : Int) (w : World) (e : Ending) (w' : World) : Prop := e = .returned (.int .i64 z) ∧ Below w.heap.size w w'
theorem ChsP.mk {z x : Int} {w w' : World} (h : z = x) (hb : Below w.heap.size w w') : ChsP z w (.returned (.int .i64 x)) w' := ⟨by rw [h], hb⟩
/-- what the inner loop has -/
def HasR (base : Nat) (l : List Int) (v : Value) (wr : World) : Prop := ∃ A c, v = .slice A l.length c ∧ wr.ownsRow base 3 1 (.slice A l.length c) l.length (l.flatMap encN)
theorem qkc (bq : Nat) (x : QuX) (R : Nat → Prop) (st : QuT) (w : World) (hq : QuAt w bq x R st) (hg : ∀ v ∈ st.vs, wfI v.1) (hn : st.acked.length ≤ 1024) :
  Calls Tryz.prog 66 #[.pointer (some ⟨bq, 0, none⟩)] w (ChsP (qbE st.vs st.acked st.last) w) := by
 have hltq : bq < w.heap.size := (Array.getElem?_eq_some_iff.1 hq.box).1
 have c5 : w.cell? ⟨bq, 5, none⟩ = some (.slice x.aA st.acked.length x.ac) := by rw [qaf hq.box]; rfl
 have HQ := Lib.hid hq; have HG := Lib.hid hg; have HLQ := Lib.hid hltq
 by_cases h0 : st.acked.length = 0
 ·have c6 : w.cell? ⟨bq, 6, none⟩ = some (.int .i64 st.last) := by rw [qaf hq.box]; rfl
  have HZ := Lib.hid (show qbE st.vs st.acked st.last = st.last from if_pos h0)
  rw [h0] at c5
  clear hq hg hltq hn h0
  go_enter Tryz.func66, Tryz.ntmps66
  go_wp2_with fail
  go_ret
  exact ChsP.mk HZ.out (Below.refl _ _)
 ·have hack := hq.ack
  have ha : x.aA = some ⟨x.ga, 0, none⟩ ∧ w.there x.ga 0 st.acked.length ∧ ∀ j, j < st.acked.length → w.cell? ⟨x.ga, j, none⟩ = some (.int .i64 st.acked[j]!) := by
   rcases hack with h | h
   ·exact absurd h.1 h0
   ·exact h
  obtain ⟨hA, -, hcs⟩ := ha
  have HZ := Lib.hid (show qbE st.vs st.acked st.last = qcB st.vs st.acked 0 (st.acked.take st.acked.length) from by rw [List.take_length]; exact if_neg h0)
  have hb0 : ((st.acked.length : Int) == 0) = false := beq_eq_false_iff_ne.2 (by omega)
  rw [hA] at c5
  have HC := Lib.hid hcs
  have HAL := Lib.hid hq.acl
  have HQV := Lib.hid (fun (z : Int) (W : World) (A : Option Addr) (n c : Nat) (hv : List Int) (hb : Below w.heap.size w W) (hs : Sl W W.heap.size encN 1 A n hv) (hn : n ≤ 1024) => qdm x.vh.1 x.vh.2.1 x.vh.2.2 st.vs A n c hv W (((HQ.out.below hb).vs).sl (fun _ => by simp [encVt])) HG.out hs (by omega))
  have HVC := Lib.hid (show ∀ W : World, Below w.heap.size w W → W.cell? ⟨bq, 4, none⟩ = some (slV x.vh) from fun W hb => by rw [qaf (HQ.out.below hb).box]; rfl)
  have HC5 := Lib.hid c5
  clear hq hg hltq hack hcs hA
  generalize hN : st.acked.length = n at *
  have HN := Lib.hid hN; clear hN
  go_enter Tryz.func66, Tryz.ntmps66
  go_wp2_with fail
  clear c5 hb0
  go_loopw [3, 24] (fun b i wr => ∃ k : Nat, i = .int .i64 ↑k ∧ k ≤ n ∧ b = .int .i64 (qcB st.vs st.acked 0 (st.acked.take k)) ∧ Below w.heap.size w wr) (fun _ i _ => n - (intOf i).toNat)
  case atStart => exact ⟨0, rfl, Nat.zero_le _, rfl, Below.refl _ _⟩
  case round =>
   obtain ⟨k, rfl, hk, rfl, hb⟩ := hrel
   have HB := Lib.hid hb; clear hb
   by_cases hlt : k < n
   ·have HBT := Lib.hid (qjJ st.vs st.acked k (by rw [HN.out]; exact hlt))
    have hz : wr.cell? ⟨x.ga, k, none⟩ = some (.int .i64 st.acked[k]!) := qaC (HC.out k hlt) HB.out
    have c5 := qaC HC5.out HB.out
    generalize qcB st.vs st.acked 0 (st.acked.take k) = bs at *
    generalize hZ : st.acked[k]! = z at *
    have HZk := Lib.hid hZ; clear hZ
    go_wp2_with fail
    clear hz c5
    obtain ⟨wo, hwo⟩ : ∃ wo : World, wo = wr := ⟨_, rfl⟩
    subst hwo
    go_loopw [6, 33] (fun v i wr => ∃ j : Nat, i = .int .i64 ↑j ∧ j ≤ n ∧ HasR wo.heap.size (hasF st.acked z j) v wr ∧ Below wo.heap.size wo wr) (fun _ i _ => n - (intOf i).toNat)
    case atStart => exact ⟨0, rfl, Nat.zero_le _, ⟨none, 0, rfl, ⟨rfl, .inl ⟨rfl, rfl⟩⟩⟩, Below.refl _ _⟩
    case round =>
     obtain ⟨j, rfl, hj, ⟨A, c, rfl, hown⟩, hb2⟩ := hrel
     have HOW := Lib.hid hown; have HB2 := Lib.hid hb2; clear hown hb2
     have HBB := Lib.hid (HB.out.trans (HB2.out.mono HB.out.size))
     by_cases hlj : j < n
     ·have hxj : wr.cell? ⟨x.ga, j, none⟩ = some (.int .i64 st.acked[j]!) := qaC (HC.out j hlj) HBB.out
      have HSU := Lib.hid (qgG st.acked z j)
      have HLE := Lib.hid (qeS st.acked z j)
      generalize hasF st.acked z j = hv at *
      generalize st.acked[j]! = y at *
      by_cases hy : z ≤ y
      ·have HS1 := Lib.hid (show hasF st.acked z (j + 1) = hv ++ [(j : Int)] by rw [HSU.out, if_pos hy])
       have by_ : decide (z ≤ y) = true := decide_eq_true hy
       clear hy HSU
       have HB3 := Lib.hid ((Below.refl _ wr).alloc (Nat.le_refl _) (.cells #[.int .i64 (j : Int)] 3))
       have HO3 := Lib.hid (qcb HOW.out HB3.out)
       have HSL := Lib.hid (show Sl (wr.alloc (.cells #[.int .i64 (j : Int)] 3)) (wr.alloc (.cells #[.int .i64 (j : Int)] 3)).heap.size encN 1 (some ⟨wr.heap.size, 0, none⟩) 1 [(j : Int)] from ⟨rfl, fun _ => ⟨wr.heap.size, 0, rfl, by rw [sz1]; omega, fun i hi a u hu => by
        have hi0 : i = 0 := by omega
        subst hi0
        rw [qaf (qab wr _)]
        match a, hu with
        | 0, hu => exact hu⟩⟩)
       go_wp2_with (at_builtin; refine qdL qmO rfl _ _ rfl wo.heap.size A hv.length c hv ?hx1 HO3.out (some ⟨wr.heap.size, 0, none⟩) 1 1 [(j : Int)] ?hy1 HSL.out (fun e => by cases e) (by have := HLE.out; omega) (Nat.le_trans HB2.out.size HB3.out.size) ?hk1)
       (try case hx1 => rfl)
       (try case hy1 => rfl)
       case hk1 =>
        intro A8 c8 w8 hv8 hb8
        have HB8 := Lib.hid hb8; have HV8 := Lib.hid hv8
        clear hv8 hb8
        go_wp2_with fail
        go_roundw
        case rel =>
         refine ⟨j + 1, by go_num, by omega, ?_, (HB2.out.trans (HB3.out.mono HB2.out.size)).trans HB8.out⟩
         rw [HS1.out]
         exact ⟨A8, c8, by simp, by rw [List.length_append, List.length_singleton, List.flatMap_append]; simpa using HV8.out⟩
        case measure => simp [intOf]; omega
      ·have HS1 := Lib.hid (show hasF st.acked z (j + 1) = hv by rw [HSU.out, if_neg hy])
       have by_ : decide (z ≤ y) = false := decide_eq_false hy
       clear hy HSU
       go_wp2_with fail
       go_roundw
       case rel => exact ⟨j + 1, by go_num, by omega, by rw [HS1.out]; exact ⟨A, c, rfl, HOW.out⟩, HB2.out⟩
       case measure => simp [intOf]; omega
     ·obtain rfl : j = n := by omega
      have hfull : hasF st.acked z j = hasI st.acked z := by rw [← HN.out]; exact qhw _ _
      rw [hfull] at HOW
      have hlen : (hasF st.acked z j).length = (hasI st.acked z).length := by rw [hfull]
      have hle9 := qeS st.acked z j
      rw [hlen] at hle9
      have HCL := Lib.hid (HQV.out z wr A (hasI st.acked z).length c (hasI st.acked z) HBB.out ((qbD HOW.out (fun _ => rfl) rfl).sl (fun _ => by simp [encN])) (by omega))
      have c4 := HVC.out wr HBB.out
      rw [hlen]
      clear hfull hlen hle9 HOW hlj
      generalize hHI : hasI st.acked z = hz2 at *
      have HCH := Lib.hid (show chB st.vs st.acked z = qbd st.vs hz2 by rw [← hHI]; rfl)
      clear hHI
      by_cases hzb : bs < z
      ·have bz : decide (bs < z) = true := decide_eq_true hzb
       have HZB := Lib.hid hzb; clear hzb
       cases hqb : qbd st.vs hz2 with
       | true =>
        rw [hqb] at HCL HCH
        clear hqb
        go_wp2_with fail
        refine HCL.out.mono ?_
        rintro e w5 ⟨rfl, hb5⟩
        have HB5 := Lib.hid hb5; clear hb5
        go_wp2_with fail
        go_roundw
        case rel => exact ⟨k + 1, by go_num, by omega, by rw [HBT.out, if_pos ⟨HZB.out, HCH.out⟩], HBB.out.trans (HB5.out.mono HBB.out.size)⟩
        case measure => simp [intOf]; omega
       | false =>
        rw [hqb] at HCL HCH
        clear hqb
        go_wp2_with fail
        refine HCL.out.mono ?_
        rintro e w5 ⟨rfl, hb5⟩
        have HB5 := Lib.hid hb5; clear hb5
        go_wp2_with fail
        go_roundw
        case rel => exact ⟨k + 1, by go_num, by omega, by rw [HBT.out, if_neg (fun h => by have := h.2; rw [HCH.out] at this; cases this)], HBB.out.trans (HB5.out.mono HBB.out.size)⟩
        case measure => simp [intOf]; omega
      ·have bz : decide (bs < z) = false := decide_eq_false hzb
       have HZB := Lib.hid hzb; clear hzb
       go_wp2_with fail
       go_roundw
       case rel => exact ⟨k + 1, by go_num, by omega, by rw [HBT.out, if_neg (fun h => HZB.out h.1)], HBB.out⟩
       case measure => simp [intOf]; omega
   ·obtain rfl : k = n := by omega
    have HF := Lib.hid (show qbE st.vs st.acked st.last = qcB st.vs st.acked 0 (st.acked.take k) from HZ.out)
    go_wp2_with fail
    go_ret
    exact ChsP.mk HF.out HB.out
open Go.RowKit Go.MapKept Go.Maps
theorem qfU (g : Nat) (cb : Array Value) (eg : ∀ args w, (callFunc g args).run Tryz.prog w = .ok (.enter g args) w) (n r : Nat) (w : World) (hn : n ≤ 1048576) (hr : r ≤ n)
  (hf : ∀ (q i : Nat), i < n → Calls Tryz.prog g (#[.int .i64 i] ++ cb) (w.drewN q) fun e w' => e = .returned (.bool (decide (r ≤ i))) ∧ ∃ m, w' = w.drewN m) :
  Calls Tryz.prog 67 #[.int .i64 n, .func (.func g) #[] cb] w (RetV (.int .i64 r) w) := by
 have HF := Lib.hid hf
 clear hf
 go_enter Tryz.func67, Tryz.ntmps67
 go_wp2_with fail
 go_loopw [5, 6] (fun s5 s6 wr => ∃ lo hi q : Nat, s5 = .int .i64 lo ∧ s6 = .int .i64 hi ∧ lo ≤ r ∧ r ≤ hi ∧ hi ≤ n ∧ wr = w.drewN q) (fun a b _ => (intOf b).toNat - (intOf a).toNat)
 case atStart => exact ⟨0, n, 0, rfl, rfl, Nat.zero_le _, hr, Nat.le_refl _, rfl⟩
 case round =>
  obtain ⟨lo, hi, q, rfl, rfl, h1, h2, h3, rfl⟩ := hrel
  by_cases hlt : lo < hi
  ·have hc := HF.out q ((lo + hi) / 2) (by omega)
   rw [show (((lo + hi) / 2 : Nat) : Int) = ((lo : Int) + (hi : Int)) / 2 by omega] at hc
   by_cases hp : r ≤ (lo + hi) / 2
   ·rw [decide_eq_true hp] at hc
    have HP := Lib.hid hp; clear hp
    go_wp2_with fail
    refine hc.mono ?_
    rintro e w' ⟨rfl, nq, rfl⟩
    go_wp2_with fail
    go_roundw
    case rel => exact ⟨lo, (lo + hi) / 2, nq, rfl, by rw [show ((lo : Int) + (hi : Int)) / 2 = (((lo + hi) / 2 : Nat) : Int) by omega], h1, HP.out, by omega, rfl⟩
    case measure => simp [intOf]; omega
   ·rw [decide_eq_false hp] at hc
    have HP := Lib.hid hp; clear hp
    go_wp2_with fail
    refine hc.mono ?_
    rintro e w' ⟨rfl, nq, rfl⟩
    go_wp2_with fail
    go_roundw
    case rel => exact ⟨(lo + hi) / 2 + 1, hi, nq, by rw [show ((lo : Int) + (hi : Int)) / 2 + 1 = (((lo + hi) / 2 + 1 : Nat) : Int) by omega], rfl, by have := HP.out; omega, h2, h3, rfl⟩
    case measure => simp [intOf]; omega
  ·obtain rfl : hi = lo := by omega
   obtain rfl : r = hi := by omega
   go_wp2_with fail
   go_ret
   exact RetV.mk rfl q rfl
theorem at_q (bq gr cap first i : Nat) (W : World) (q : Nat) (c0 : W.cell? ⟨bq, 0, none⟩ = some (.slice (some ⟨gr, 0, none⟩) cap cap)) (c1 : W.cell? ⟨bq, 1, none⟩ = some (.int .i64 first)) (h1 : first < cap) (h2 : i < cap) (h3 : cap ≤ 1048576) :
  Calls Tryz.prog 69 #[.pointer (some ⟨bq, 0, none⟩), .int .i64 i] (W.drewN q) fun e w' => e = .returned (.pointer (some ⟨gr, ((first + i) % cap) * 45, none⟩)) ∧ ∃ n, w' = W.drewN n :=
 (qdu bq gr cap first i (W.drewN q) c0 c1 h1 h2 h3).mono fun _ _ h => ⟨h.1, q + 1, h.2⟩
def zxs (L : List PrT) : List Int := L.map (·.d.zx)
theorem qcv (L : List PrT) : (zxs L).length = L.length := by simp [zxs]
theorem qos (L : List PrT) (i : Nat) (hi : i < L.length) : (zxs L)[i]! = L[i]!.d.zx := by
 rw [getElem!_pos (zxs L) i (by rw [qcv]; exact hi), getElem!_pos L i hi]; simp [zxs]
/-- the parts of a ring that is not empty -/
theorem RingAt.full {w : World} {A : Option Addr} {gr cap first : Nat} {R : Nat → Prop} {L : List PrT} (H : RingAt w A gr cap first R L) (h0 : 0 < L.length) : A = some ⟨gr, 0, none⟩ ∧ first < cap ∧ w.there gr 0 (cap * 45) := by
 have h1 := H.le
 refine ⟨?_, ?_, ?_⟩
 ·rcases H.at_ with h | h
  ·omega
  ·exact h.2
 ·rcases H.fst with h | h <;> omega
 ·rcases H.th with h | h
  ·exact h
  ·omega
theorem qjF (bq b1 b2 i : Nat) (z : Int) (x : QuX) (R : Nat → Prop) (st : QuT) (w : World) (hq : QuAt w bq x R st) (c1 : w.cell? ⟨b1, 0, none⟩ = some (.pointer (some ⟨bq, 0, none⟩))) (c2 : w.cell? ⟨b2, 0, none⟩ = some (.int .i64 z)) (hi : i < st.L.length) (hcap : x.cap ≤ 8192) :
  Calls Tryz.prog 68 #[.int .i64 i, .pointer (some ⟨b1, 0, none⟩), .pointer (some ⟨b2, 0, none⟩)] w fun e w' => e = .returned (.bool (decide (z < st.L[i]!.d.zx))) ∧ ∃ m, w' = w.drewN m := by
 obtain ⟨hA, hf, -⟩ := hq.ring.full (by omega)
 have hle := hq.ring.le
 have hbx := hq.box
 rw [hA] at hbx
 obtain ⟨h, hr, hp⟩ := hq.ring.el i hi
 have hz := hp.1.1.2.2.1
 have cz : w.cell? ⟨x.gr, ((x.first + i) % x.cap) * 45 + 2, none⟩ = some (.int .i64 st.L[i]!.d.zx) := by rw [hz]; exact hr 2 _ rfl
 have HAT := Lib.hid (fun q => at_q bq x.gr x.cap x.first i w q (by rw [qaf hbx]; rfl) (by rw [qaf hbx]; rfl) hf (by omega) (by omega))
 generalize (x.first + i) % x.cap = m at *
 generalize st.L[i]!.d.zx = y at *
 clear hq hA hf hle hbx hr hp hz
 go_enter Tryz.func68, Tryz.ntmps68
 go_wp2_with fail
 go_quiet (exact HAT.out _)
 go_wp2_with fail
 go_ret
 exact ⟨rfl, _, rfl⟩
/-- how many are ready -/
noncomputable def rdN (st : QuT) : Nat := qbU (zxs st.L) (qbE st.vs st.acked st.last)
theorem qdg (bq : Nat) (x : QuX) (R : Nat → Prop) (st : QuT) (w : World) (hq : QuAt w bq x R st) (hg : ∀ v ∈ st.vs, wfI v.1) (hn : st.acked.length ≤ 1024) (hr : qdb (zxs st.L)) (hl : st.L.length ≤ 4096) (hcap : x.cap ≤ 8192) :
  Calls Tryz.prog 21 #[.pointer (some ⟨bq, 0, none⟩)] w (ChsP (rdN st) w) := by
 have hb1 : Below w.heap.size w (w.alloc (.cells #[.pointer (some ⟨bq, 0, none⟩)] 37)) := (Below.refl _ w).alloc (Nat.le_refl _) _
 have HC := Lib.hid (qkc bq x R st _ (hq.below hb1) hg hn)
 have HB1 := Lib.hid hb1; have HQ := Lib.hid hq
 have HG1 := Lib.hid (qab w (.cells #[.pointer (some ⟨bq, 0, none⟩)] 37))
 have HS1 := Lib.hid (sz1 w (.cells #[.pointer (some ⟨bq, 0, none⟩)] 37))
 have HRN := Lib.hid (show rdN st = qbU (zxs st.L) (qbE st.vs st.acked st.last) from rfl)
 have HRL := Lib.hid (show rdN st ≤ st.L.length by rw [HRN.out, ← qcv]; exact qgB _ _)
 generalize qbE st.vs st.acked st.last = z at *
 have HI := Lib.hid (show ∀ i, i < st.L.length → decide (rdN st ≤ i) = decide (z < st.L[i]!.d.zx) from fun i hi => by
  have := qjr (z := z) hr i (by rw [qcv]; exact hi)
  rw [qos _ _ hi] at this
  rw [HRN.out]
  by_cases h : z < st.L[i]!.d.zx
  ·rw [decide_eq_true h, decide_eq_true (by omega)]
  ·rw [decide_eq_false h, decide_eq_false (by omega)])
 clear hq hb1 hg hr
 generalize rdN st = r at *
 go_enter Tryz.func21, Tryz.ntmps21
 go_wp2_with fail
 refine HC.out.mono ?_
 rintro e w2 ⟨rfl, hb2⟩
 generalize w.alloc (.cells #[.pointer (some ⟨bq, 0, none⟩)] 37) = W1 at *
 have HB3 := Lib.hid (show Below w2.heap.size w2 (w2.alloc (.cells #[.int .i64 z] 2)) from (Below.refl _ w2).alloc (Nat.le_refl _) _)
 have HBB := Lib.hid ((HB1.out.trans (hb2.mono HB1.out.size)).trans (HB3.out.mono (Nat.le_trans HB1.out.size hb2.size)))
 have c1 : (w2.alloc (.cells #[.int .i64 z] 2)).cell? ⟨w.heap.size, 0, none⟩ = some (.pointer (some ⟨bq, 0, none⟩)) := by
  rw [qaf ((HB3.out.block _ (by have := HS1.out; have := hb2.size; omega)).trans ((hb2.block _ (by have := HS1.out; omega)).trans HG1.out))]; rfl
 have c2 : (w2.alloc (.cells #[.int .i64 z] 2)).cell? ⟨w2.heap.size, 0, none⟩ = some (.int .i64 z) := by rw [qaf (qab w2 _)]; rfl
 have hq3 := HQ.out.below HBB.out
 have cn : (w2.alloc (.cells #[.int .i64 z] 2)).cell? ⟨bq, 2, none⟩ = some (.int .i64 st.L.length) := by rw [qaf hq3.box]; rfl
 have c1' : w2.cell? ⟨w.heap.size, 0, none⟩ = some (.pointer (some ⟨bq, 0, none⟩)) := by
  rw [qaf ((hb2.block _ (by have := HS1.out; omega)).trans HG1.out)]; rfl
 have HQ3 := Lib.hid hq3; clear hq3
 have HSR := Lib.hid (qfU 68 #[.pointer (some ⟨w.heap.size, 0, none⟩), .pointer (some ⟨w2.heap.size, 0, none⟩)] (fun _ _ => rfl) st.L.length r (w2.alloc (.cells #[.int .i64 z] 2)) (by omega) HRL.out (fun q i hi => by
  rw [HI.out i hi]
  refine (qjF bq w.heap.size w2.heap.size i z x R st ((w2.alloc (.cells #[.int .i64 z] 2)).drewN q) (HQ3.out.fr (Fr.drewN [] _ q) (by simp) (by simp) (by simp) (by simp)) c1 c2 hi hcap).mono ?_
  rintro e w' ⟨rfl, m, rfl⟩
  exact ⟨rfl, q + m, World.drewN_drewN ..⟩))
 clear HC HB1 HG1 HS1 hb2 HI
 go_wp2_with fail
 refine HSR.out.mono ?_
 rintro e w4 ⟨rfl, q, rfl⟩
 go_wp2_with fail
 go_ret
 exact ChsP.mk rfl (qac HBB.out q)
open Go.RowKit Go.MapKept Go.Maps
theorem qoH (ak : List Int) (v : Nat) (y : Int) (j : Nat) (hj : j < ak.length) : (ak.set v y)[j]! = if v = j then y else ak[j]! := by
 rw [getElem!_pos _ j (by simpa using hj), List.getElem_set]
 by_cases h : v = j
 ·rw [if_pos h, if_pos h]
 ·rw [if_neg h, if_neg h, getElem!_pos ak j hj]
theorem QuAt.setAck {w : World} {bq : Nat} {x : QuX} {R : Nat → Prop} {st : QuT} (H : QuAt w bq x R st) {v : Nat} (hv : v < st.acked.length) (y : Int) : QuAt (w.setCell ⟨x.ga, v, none⟩ (.int .i64 y)) bq x R { st with acked := st.acked.set v y } := by
 have hA : x.aA = some ⟨x.ga, 0, none⟩ ∧ w.there x.ga 0 st.acked.length ∧ ∀ j, j < st.acked.length → w.cell? ⟨x.ga, j, none⟩ = some (.int .i64 st.acked[j]!) := by
  rcases H.ack with h | h
  ·omega
  ·exact h
 obtain ⟨hA, hth, hc⟩ := hA
 have hn : x.aA ≠ none := by rw [hA]; simp
 have hg := H.nga hn
 have hF := qaE w x.ga v (.int .i64 y)
 have hRb : ∀ b, R b → b ∉ [x.ga] := fun b hb => by simp; exact fun e => hg.2.1 (e ▸ hb)
 refine ⟨?_, H.ring.fr hF (fun h => by have := hg.2.2.2 h; simp; exact fun e => this e.symm) hRb, H.vs.fr hF (fun b _ hb => ⟨hRb b hb, hb⟩) (fun _ => by simp [encVt]), .inr ⟨hA, fun j hj => ?_, fun j hj => ?_⟩, by show (st.acked.set v y).length ≤ x.ac; rw [List.length_set]; exact H.acl, fun b hb => Nat.lt_of_lt_of_le (H.lt b hb) hF.size, H.nq, fun h => ⟨(H.ngr h).1, (H.ngr h).2.1, Nat.lt_of_lt_of_le (H.ngr h).2.2 hF.size⟩, fun h => ⟨hg.1, hg.2.1, Nat.lt_of_lt_of_le hg.2.2.1 hF.size, hg.2.2.2⟩⟩
 ·rw [hF.block bq (Array.getElem?_eq_some_iff.1 H.box).1 (by simp; exact fun e => hg.1 e.symm), H.box]; simp
 ·have hj' : j < st.acked.length := by simpa using hj
  have := hth j hj'
  refine ⟨?_, ?_⟩
  ·rw [Nat.zero_add] at this ⊢
   by_cases e : v = j
   ·subst e; rw [World.cell?_setCell_same _ _ _ (hc v hv)]; rfl
   ·rw [World.cell?_setCell_other _ _ _ _ (by simp)]; exact this.1
  ·have h2 := this.2
   rwa [World.frozen?_setCell]
 ·have hj' : j < st.acked.length := by simpa using hj
  show _ = some (Value.int .i64 (st.acked.set v y)[j]!)
  rw [qoH _ _ _ _ hj']
  by_cases e : v = j
  ·subst e; rw [if_pos rfl]; exact World.cell?_setCell_same _ _ _ (hc v hv)
  ·rw [if_neg e, World.cell?_setCell_other _ _ _ _ (by simp)]; exact hc j hj'
def qhA (st : QuT) (v z : Int) : Prop := v < 0 ∨ (st.acked.length : Int) ≤ v ∨ z < 0 ∨ st.last < z
def ackS (st : QuT) (v : Nat) (z : Int) : QuT := { st with acked := ackL st.acked v z }
def qoW (w : World) (e : Ending) (w' : World) : Prop := e = .returned (.tuple #[.int .i64 0, .int .i64 1]) ∧ Below w.heap.size w w'
theorem qnk (bq : Nat) (x : QuX) (R : Nat → Prop) (st : QuT) (v z : Int) (w : World) (hq : QuAt w bq x R st) (h : qhA st v z) :
  Calls Tryz.prog 20 #[.pointer (some ⟨bq, 0, none⟩), .int .i64 v, .int .i64 z] w (qoW w) := by
 have c5 : w.cell? ⟨bq, 5, none⟩ = some (.slice x.aA st.acked.length x.ac) := by rw [qaf hq.box]; rfl
 have c6 : w.cell? ⟨bq, 6, none⟩ = some (.int .i64 st.last) := by rw [qaf hq.box]; rfl
 unfold qhA at h
 generalize st.acked.length = n at *
 generalize st.last = la at *
 clear hq
 by_cases h1 : v < 0
 ·clear h
  go_enter Tryz.func20, Tryz.ntmps20
  go_wp2_with fail
  go_ret2
  exact ⟨rfl, Below.refl _ _⟩
 ·have b1 : decide (v < 0) = false := decide_eq_false h1
  by_cases h2 : (n : Int) ≤ v
  ·have b2 : decide ((n : Int) ≤ v) = true := decide_eq_true h2
   clear h h1 h2
   go_enter Tryz.func20, Tryz.ntmps20
   go_wp2_with fail
   go_ret2
   exact ⟨rfl, Below.refl _ _⟩
  ·have b2 : decide ((n : Int) ≤ v) = false := decide_eq_false h2
   by_cases h3 : z < 0
   ·have b3 : decide (z < 0) = true := decide_eq_true h3
    clear h h1 h2 h3
    go_enter Tryz.func20, Tryz.ntmps20
    go_wp2_with fail
    go_ret2
    exact ⟨rfl, Below.refl _ _⟩
   ·have b3 : decide (z < 0) = false := decide_eq_false h3
    have b4 : decide (la < z) = true := decide_eq_true (by omega)
    clear h h1 h2 h3
    go_enter Tryz.func20, Tryz.ntmps20
    go_wp2_with fail
    go_ret2
    exact ⟨rfl, Below.refl _ _⟩
def AckP (bq : Nat) (x : QuX) (R : Nat → Prop) (st : QuT) (v : Nat) (z : Int) (w : World) (e : Ending) (w' : World) : Prop :=
 e = .returned (.tuple #[.int .i64 ((rdN (ackS st v z) : Int) - rdN st), .int .i64 0]) ∧ QuAt w' bq x R (ackS st v z) ∧ Fr [x.ga] w w'
theorem qdj (st : QuT) : rdN st ≤ st.L.length := by rw [← qcv]; exact qgB _ _
theorem qoa (bq : Nat) (x : QuX) (R : Nat → Prop) (st : QuT) (v : Nat) (z : Int) (w : World) (hq : QuAt w bq x R st) (hv : v < st.acked.length) (hz : 0 ≤ z) (hla : z ≤ st.last)
  (hg : ∀ v ∈ st.vs, wfI v.1) (hn : st.acked.length ≤ 1024) (hr : qdb (zxs st.L)) (hl : st.L.length ≤ 4096) (hcap : x.cap ≤ 8192) :
  Calls Tryz.prog 20 #[.pointer (some ⟨bq, 0, none⟩), .int .i64 v, .int .i64 z] w (AckP bq x R st v z w) := by
 have c5 : w.cell? ⟨bq, 5, none⟩ = some (.slice x.aA st.acked.length x.ac) := by rw [qaf hq.box]; rfl
 have c6 : w.cell? ⟨bq, 6, none⟩ = some (.int .i64 st.last) := by rw [qaf hq.box]; rfl
 have HR1 := Lib.hid (qdg bq x R st w hq hg hn hr hl hcap)
 have HR2 := Lib.hid (fun (W : World) (hQ : QuAt W bq x R (ackS st v z)) => qdg bq x R (ackS st v z) W hQ hg (by show (ackL st.acked v z).length ≤ 1024; rw [qfp]; exact hn) hr hl hcap)
 have h1 := qdj st; have h2 := qdj (ackS st v z)
 have HL1 := Lib.hid (show rdN st ≤ 4096 by omega); have HL2 := Lib.hid (show rdN (ackS st v z) ≤ 4096 from Nat.le_trans h2 hl)
 have HQ := Lib.hid hq; have HV := Lib.hid hv
 have b1 : decide ((v : Int) < 0) = false := decide_eq_false (by omega)
 have b2 : decide ((st.acked.length : Int) ≤ v) = false := decide_eq_false (by omega)
 have b3 : decide (z < 0) = false := decide_eq_false (by omega)
 have b4 : decide (st.last < z) = false := decide_eq_false (by omega)
 clear hq hg hr hl hn hla h1 h2
 go_enter Tryz.func20, Tryz.ntmps20
 go_wp2_with fail
 refine HR1.out.mono ?_
 rintro e w2 ⟨rfl, hb2⟩
 have hq2 := HQ.out.below hb2
 have hA : x.aA = some ⟨x.ga, 0, none⟩ ∧ w2.there x.ga 0 st.acked.length ∧ ∀ j, j < st.acked.length → w2.cell? ⟨x.ga, j, none⟩ = some (.int .i64 st.acked[j]!) := by
  rcases hq2.ack with h | h
  ·omega
  ·exact h
 obtain ⟨hA, hth, hc⟩ := hA
 have d5 : w2.cell? ⟨bq, 5, none⟩ = some (.slice (some ⟨x.ga, 0, none⟩) st.acked.length x.ac) := by rw [qaf hq2.box, hA]; rfl
 have da : w2.cell? ⟨x.ga, v, none⟩ = some (.int .i64 st.acked[v]!) := hc v hv
 have fa : w2.frozen? ⟨x.ga, v, none⟩ = false := by have := (hth v hv).2; rwa [Nat.zero_add] at this
 have hvi : (v : Int) < (st.acked.length : Int) := by omega
 have hv0 : (0 : Int) ≤ (v : Int) := by omega
 have HQ2 := Lib.hid hq2; have HB2 := Lib.hid hb2; have HTH := Lib.hid (And.intro hth hc)
 have HSA := Lib.hid (show ackS st v z = { st with acked := st.acked.set v (max st.acked[v]! z) } from rfl)
 clear hq2 hb2 hth hc hA c5 c6 b1 b2 b3 b4 hv
 have HQA := Lib.hid (show QuAt (w2.setCell ⟨x.ga, v, none⟩ (.int .i64 (max st.acked[v]! z))).drew bq x R (ackS st v z) from (HQ2.out.setAck HV.out _).fr (Fr.drewN [] _ 1) (by simp) (by simp) (by simp) (by simp))
 generalize st.acked[v]! = y at *
 go_wp2_with fail
 go_region
 all_goals go_wp2_with fail
 have hw : IntKind.i64.wrap ((rdN (ackS st v z) : Int) - rdN st) = (rdN (ackS st v z) : Int) - rdN st := by rw [IntKind.wrap_i64]; have := HL1.out; have := HL2.out; omega
 refine (HR2.out _ HQA.out).mono ?_
 rintro e w5 ⟨rfl, hb5⟩
 have HB5 := Lib.hid hb5; clear hb5
 go_wp2_with fail
 go_ret2
 exact ⟨rfl, HQA.out.below HB5.out, ((Fr.of_below (own := [x.ga]) HB2.out).set (by simp) v _).trans (Fr.of_below (own := []) (((qaj _)).trans (HB5.out.mono (Nat.le_of_eq rfl)))) (by simp)⟩
open Go.RowKit Go.MapKept Go.Maps
theorem qgP {fn : Func} {p q : Tmp} {ty : TypeId} (h : fn.results = #[.cell p ty, .tmp q]) (tmps : Array Value) (P : Program) (w : World) :
  (results fn tmps).run P w = ((asAddr (tmps.getD p undef)).run P w).andThen fun a w₁ => ((loadVar ty a).run P w₁).andThen fun v w₂ => .ok (.tuple #[v, tmps.getD q undef]) w₂ := by
 simp only [results, h]
 simp [Sem.run_bind, Result.andThen]
/-- a function's end whose results are a struct in a variable and a value -/
theorem qbu {P : Program} {fn : Func} {Q : Ending → World → Prop} {a : Act} {w : World} {p q : Tmp} {ty t : TypeId} {g : Nat} {cs : Array Value} {d : TypeDesc} {v : Value} (h : fn.results = #[.cell p ty, .tmp q]) (hx : a.tmps.getD p undef = .pointer (some ⟨g, 0, none⟩))
  (hv : a.tmps.getD q undef = v) (hg : w.heap[g]? = some (.cells cs t (0, 0))) (hu : P.underlying ty = some d) (hd : d.isRow = true) (hi : (P.info? ty).map (·.size) = some cs.size) (hdf : a.defers = []) (hq : Q (.returned (.tuple #[.agg cs, v])) w) : bodyPost P fn Q .ret a w := by
 refine bodyPost_ret ((qgP h _ _ _).trans ?_) hdf hq
 have h1 := qhj (P := P) (w := w) hx hg hu hd hi
 rw [hv]
 cases hx2 : (asAddr (a.tmps.getD p undef)).run P w with
 | ok ad w1 =>
  rw [hx2] at h1
  simp only [Result.andThen_ok] at h1 ⊢
  rw [h1]; rfl
 | _ => rw [hx2] at h1; cases h1
def qcQ (st : QuT) (v : Int) : Int := if 0 ≤ v ∧ v < st.acked.length then st.acked[v.toNat]! else 0
theorem qeu (bq : Nat) (x : QuX) (R : Nat → Prop) (st : QuT) (v : Int) (w : World) (hq : QuAt w bq x R st) : Calls Tryz.prog 39 #[.pointer (some ⟨bq, 0, none⟩), .int .i64 v] w (RetV (.int .i64 (qcQ st v)) w) := by
 by_cases h0 : v < 0
 ·have HZ := Lib.hid (show qcQ st v = 0 from if_neg (by omega))
  have b0 : decide (v < 0) = true := decide_eq_true h0
  clear hq h0
  go_enter Tryz.func39, Tryz.ntmps39
  go_wp2_with fail
  go_ret
  exact RetV.mk (by rw [HZ.out]; rfl) 0 rfl
 ·have b0 : decide (v < 0) = false := decide_eq_false h0
  by_cases h1 : (st.acked.length : Int) ≤ v
  ·have HZ := Lib.hid (show qcQ st v = 0 from if_neg (by omega))
   have b1 : decide ((st.acked.length : Int) ≤ v) = true := decide_eq_true h1
   have c5 : w.cell? ⟨bq, 5, none⟩ = some (.slice x.aA st.acked.length x.ac) := by rw [qaf hq.box]; rfl
   clear hq h0 h1
   go_enter Tryz.func39, Tryz.ntmps39
   go_wp2_with fail
   go_ret
   exact RetV.mk (by rw [HZ.out]; rfl) 0 rfl
  ·obtain ⟨k, rfl⟩ : ∃ k : Nat, v = (k : Int) := ⟨v.toNat, by omega⟩
   have hk : k < st.acked.length := by omega
   have HZ := Lib.hid (show qcQ st k = st.acked[k]! from if_pos (by omega))
   have b1 : decide (st.acked.length ≤ k) = false := decide_eq_false (by omega)
   have hA : x.aA = some ⟨x.ga, 0, none⟩ ∧ w.there x.ga 0 st.acked.length ∧ ∀ j, j < st.acked.length → w.cell? ⟨x.ga, j, none⟩ = some (.int .i64 st.acked[j]!) := by
    rcases hq.ack with h | h
    ·omega
    ·exact h
   have c5 : w.cell? ⟨bq, 5, none⟩ = some (.slice (some ⟨x.ga, 0, none⟩) st.acked.length x.ac) := by rw [qaf hq.box, hA.1]; rfl
   have ck := hA.2.2 k hk
   clear hq h0 h1 hA
   generalize st.acked[k]! = y at *
   go_enter Tryz.func39, Tryz.ntmps39
   go_wp2_with fail
   go_ret
   exact RetV.mk (by rw [HZ.out]; rfl) 0 rfl
def qmU (w : World) (e : Ending) (w' : World) : Prop := e = .returned (.tuple #[prV default, .bool false]) ∧ Below w.heap.size w w'
theorem qoy (bq : Nat) (x : QuX) (R : Nat → Prop) (st : QuT) (i : Int) (w : World) (hq : QuAt w bq x R st) (hi : i < 0 ∨ (st.L.length : Int) ≤ i) : Calls Tryz.prog 37 #[.pointer (some ⟨bq, 0, none⟩), .int .i64 i] w (qmU w) := by
 have HG0 := Lib.hid (qab w (.cells rzPr 63))
 have hb1 : Below w.heap.size w (w.alloc (.cells rzPr 63)) := (Below.refl _ w).alloc (Nat.le_refl _) _
 have HCL := Lib.hid (qcL bq x R st _ (hq.below hb1))
 have HB1 := Lib.hid hb1
 generalize st.L.length = n at *
 by_cases h0 : i < 0
 ·have b0 : decide (i < 0) = true := decide_eq_true h0
  clear hq hb1 hi h0
  go_enter Tryz.func37, Tryz.ntmps37
  go_wp2_with (first
   | (refine qdc rfl rfl ?_)
   | (apply qai 63 63; exact rfl; exact rfl; exact rfl; (first | (with_reducible rfl) | (exact sz1 _ _) | (exact sz2 _ _ _) | (exact sz3 _ _ _ _)); exact rfl; exact qaI; exact rfl; (first | exact qbo _ | simp [Value.oneCell']))
   | fail)
  refine qbu rfl rfl rfl HG0.out qbq rfl qaI rfl ⟨rfl, HB1.out⟩
 ·have b0 : decide (i < 0) = false := decide_eq_false h0
  have b1 : decide ((n : Int) ≤ i) = true := decide_eq_true (by omega)
  clear hq hb1 hi h0
  go_enter Tryz.func37, Tryz.ntmps37
  go_wp2_with fail
  refine HCL.out.mono ?_
  rintro e w2 ⟨rfl, q, rfl⟩
  have hg2 : ((w.alloc (.cells rzPr 63)).drewN q).heap[w.heap.size]? = some (.cells rzPr 63 (0, 0)) := HG0.out
  go_wp2_with (first
   | (refine qdc rfl rfl ?_)
   | (apply qam 63 63; exact rfl; exact rfl; exact rfl; exact rfl; (first | assumption | (refine qaa ?_; assumption) | (exact qab _ _) | (exact qae _ _ _) | (exact qag _ _ _ _) | (exact qas _ _ _ _ _) | (exact qaa (qab _ _)) | (exact qaa (qae _ _ _)) | (exact qaa (qag _ _ _ _)) | (exact qaa (qaa (qab _ _))) | (exact qaa (qaa (qae _ _ _))) | (exact qaa (qaa (qaa (qab _ _))))); exact qaI; exact rfl; (first | exact qbo _ | simp [Value.oneCell']))
   | fail)
  refine qbu rfl rfl rfl (setRow_heap _ _ _ _ _ _ hg2) qbq rfl qaI rfl ⟨rfl, below_setRow (qac HB1.out q) (Nat.le_refl _) _⟩
def qcc (st : QuT) : QuT := { st with L := st.L.tail, committed := st.L[0]!.d.zx }
/-- what Commit leaves: the first one, if it is ready -/
def qpk (bq : Nat) (x : QuX) (R : Nat → Prop) (st : QuT) (w : World) (e : Ending) (w' : World) : Prop :=
 (∃ h, e = .returned (.tuple #[prV h, .bool true]) ∧ PrAt w' R h st.L[0]! ∧ QuAt w' bq x.next R (qcc st)) ∧ Fr [bq, x.gr] w w'
theorem qln (bq : Nat) (x : QuX) (R : Nat → Prop) (st : QuT) (w : World) (hq : QuAt w bq x R st) (hg : ∀ v ∈ st.vs, wfI v.1) (hn : st.acked.length ≤ 1024) (hr : qdb (zxs st.L)) (hl : st.L.length ≤ 4096) (hcap : x.cap ≤ 8192) (h0 : rdN st = 0) :
  Calls Tryz.prog 22 #[.pointer (some ⟨bq, 0, none⟩)] w (qmU w) := by
 have hb1 : Below w.heap.size w (w.alloc (.cells rzPr 63)) := (Below.refl _ w).alloc (Nat.le_refl _) _
 have HCR := Lib.hid (qdg bq x R st _ (hq.below hb1) hg hn hr hl hcap)
 rw [h0] at HCR
 have HG0 := Lib.hid (qab w (.cells rzPr 63)); have HB1 := Lib.hid hb1; have HS0 := Lib.hid (sz1 w (.cells rzPr 63))
 clear hq hg hn hr hl hb1 h0
 go_enter Tryz.func22, Tryz.ntmps22
 go_wp2_with fail
 refine HCR.out.mono ?_
 rintro e w3 ⟨rfl, hb3⟩
 have hg3 := (hb3.block w.heap.size (by have := HS0.out; omega)).trans HG0.out
 have HB3 := Lib.hid (HB1.out.trans (hb3.mono HB1.out.size))
 clear hb3
 go_wp2_with (first
  | (refine qdc rfl rfl ?_)
  | (apply qam 63 63; exact rfl; exact rfl; exact rfl; exact rfl; (first | assumption | (refine qaa ?_; assumption) | (exact qab _ _) | (exact qae _ _ _) | (exact qag _ _ _ _) | (exact qas _ _ _ _ _) | (exact qaa (qab _ _)) | (exact qaa (qae _ _ _)) | (exact qaa (qag _ _ _ _)) | (exact qaa (qaa (qab _ _))) | (exact qaa (qaa (qae _ _ _))) | (exact qaa (qaa (qaa (qab _ _))))); exact qaI; exact rfl; (first | exact qbo _ | simp [Value.oneCell']))
  | fail)
 exact qbu rfl rfl rfl (setRow_heap _ _ _ _ _ _ hg3) qbq rfl qaI rfl ⟨rfl, below_setRow HB3.out (Nat.le_refl _) _⟩
theorem qkz (bq : Nat) (x : QuX) (R : Nat → Prop) (st : QuT) (w : World) (hq : QuAt w bq x R st) (hg : ∀ v ∈ st.vs, wfI v.1) (hn : st.acked.length ≤ 1024) (hr : qdb (zxs st.L)) (hl : st.L.length ≤ 4096) (hcap : x.cap ≤ 8192) (h0 : 0 < rdN st) :
  Calls Tryz.prog 22 #[.pointer (some ⟨bq, 0, none⟩)] w (qpk bq x R st w) := by
 have hb1 : Below w.heap.size w (w.alloc (.cells rzPr 63)) := (Below.refl _ w).alloc (Nat.le_refl _) _
 have HCR := Lib.hid (qdg bq x R st _ (hq.below hb1) hg hn hr hl hcap)
 have hz : ((rdN st : Int) == 0) = false := beq_eq_false_iff_ne.2 (by omega)
 have hpos := Nat.lt_of_lt_of_le h0 (qdj st)
 have HQ := Lib.hid hq
 have HCT := Lib.hid (fun (W : World) (hW : QuAt W bq x R st) => show Calls Tryz.prog 70 #[.pointer (some ⟨bq, 0, none⟩)] W (qjV st.L[0]! bq x R { st with L := st.L.tail } W) from by
  obtain ⟨L, bd, vs, ak, la, co⟩ := st
  cases L with
  | nil => simp at hpos
  | cons p rest => exact qia bq x R p rest bd vs ak la co W hW (by omega))
 have HG0 := Lib.hid (qab w (.cells rzPr 63)); have HB1 := Lib.hid hb1; have HS0 := Lib.hid (sz1 w (.cells rzPr 63))
 have HLQ := Lib.hid (Array.getElem?_eq_some_iff.1 hq.box).1
 have HGR := Lib.hid ((hq.ngr (by have := hq.ring.le; omega)))
 have HRL := Lib.hid hq.lt
 generalize rdN st = r at *
 clear hq hg hn hr hl hb1 h0 hpos
 go_enter Tryz.func22, Tryz.ntmps22
 go_wp2_with fail
 refine HCR.out.mono ?_
 rintro e w3 ⟨rfl, hb3⟩
 have HB3 := Lib.hid (HB1.out.trans (hb3.mono HB1.out.size))
 have HG3 := Lib.hid ((hb3.block w.heap.size (by have := HS0.out; omega)).trans HG0.out)
 have HS3 := Lib.hid (show w.heap.size + 1 ≤ w3.heap.size by have := HS0.out; have := hb3.size; omega)
 have HTK := Lib.hid (HCT.out w3 (HQ.out.below HB3.out))
 clear hb3 HCR
 go_wp2_with fail
 refine HTK.out.mono ?_
 rintro e w4 ⟨⟨h, rfl, hp, hq4⟩, hf4⟩
 have HP4 := Lib.hid hp; have HQ4 := Lib.hid hq4; have HF4 := Lib.hid hf4
 have hz4 := hp.1.1.2.2.1
 have HG4 := Lib.hid ((hf4.block w.heap.size (by have := HS3.out; omega) (by have := HLQ.out; have := HGR.out.2.2; simp; omega)).trans HG3.out)
 clear hp hq4 hf4 HTK HCT
 have hlq4 : bq < w4.heap.size := by have := HLQ.out; have := HF4.out.size; have := HS3.out; omega
 have hb5 : Below w4.heap.size w4 (w4.alloc (.cells (rwPr h) 63)) := (Below.refl _ w4).alloc (Nat.le_refl _) _
 have hg5 := qab w4 (.cells (rwPr h) 63)
 go_upto_region 4 with (first
  | (apply qai 63 63; exact rfl; exact rfl; exact rfl; (first | (with_reducible rfl) | (exact sz1 _ _) | (exact sz2 _ _ _) | (exact sz3 _ _ _ _)); exact rfl; exact qaI; exact rfl; (first | exact qbo _ | simp [Value.oneCell']))
  | fail)
 generalize w4.alloc (.cells (rwPr h) 63) = W5 at *
 have hq5 := HQ4.out.below hb5
 have c7 : W5.cell? ⟨bq, 7, none⟩ = some (.int .i64 st.committed) := by rw [qaf hq5.box]; rfl
 have f7 : W5.frozen? ⟨bq, 7, none⟩ = false := by simp [World.frozen?, hq5.box]
 have cz : W5.cell? ⟨w4.heap.size, 2, none⟩ = some (.int .i64 h.d.zx) := by rw [qaf hg5]; rfl
 have hne4 : w4.heap.size ≠ bq := by omega
 have hnw : w.heap.size ≠ bq := by have := HLQ.out; omega
 have g5 : (W5.setCell ⟨bq, 7, none⟩ (.int .i64 h.d.zx)).heap[w4.heap.size]? = some (.cells (rwPr h) 63 (0, 0)) := (qaK _ bq 7 _ hne4).trans hg5
 have g0 : (W5.setCell ⟨bq, 7, none⟩ (.int .i64 h.d.zx)).heap[w.heap.size]? = some (.cells rzPr 63 (0, 0)) := (qaK _ bq 7 _ hnw).trans ((hb5.block _ (by have := HF4.out.size; have := HS3.out; omega)).trans HG4.out)
 have HQ5 := Lib.hid hq5; have HB5 := Lib.hid hb5; have HZ4 := Lib.hid hz4
 have HG00 := Lib.hid g0
 have HNW := Lib.hid hnw
 clear hq5 hb5 hz4 hg5 hne4 hnw hlq4
 go_wp2_with (first
  | (apply qaw 63 63; exact rfl; exact rfl; exact rfl; (first | assumption | (refine qaa ?_; assumption) | (exact qab _ _) | (exact qae _ _ _) | (exact qag _ _ _ _) | (exact qas _ _ _ _ _) | (exact qaa (qab _ _)) | (exact qaa (qae _ _ _)) | (exact qaa (qag _ _ _ _)) | (exact qaa (qaa (qab _ _))) | (exact qaa (qaa (qae _ _ _))) | (exact qaa (qaa (qaa (qab _ _))))); exact qbq; exact rfl; exact qaI)
  | (apply qam 63 63; exact rfl; exact rfl; exact rfl; exact rfl; (first | assumption | (refine qaa ?_; assumption) | (exact qab _ _) | (exact qae _ _ _) | (exact qag _ _ _ _) | (exact qas _ _ _ _ _) | (exact qaa (qab _ _)) | (exact qaa (qae _ _ _)) | (exact qaa (qag _ _ _ _)) | (exact qaa (qaa (qab _ _))) | (exact qaa (qaa (qae _ _ _))) | (exact qaa (qaa (qaa (qab _ _))))); exact qaI; exact rfl; (first | exact qbo _ | simp [Value.oneCell']))
  | fail)
 have hF6 := qaE W5 bq 7 (.int .i64 h.d.zx)
 have hq6 := HQ5.out.rebox (st' := qcc st) hF6 rfl rfl rfl (by
  refine (qaZ HQ5.out.box _).trans ?_
  simp only [qcc]
  rw [HZ4.out]
  simp)
 have hF7 := qaS (W5.setCell ⟨bq, 7, none⟩ (.int .i64 h.d.zx)) w.heap.size (rwPr h)
 have hRw : ∀ b, R b → b ∉ [w.heap.size] := fun b hb => by have := HRL.out b hb; simp; omega
 have hRq : ∀ b, R b → b ∉ [bq] := fun b hb => by simp; exact fun e => HQ.out.nq (e ▸ hb)
 have hq7 := hq6.fr hF7 (by simp; exact fun e => HNW.out e.symm) (fun _ => by show x.gr ∉ _; have := HGR.out.2.2; simp; omega) (fun hn => by have h1 : x.ga < w.heap.size := (HQ.out.nga hn).2.2.1; show x.ga ∉ _; simp; omega) hRw
 have hp7 := (((HP4.out.fr (R' := R) (Fr.of_below (own := []) HB5.out) (fun b _ hb => ⟨by simp, hb⟩)).fr (R' := R) hF6 (fun b _ hb => ⟨hRq b hb, hb⟩))).fr (R' := R) hF7 (fun b _ hb => ⟨hRw b hb, hb⟩)
 have hf7 : Fr [bq, x.gr] w _ := ((((Fr.of_below (own := [bq, x.gr]) HB3.out).trans HF4.out (fun g hg => .inl hg)).trans (Fr.of_below (own := []) HB5.out) (by simp)).set (b := bq) (by simp) 7 (.int .i64 h.d.zx)).trans hF7 (fun g hg => .inr (by simp at hg; omega))
 exact qbu rfl rfl rfl (setRow_heap _ _ _ _ _ _ HG00.out) qbq rfl qaI rfl ⟨⟨h, rfl, hp7, hq7⟩, hf7⟩
open Go.RowKit Go.MapKept Go.Maps
/-- what is known of a kind of great element -/
structure ElemL {α : Type} [Inhabited α] (enc : α → List Value) (ST T : TypeId) (k : Nat) : Prop where
 under : Tryz.prog.underlying ST = some (.slice T)
 info : (Tryz.prog.info? T).map (fun i => (i.zero.map (·.cells.size), i.size, decide (i.bytes ≤ 4096))) = some (some k, k, true)
 len : ∀ x, (enc x).length = k
 pos : 0 < k
 one : ∀ x u, u ∈ enc x → u.oneCell' = true
theorem ElemL.parts {α : Type} [Inhabited α] {enc : α → List Value} {ST T : TypeId} {k : Nat} (E : ElemL enc ST T k) : ∃ i z, Tryz.prog.info? T = some i ∧ i.zero = some z ∧ z.cells.size = k ∧ i.size = k ∧ i.bytes ≤ 4096 := by
 have h := E.info
 cases hi : Tryz.prog.info? T with
 | none => rw [hi] at h; cases h
 | some i =>
  rw [hi] at h
  simp only [Option.map_some, Option.some.injEq, Prod.mk.injEq, decide_eq_true_eq] at h
  cases hz : i.zero with
  | none => rw [hz] at h; simp at h
  | some z =>
   rw [hz] at h
   simp only [Option.map_some, Option.some.injEq] at h
   exact ⟨i, z, rfl, hz, h.1, h.2.1, h.2.2⟩
theorem qio {α : Type} [Inhabited α] {enc : α → List Value} {ST T : TypeId} {k : Nat} (E : ElemL enc ST T k) {ops : Array Oper} {rest : List Oper} {o : Oper} {a : Act} {Q : Exit → Act → World → Prop} {w : World} (hgd : o.guard = none) (s x : Operand)
  (ho : o.op = .call { callee := .builtin .append, args := #[s, x], argTypes := #[ST, ST] }) (base : Nat) (A : Option Addr) (n c : Nat) (l : List α) (hs : a.eval s = .slice A n c)
  (hown : w.ownsRow base T k (.slice A n c) n (l.flatMap enc)) (A' : Option Addr) (m c' : Nat) (l' : List α) (hx : a.eval x = .slice A' m c') (hsl : Sl w w.heap.size enc k A' m l')
  (hA' : A' = none → m = 0 ∧ c' = 0) (hn : n + m ≤ 1048576) (hbase : base ≤ w.heap.size)
  (h : ∀ A2 c2 w', w'.ownsRow base T k (.slice A2 (n + m) c2) (n + m) ((l ++ l').flatMap enc) → Below base w w' → wpList Tryz.prog ops Q rest (a.put o.dst (.slice A2 (n + m) c2)) w') : wpList Tryz.prog ops Q (o :: rest) a w := by
 obtain ⟨i0, z, hi0, hz0, hzc, hz1, hz2⟩ := E.parts
 cases A' with
 | none =>
  obtain ⟨rfl, rfl⟩ := hA' rfl
  have hl0 : l' = [] := List.length_eq_zero_iff.1 hsl.len
  subst hl0
  refine wpList_append_own_none hgd s x _ ho base _ i0 k E.under hi0 _ n _ hs hown hx ?_
  have := h A c w (by rw [List.append_nil]; exact hown) (Below.refl _ _)
  exact this
 | some a0 =>
  refine wpList_append_own w hgd s x _ ho base T i0 _ k i0.bytes E.under hi0 hz0 hz1 rfl hzc E.pos _ n _ hs hown a0 m c' (l'.flatMap enc) hx (by rw [qch E.len, hsl.len]) (Sl.news E.len E.pos hsl) ?_ (by unfold maxLen; omega) ?_ hbase ?_
  ·intro u hu
   obtain ⟨x, _, hx⟩ := List.mem_flatMap.1 hu
   exact E.one x u hx
  ·have := Nat.mul_le_mul hn hz2
   omega
  ·intro v' w' h1 h2 _
   obtain ⟨A2, c2, rfl⟩ := qcC h1
   refine h A2 c2 w' ?_ (qcN hown h2 hbase)
   rw [List.flatMap_append]; exact h1
theorem qoE : ElemL qah 79 63 45 := ⟨Tryz.underlying79, by kernel_rfl, qbB, by decide, fun x u hu => by
 have h := qbo x
 rw [Array.all_eq_true_iff_forall_mem] at h
 exact h u (by simpa using hu)⟩
structure QClR (bq : Nat) (x : QuX) (R : Nat → Prop) (st : QuT) (w : World) (k : Nat) (A : Option Addr) (c : Nat) (Hs : List PrH) (x' : QuX) (wr : World) : Prop where
 hx : x'.gr = x.gr ∧ x'.ga = x.ga ∧ x'.aA = x.aA ∧ x'.cap = x.cap
 q : QuAt wr bq x' R { st with L := st.L.drop k }
 row : wr.ownsRow w.heap.size 63 45 (.slice A k c) k (Hs.flatMap qah)
 hl : Hs.length = k
 pr : ∀ j, j < k → PrAt wr R Hs[j]! st.L[j]!
 fr : Fr [bq, x.gr, x.ga] w wr
def minL (ak : List Int) (c : Int) (k : Nat) : List Int := (ak.take k).map (fun x => min x c) ++ ak.drop k
theorem qfz (ak : List Int) (c : Int) (k : Nat) : (minL ak c k).length = ak.length := by
 simp [minL]; omega
theorem qfZ (ak : List Int) (c : Int) (k : Nat) (hk : k < ak.length) : (minL ak c k)[k]! = ak[k]! := by
 have h : (minL ak c k).length = ak.length := qfz ak c k
 rw [getElem!_pos _ k (by rw [h]; exact hk), getElem!_pos ak k hk]
 unfold minL
 rw [List.getElem_append_right (by simp; omega)]
 simp only [List.length_map, List.length_take, List.getElem_drop]
 congr 1
 omega
theorem qhP (ak : List Int) (c : Int) (k : Nat) (hk : k < ak.length) : (minL ak c k).set k (min ak[k]! c) = minL ak c (k + 1) := by
 have hl : ((ak.take k).map (fun x => min x c)).length = k := by simp; omega
 unfold minL
 rw [List.set_append_right _ _ (by omega), hl, Nat.sub_self, List.drop_eq_getElem_cons hk, List.set_cons_zero, List.take_succ_eq_append_getElem hk, List.map_append, List.append_assoc, getElem!_pos ak k hk]
 rfl
def qcx (st : QuT) : QuT := { st with L := [], last := st.committed, acked := st.acked.map (fun x => min x st.committed) }
theorem qhR (ak : List Int) (c : Int) : minL ak c ak.length = ak.map (fun x => min x c) := by simp [minL]
theorem Fr.of_belowB {B : Nat} {w w' : World} (h : Below B w w') (hs : w.heap.size ≤ w'.heap.size) : Fr ((List.range w.heap.size).filter (fun g => decide (B ≤ g))) w w' :=
 ⟨h.os, h.tape, h.output, hs, fun g hg hn => h.block g (by
  rw [List.mem_filter, List.mem_range, decide_eq_true_eq] at hn
  omega)⟩
theorem qcP {B n g : Nat} (h : g < B) : g ∉ (List.range n).filter (fun g => decide (B ≤ g)) := by
 rw [List.mem_filter, List.mem_range, decide_eq_true_eq]; omega
/-- what Clear leaves: all that waited -/
def qow (bq : Nat) (x : QuX) (R : Nat → Prop) (st : QuT) (w : World) (e : Ending) (w' : World) : Prop :=
 (∃ (A : Option Addr) (c : Nat) (Hs : List PrH) (x' : QuX), e = .returned (.slice A st.L.length c) ∧ w'.ownsRow w.heap.size 63 45 (.slice A st.L.length c) st.L.length (Hs.flatMap qah) ∧ Hs.length = st.L.length ∧ (∀ j, j < st.L.length → PrAt w' R Hs[j]! st.L[j]!) ∧ (x'.gr = x.gr ∧ x'.ga = x.ga ∧ x'.aA = x.aA ∧ x'.cap = x.cap) ∧ QuAt w' bq x' R (qcx st)) ∧ Fr [bq, x.gr, x.ga] w w'
theorem qkJ (bq : Nat) (x : QuX) (R : Nat → Prop) (st : QuT) (w : World) (hq : QuAt w bq x R st) (hl : st.L.length ≤ 4096) (hcap : x.cap ≤ 8192) (hgr : x.gr < w.heap.size) (hga : x.ga < w.heap.size) (hn : st.acked.length ≤ 1024) (hRga : ¬ R x.ga) :
  Calls Tryz.prog 25 #[.pointer (some ⟨bq, 0, none⟩)] w (qow bq x R st w) := by
 have HQ := Lib.hid hq
 have HLQ := Lib.hid (Array.getElem?_eq_some_iff.1 hq.box).1
 have hown : ∀ g ∈ [bq, x.gr, x.ga], g < w.heap.size := fun g hg => by have := HLQ.out; simp at hg; rcases hg with h | h | h <;> omega
 have HOWN := Lib.hid hown
 generalize hN : st.L.length = n at *
 have HN := Lib.hid hN
 clear hq hown hN
 go_enter Tryz.func25, Tryz.ntmps25
 go_wp2_with fail
 go_loopw [3] (fun v wr => ∃ k A c Hs x', v = .slice A k c ∧ k ≤ n ∧ QClR bq x R st w k A c Hs x' wr) (fun v _ => n - (match v with | .slice _ k _ => k | _ => 0))
 case atStart => exact ⟨0, none, 0, [], x, rfl, Nat.zero_le _, ⟨⟨rfl, rfl, rfl, rfl⟩, HQ.out, ⟨rfl, .inl ⟨rfl, rfl⟩⟩, rfl, fun j hj => absurd hj (by omega), Fr.refl _ _⟩⟩
 case round =>
  obtain ⟨k, A, c, Hs, x', rfl, hk, hC⟩ := hrel
  have HC := Lib.hid hC; clear hC
  have c2 : wr.cell? ⟨bq, 2, none⟩ = some (.int .i64 ↑(n - k)) := by rw [qaf HC.out.q.box, ← HN.out]; simp
  by_cases hlt : k < n
  ·have bpos : decide (0 < n - k) = true := decide_eq_true (by omega)
   have HM := Lib.hid hlt
   have hks : k < st.L.length := by rw [HN.out]; exact hlt
   have hdrop : st.L.drop k = st.L[k]! :: st.L.drop (k + 1) := by rw [getElem!_pos st.L k hks]; exact List.drop_eq_getElem_cons hks
   have HTK := Lib.hid (show Calls Tryz.prog 70 #[.pointer (some ⟨bq, 0, none⟩)] wr (qjV st.L[k]! bq x' R { st with L := st.L.drop (k + 1) } wr) from by
    have h := HC.out.q
    rw [hdrop] at h
    exact qia bq x' R _ _ _ _ _ _ _ wr h (by have := HC.out.hx.2.2.2; omega))
   generalize hm : n - k = m at *
   clear hm hks hdrop
   go_wp2_with fail
   refine HTK.out.mono ?_
   rintro e w1 ⟨⟨h, rfl, hp, hq1⟩, hf1⟩
   have HP := Lib.hid hp; have HQ1 := Lib.hid hq1; have HF1 := Lib.hid hf1
   clear hp hq1 hf1 HTK c2 bpos
   have HW1 := Lib.hid (HC.out.fr.trans HF1.out (fun g hg => .inl (by rw [HC.out.hx.1] at hg; simp at hg; rcases hg with h | h <;> simp [h])))
   have HO1 := Lib.hid (qdV HC.out.row HF1.out (fun g hg => HOWN.out g (by rw [HC.out.hx.1] at hg; simp at hg; rcases hg with h | h <;> simp [h])))
   have HB2 := Lib.hid (show Below w1.heap.size w1 (w1.alloc (.cells (rwPr h) 63)) from (Below.refl _ w1).alloc (Nat.le_refl _) _)
   have HO2 := Lib.hid (qcb HO1.out HB2.out)
   have HSL := Lib.hid (show Sl (w1.alloc (.cells (rwPr h) 63)) (w1.alloc (.cells (rwPr h) 63)).heap.size qah 45 (some ⟨w1.heap.size, 0, none⟩) 1 [h] from ⟨rfl, fun _ => ⟨w1.heap.size, 0, rfl, by rw [sz1]; omega, fun i hi a u hu => by
    have hi0 : i = 0 := by omega
    subst hi0
    have hr : (w1.alloc (.cells (rwPr h) 63)).rangeAt w1.heap.size 0 (qah h) := qal (pre := []) (mid := qah h) (post := []) (qab w1 _) (by simp [qah]) rfl
    have := hr a u hu
    rw [Nat.zero_mul, Nat.zero_add]
    rwa [Nat.zero_add] at this⟩⟩)
   go_wp2_with (at_builtin; refine qio qoE rfl _ _ rfl w.heap.size A k c Hs ?hx1 HO2.out (some ⟨w1.heap.size, 0, none⟩) 1 1 [h] ?hy1 HSL.out (fun e => by cases e) (by omega) (Nat.le_trans HW1.out.size HB2.out.size) ?hk1)
   (try case hx1 => rfl)
   (try case hy1 => rfl)
   case hk1 =>
    intro A8 c8 w8 hv8 hb8
    have HB8 := Lib.hid hb8; have HV8 := Lib.hid hv8
    clear hv8 hb8
    generalize w1.alloc (.cells (rwPr h) 63) = W2 at *
    go_wp2_with fail
    go_roundw
    case rel =>
     have hs8 : w1.heap.size ≤ w8.heap.size := Nat.le_trans HB2.out.size HB8.out.size
     have hF8 := Fr.of_belowB HB8.out HB8.out.size
     have hlt1 : ∀ b, R b → b < w.heap.size := HQ.out.lt
     have hq8 := (HQ1.out.below HB2.out).fr hF8 (qcP HLQ.out) (fun _ => by show x'.gr ∉ _; rw [HC.out.hx.1]; exact qcP hgr) (fun _ => by show x'.ga ∉ _; rw [HC.out.hx.2.1]; exact qcP hga) (fun b hb => qcP (hlt1 b hb))
     refine ⟨k + 1, A8, c8, Hs ++ [h], x'.next, rfl, by omega, ⟨HC.out.hx, hq8, by rw [List.flatMap_append]; simpa using HV8.out, by rw [List.length_append, HC.out.hl]; rfl, fun j hj => ?_, ?_⟩⟩
     ·have hmv : ∀ {hh : PrH} {pp : PrT}, PrAt w1 R hh pp → PrAt w8 R hh pp := fun H => (H.fr (R' := R) (Fr.of_below (own := []) HB2.out) (fun b _ hb => ⟨by simp, hb⟩)).fr (R' := R) hF8 (fun b _ hb => ⟨qcP (hlt1 b hb), hb⟩)
      by_cases hjk : j < k
      ·rw [qdx _ _ _ (by rw [HC.out.hl]; exact hjk)]
       exact hmv ((HC.out.pr j hjk).fr (R' := R) HF1.out (fun b _ hb => ⟨by
        have h1 : b ≠ bq := fun e => HC.out.q.nq (e ▸ hb)
        have h2 : b ≠ x'.gr := fun e => (HC.out.q.ngr (by have h3 := HC.out.q.ring.le; rw [List.length_drop] at h3; have := HN.out; have := HM.out; omega)).2.1 (e ▸ hb)
        simp [h1, h2], hb⟩))
      ·obtain rfl : j = k := by omega
       rw [show (Hs ++ [h])[j]! = h by rw [← HC.out.hl]; exact qdv _ _]
       exact hmv HP.out
     ·exact (HW1.out.trans (Fr.of_below (own := []) HB2.out) (by simp)).trans hF8 (fun g hg => by
       rw [List.mem_filter, decide_eq_true_eq] at hg
       exact .inr hg.2)
    case measure => show n - (k + 1) < n - k; have := HM.out; omega
  ·obtain rfl : k = n := by omega
   have hdn : st.L.drop k = [] := by rw [← HN.out]; exact List.drop_length
   have hqn := HC.out.q
   rw [hdn] at hqn
   have bpos : decide (0 < k - k) = false := decide_eq_false (by omega)
   have c7 : wr.cell? ⟨bq, 7, none⟩ = some (.int .i64 st.committed) := by rw [qaf hqn.box]; rfl
   have c6 : wr.cell? ⟨bq, 6, none⟩ = some (.int .i64 st.last) := by rw [qaf hqn.box]; rfl
   have f6 : wr.frozen? ⟨bq, 6, none⟩ = false := by simp [World.frozen?, hqn.box]
   have HQN := Lib.hid hqn; clear hqn hdn hlt
   have c5v : (wr.setCell ⟨bq, 6, none⟩ (.int .i64 st.committed)).cell? ⟨bq, 5, none⟩ = some (.slice x.aA st.acked.length x'.ac) := by
    have h := qaZ HQN.out.box (o := 6) (.int .i64 st.committed)
    rw [qaf h, HC.out.hx.2.2.1]; rfl
   go_wp2_with fail
   have hq1 := HQN.out.rebox (st' := { st with L := [], last := st.committed }) (qaE wr bq 6 (.int .i64 st.committed)) rfl rfl rfl ((qaZ HQN.out.box _).trans (by simp))
   have HFS := Lib.hid (qaE wr bq 6 (.int .i64 st.committed))
   generalize wr.setCell ⟨bq, 6, none⟩ (.int .i64 st.committed) = V1 at *
   have HQV := Lib.hid hq1; clear hq1 c7 c6 f6 c2 bpos c5v
   have HRV := Lib.hid (qdV HC.out.row HFS.out (fun g hg => HOWN.out g (by simp at hg; simp [hg])))
   have HPV := Lib.hid (fun j (hj : j < k) => (HC.out.pr j hj).fr (R' := R) HFS.out (fun b _ hb => ⟨by simp; exact fun e => HQ.out.nq (e ▸ hb), hb⟩))
   have HFV := Lib.hid (HC.out.fr.trans HFS.out (fun g hg => .inl (by simp at hg; simp [hg])))
   have HXX := Lib.hid HC.out.hx; have HHL := Lib.hid HC.out.hl
   clear HC
   generalize hA : st.acked.length = na at *
   have HNA := Lib.hid hA; clear hA
   go_loopw [4, 32] (fun _ i wx => ∃ j : Nat, i = .int .i64 ↑j ∧ j ≤ na ∧ QuAt wx bq x' R { st with L := [], last := st.committed, acked := minL st.acked st.committed j } ∧ Fr [x.ga] V1 wx) (fun _ i _ => na - (intOf i).toNat)
   case atStart => exact ⟨0, rfl, Nat.zero_le _, by have h : minL st.acked st.committed 0 = st.acked := by simp [minL]
                                                    rw [h]; exact HQV.out, Fr.refl _ _⟩
   case round =>
    obtain ⟨j, rfl, hj, hqj, hfj⟩ := hrel
    have HQJ := Lib.hid hqj; have HFJ := Lib.hid hfj; clear hqj hfj
    by_cases hlj : j < na
    ·have hlen : (minL st.acked st.committed j).length = na := by rw [qfz]; exact HNA.out
     have hAA : x'.aA = some ⟨x.ga, 0, none⟩ ∧ wr.there x.ga 0 na ∧ ∀ i, i < na → wr.cell? ⟨x.ga, i, none⟩ = some (.int .i64 (minL st.acked st.committed j)[i]!) := by
      have h := HQJ.out.ack
      simp only [hlen] at h
      rw [HXX.out.2.1] at h
      rcases h with h | h
      ·omega
      ·exact h
     have d5 : wr.cell? ⟨bq, 5, none⟩ = some (.slice (some ⟨x.ga, 0, none⟩) na x'.ac) := by
      rw [qaf HQJ.out.box, hAA.1]; simp [hlen]
     have d7 : wr.cell? ⟨bq, 7, none⟩ = some (.int .i64 st.committed) := by rw [qaf HQJ.out.box]; rfl
     have da := hAA.2.2 j hlj
     rw [qfZ _ _ _ (by rw [HNA.out]; exact hlj)] at da
     have fa : wr.frozen? ⟨x.ga, j, none⟩ = false := by have := (hAA.2.1 j hlj).2; rwa [Nat.zero_add] at this
     have hjn : (j : Int) < (na : Int) := by omega
     have hj0 : (0 : Int) ≤ (j : Int) := by omega
     have HSET := Lib.hid (show QuAt (wr.setCell ⟨x.ga, j, none⟩ (.int .i64 (min st.acked[j]! st.committed))).drew bq x' R { st with L := [], last := st.committed, acked := minL st.acked st.committed (j + 1) } from by
      have h := (HQJ.out.setAck (v := j) (by simp only [hlen]; exact hlj) (min st.acked[j]! st.committed)).fr (Fr.drewN [] _ 1) (by simp) (by simp) (by simp) (by simp)
      rw [HXX.out.2.1] at h
      simp only [qhP st.acked st.committed j (by rw [HNA.out]; exact hlj)] at h
      exact h)
     clear hAA hlen
     generalize st.acked[j]! = y at *
     go_wp2_with fail
     go_region
     all_goals go_wp2_with fail
     go_roundw
     case rel => exact ⟨j + 1, by go_num, by omega, HSET.out, (HFJ.out.set (by simp) j _).trans (Fr.drewN [] _ 1) (by simp)⟩
     case measure => simp [intOf]; omega
    ·obtain rfl : j = na := by omega
     go_wp2_with fail
     go_ret
     have hall : minL st.acked st.committed j = st.acked.map (fun x => min x st.committed) := by rw [← HNA.out]; exact qhR _ _
     have hq9 := HQJ.out
     rw [hall] at hq9
     have hfin : ∀ {hh : PrH} {pp : PrT}, PrAt V1 R hh pp → PrAt wr R hh pp := fun H => H.fr (R' := R) HFJ.out (fun b _ hb => ⟨by
      simp
      intro e
      subst e
      exact hRga hb, hb⟩)
     exact ⟨⟨A, c, Hs, x', by rw [HN.out]; rfl, by rw [HN.out]; exact qdV HRV.out HFJ.out (fun g hg => HOWN.out g (by simp at hg; simp [hg])), by rw [HHL.out, HN.out], fun i hi => hfin (HPV.out i (by rw [← HN.out]; exact hi)), HXX.out, hq9⟩, HFV.out.trans HFJ.out (fun g hg => .inl (by simp at hg; simp [hg]))⟩
open Go.RowKit Go.MapKept Go.Maps
theorem qfS {ST T : TypeId} {z : Value} {k bs : Nat} (hu : Tryz.prog.underlying ST = some (.slice T)) (hi : (Tryz.prog.info? T).map (fun i => (i.zero, i.size, i.bytes)) = some (some z, k, bs)) (hb : bs ≤ 4096) (m : Nat) (hm : m ≤ 16384) (W : World) :
  (Instr.makeSlice ST (.int .i64 ↑m) (.int .i64 ↑m)).run Tryz.prog W = .ok (.slice (some ⟨W.heap.size, 0, none⟩) m m) (W.alloc (.cells (madeCells z.cells (m * k)) T)) := by
 obtain ⟨i, h1, h2, h3, h4⟩ := qcj hi
 have hb2 : (i.bytes : Int) * (m : Int) ≤ 281474976710656 := by
  have h5 : i.bytes * m ≤ 4096 * 16384 := Nat.mul_le_mul (by omega) hm
  have h6 : (i.bytes : Int) * (m : Int) = ((i.bytes * m : Nat) : Int) := by simp
  rw [h6]; omega
 have := run_make (P := Tryz.prog) W ST T i z hu h1 h2 .i64 .i64 (m : Int) (m : Int) (by omega) (Int.le_refl _) hb2 (by omega)
 rw [Int.toNat_natCast, h3] at this
 exact this
theorem qoz : (Tryz.prog.info? 82).map (fun i => (i.zero, i.size, i.bytes)) = some (some (.agg #[.int .i64 0, .int .i64 0]), 2, 16) := by kernel_rfl
theorem qoF (m i : Nat) (hi : i < m) : (madeCells (Value.agg #[.int .i64 0, .int .i64 0]).cells (m * 2))[i * 2]? = some (.int .i64 0) ∧ (madeCells (Value.agg #[.int .i64 0, .int .i64 0]).cells (m * 2))[i * 2 + 1]? = some (.int .i64 0) := by
 show (madeCells #[.int .i64 0, .int .i64 0] (m * 2))[i * 2]? = _ ∧ (madeCells #[.int .i64 0, .int .i64 0] (m * 2))[i * 2 + 1]? = _
 constructor
 ·rw [Array.getElem?_eq_getElem (by rw [size_madeCells]; omega)]
  simp [madeCells]
 ·rw [Array.getElem?_eq_getElem (by rw [size_madeCells]; omega)]
  simp [madeCells, Nat.add_mod]
theorem qke (m i : Nat) (hi : i < m) : (madeCells (Value.int .i64 0).cells (m * 1))[i]? = some (.int .i64 0) := by
 show (madeCells #[.int .i64 0] (m * 1))[i]? = _
 rw [Array.getElem?_eq_getElem (by rw [size_madeCells]; omega)]
 simp [madeCells, Nat.mod_one]
/-- the voters' array, k of them set -/
structure NwS (w : World) (v k : Nat) (wr : World) : Prop where
 c : ∃ C : Array Value, wr.heap[w.heap.size]? = some (.cells C 82 (0, 0)) ∧ ∀ i, i < v → C[i * 2]? = some (.int .i64 0) ∧ C[i * 2 + 1]? = some (.int .i64 (if i < k then 1 else 0))
 b : Below w.heap.size w wr
 s : wr.heap.size = w.heap.size + 1
def newS (bound : Int) (v : Nat) : QuT := ⟨[], bound, List.replicate v (0, 1), List.replicate v 0, 0, 0⟩
/-- a queue, and more of where it lies -/
structure QuW (w : World) (bq : Nat) (x : QuX) (R : Nat → Prop) (st : QuT) : Prop where
 q : QuAt w bq x R st
 gr : x.gr < w.heap.size
 ga : x.ga < w.heap.size
 rga : ¬ R x.ga
 cap : x.cap ≤ 8192
def qne (st : QuT) (w : World) (e : Ending) (w' : World) : Prop :=
 (∃ bq x R, e = .returned (.tuple #[.pointer (some ⟨bq, 0, none⟩), .int .i64 0]) ∧ QuW w' bq x R st ∧ w.heap.size ≤ bq ∧ w.heap.size ≤ x.gr ∧ w.heap.size ≤ x.ga ∧ ∀ b, R b → w.heap.size ≤ b) ∧ Below w.heap.size w w'
def qnd (w : World) (e : Ending) (w' : World) : Prop := e = .returned (.tuple #[.pointer none, .int .i64 1]) ∧ Below w.heap.size w w'
theorem qox (bound : Int) (v : Nat) (w : World) (h1 : 0 ≤ bound) (h2 : bound ≤ 4096) (h3 : v ≤ 9) : Calls Tryz.prog 18 #[.int .i64 bound, .int .i64 v] w (qne (newS bound v) w) := by
 have b1 : decide (bound < 0) = false := decide_eq_false (by omega)
 have b2 : decide (4096 < bound) = false := decide_eq_false (by omega)
 have b3 : decide ((v : Int) < 0) = false := decide_eq_false (by omega)
 have b4 : decide (9 < v) = false := decide_eq_false (by omega)
 have hmk : (Instr.makeSlice 25 (.int .i64 ↑v) (.int .i64 ↑v)).run Tryz.prog w = .ok (.slice (some ⟨w.heap.size, 0, none⟩) v v) (w.alloc (.cells (madeCells #[.int .i64 0, .int .i64 0] (v * 2)) 82)) := qfS Tryz.underlying25 qoz (by decide) v (by omega) w
 have HST := Lib.hid (show NwS w v 0 (w.alloc (.cells (madeCells #[.int .i64 0, .int .i64 0] (v * 2)) 82)) from ⟨⟨_, qab w _, fun i hi => by rw [if_neg (by omega)]; exact qoF v i hi⟩, (Below.refl _ w).alloc (Nat.le_refl _) _, sz1 w _⟩)
 have HB := Lib.hid h2
 clear h1 h2
 go_enter Tryz.func18, Tryz.ntmps18
 go_wp2_with fail
 clear hmk b1 b2 b3 b4
 generalize w.alloc (.cells (madeCells #[.int .i64 0, .int .i64 0] (v * 2)) 82) = W1 at *
 go_loopw [7, 26] (fun _ i wr => ∃ k : Nat, i = .int .i64 ↑k ∧ k ≤ v ∧ NwS w v k wr) (fun _ i _ => v - (intOf i).toNat)
 case atStart => exact ⟨0, rfl, Nat.zero_le _, HST.out⟩
 case round =>
  obtain ⟨k, rfl, hk, hS⟩ := hrel
  have HS := Lib.hid hS; clear hS
  by_cases hlt : k < v
  ·obtain ⟨C, hC, hc⟩ := HS.out.c
   have c1 : wr.cell? ⟨w.heap.size, k * 2 + 1, none⟩ = some (.int .i64 0) := by rw [qaf hC, (hc k hlt).2, if_neg (by omega)]
   have f1 : wr.frozen? ⟨w.heap.size, k * 2 + 1, none⟩ = false := by simp [World.frozen?, hC]
   have HN := Lib.hid (show NwS w v (k + 1) (wr.setCell ⟨w.heap.size, k * 2 + 1, none⟩ (.int .i64 1)) from ⟨⟨_, qaZ hC _, fun i hi => by
    have hsz : k * 2 + 1 < C.size := (Array.getElem?_eq_some_iff.1 (hc k hlt).2).1
    refine ⟨?_, ?_⟩
    ·rw [Array.getElem?_setIfInBounds_ne (by omega)]; exact (hc i hi).1
    ·by_cases e : i = k
     ·subst e; rw [Array.getElem?_setIfInBounds_self_of_lt hsz, if_pos (by omega)]
     ·rw [Array.getElem?_setIfInBounds_ne (by omega), (hc i hi).2]
      by_cases h : i < k
      ·rw [if_pos h, if_pos (by omega)]
      ·rw [if_neg h, if_neg (by omega)]⟩, HS.out.b.setCell (Nat.le_refl _) _, by rw [← HS.out.s]; simp [World.setCell]⟩)
   clear hC hc
   go_wp2_with fail
   go_roundw
   case rel => exact ⟨k + 1, by go_num, by omega, HN.out⟩
   case measure => simp [intOf]; omega
  ·obtain rfl : k = v := by omega
   have hmk : (Instr.makeSlice 75 (.int .i64 ↑k) (.int .i64 ↑k)).run Tryz.prog wr = .ok (.slice (some ⟨wr.heap.size, 0, none⟩) k k) (wr.alloc (.cells (madeCells #[.int .i64 0] (k * 1)) 2)) := qfS Tryz.underlying75 qgr (by decide) k (by omega) wr
   rw [Nat.mul_one] at hmk
   go_wp2_with fail
   go_ret2
   have hF1 : Below wr.heap.size wr (wr.alloc (.cells (madeCells #[.int .i64 0] k) 2)) := (Below.refl _ wr).alloc (Nat.le_refl _) _
   have hg1 := qab wr (.cells (madeCells #[.int .i64 0] k) 2)
   have hs1 := sz1 wr (.cells (madeCells #[.int .i64 0] k) 2)
   generalize wr.alloc (.cells (madeCells #[.int .i64 0] k) 2) = W2 at *
   obtain ⟨C, hC, hc⟩ := HS.out.c
   have hws := HS.out.s
   have hF2 : Below W2.heap.size W2 (W2.alloc (.cells #[.slice none 0 0, .int .i64 0, .int .i64 0, .int .i64 bound, .slice (some ⟨w.heap.size, 0, none⟩) k k, .slice (some ⟨wr.heap.size, 0, none⟩) k k, .int .i64 0, .int .i64 0] 135)) := (Below.refl _ W2).alloc (Nat.le_refl _) _
   have hbx : (W2.alloc (.cells #[.slice none 0 0, .int .i64 0, .int .i64 0, .int .i64 bound, .slice (some ⟨w.heap.size, 0, none⟩) k k, .slice (some ⟨wr.heap.size, 0, none⟩) k k, .int .i64 0, .int .i64 0] 135)).heap[wr.heap.size + 1]? = _ := heap_top' hs1
   have hsz := sz1 W2 (.cells #[.slice none 0 0, .int .i64 0, .int .i64 0, .int .i64 bound, .slice (some ⟨w.heap.size, 0, none⟩) k k, .slice (some ⟨wr.heap.size, 0, none⟩) k k, .int .i64 0, .int .i64 0] 135)
   have hFF := HS.out.b.trans ((hF1.mono (by omega)).trans (hF2.mono (by omega)))
   have hgV := (hF2.block w.heap.size (by omega)).trans ((hF1.block w.heap.size (by omega)).trans hC)
   have hgA := (hF2.block wr.heap.size (by omega)).trans hg1
   generalize W2.alloc (.cells #[.slice none 0 0, .int .i64 0, .int .i64 0, .int .i64 bound, .slice (some ⟨w.heap.size, 0, none⟩) k k, .slice (some ⟨wr.heap.size, 0, none⟩) k k, .int .i64 0, .int .i64 0] 135) = W3 at *
   have hrp : ∀ j, j < k → (List.replicate k ((0, 1) : VtV))[j]! = (0, 1) := fun j hj => by rw [getElem!_pos _ j (by simpa using hj)]; simp
   have hrz : ∀ j, j < k → (List.replicate k (0 : Int))[j]! = 0 := fun j hj => by rw [getElem!_pos _ j (by simpa using hj)]; simp
   have hmi : ∀ j, j < k → (madeCells #[.int .i64 0] k)[j]? = some (.int .i64 0) := fun j hj => by have := qke k j hj; rwa [Nat.mul_one] at this
   refine ⟨⟨wr.heap.size + 1, ⟨wr.heap.size + 1, 0, 0, none, (some ⟨w.heap.size, 0, none⟩, k, k), wr.heap.size, k, some ⟨wr.heap.size, 0, none⟩⟩, (· = w.heap.size), rfl, ⟨⟨?_, ?_, ?_, ?_, ?_, ?_, ?_, ?_, ?_⟩, ?_, ?_, ?_, ?_⟩, ?_, ?_, ?_, ?_⟩, hFF⟩
   ·rw [hbx]; simp [newS]
   ·exact ⟨Nat.le_refl _, .inr ⟨rfl, rfl⟩, .inl ⟨rfl, rfl⟩, .inr rfl, fun j hj => absurd hj (by simp [newS])⟩
   ·refine ⟨by simp [newS], ⟨(fun h => by cases h), Nat.le_refl _⟩, fun _ => ⟨w.heap.size, 0, rfl, rfl, fun j hj i u hu => ?_⟩⟩
    have hj' : j < k := hj
    rw [show (newS bound k).vs = List.replicate k (0, 1) from rfl, hrp j hj'] at hu
    rw [Nat.zero_add, qaf hgV]
    have h2 := hc j hj'
    rw [if_pos hj'] at h2
    match i, hu with
    | 0, hu => rw [Nat.add_zero, h2.1]; exact hu
    | 1, hu => rw [h2.2]; exact hu
   ·refine .inr ⟨rfl, fun j hj => ?_, fun j hj => ?_⟩
    ·have hj' : j < k := by simpa [newS] using hj
     exact ⟨by rw [Nat.zero_add, qaf hgA, hmi j hj']; rfl, by simp [World.frozen?, hgA]⟩
    ·have hj' : j < k := by simpa [newS] using hj
     rw [qaf hgA, hmi j hj', show (newS bound k).acked = List.replicate k 0 from rfl, hrz j hj']
   ·simp [newS]
   ·rintro b rfl; omega
   ·show ¬ wr.heap.size + 1 = w.heap.size; omega
   ·intro h; exact absurd h (by simp)
   ·intro _; exact ⟨by show wr.heap.size ≠ _; omega, by show ¬ wr.heap.size = _; omega, by show wr.heap.size < _; omega, fun h => absurd h (by simp)⟩
   ·show wr.heap.size + 1 < _; omega
   ·show wr.heap.size < _; omega
   ·show ¬ wr.heap.size = _; omega
   ·show 0 ≤ 8192; omega
   ·omega
   ·show _ ≤ wr.heap.size + 1; omega
   ·show _ ≤ wr.heap.size; omega
   ·rintro b rfl; exact Nat.le_refl _
open Go.RowKit Go.MapKept Go.Maps
/-- what is so of every queue -/
structure QuInv (st : QuT) : Prop where
 bd : 0 ≤ st.bound ∧ st.bound ≤ 4096
 len : (st.L.length : Int) ≤ st.bound
 a9 : st.acked.length ≤ 9
 rise : qdb (zxs st.L)
 z1 : ∀ z ∈ zxs st.L, 1 ≤ z ∧ st.committed < z ∧ z ≤ st.last
 cl : 0 ≤ st.committed ∧ st.committed ≤ st.last
 ak : ∀ i, i < st.acked.length → 0 ≤ st.acked[i]! ∧ st.acked[i]! ≤ st.last
 sm : ∀ i, i < st.L.length → PrSm 1048576 st.L[i]!
 vw : ∀ v ∈ st.vs, wfI v.1
theorem QuInv.l4 {st : QuT} (I : QuInv st) : st.L.length ≤ 4096 := by have := I.bd; have := I.len; omega
theorem QuInv.a4 {st : QuT} (I : QuInv st) : st.acked.length ≤ 1024 := by have := I.a9; omega
theorem qmI (bound : Int) (v : Nat) (h1 : 0 ≤ bound) (h2 : bound ≤ 4096) (h3 : v ≤ 9) : QuInv (newS bound v) :=
 ⟨⟨h1, h2⟩, h1, by simpa [newS] using h3, List.Pairwise.nil, fun z hz => by simp [newS, zxs] at hz, ⟨Int.le_refl _, Int.le_refl _⟩, fun i hi => by
  have hi' : i < v := by simpa [newS] using hi
  rw [show (newS bound v).acked = List.replicate v 0 from rfl, getElem!_pos _ i (by simpa using hi')]; simp [newS], fun i hi => by simp [newS] at hi, fun x hx => by
  have hx' : x ∈ List.replicate v ((0, 1) : VtV) := hx
  rw [(List.mem_replicate.1 hx').2]; unfold wfI; omega⟩
theorem qmr {d : DlT} (h : qaQ d = 0) : 1 ≤ d.zx := by
 unfold qaQ at h
 by_cases h1 : (!qbt d.t.v.n.ty) = true
 ·rw [if_pos h1] at h; cases h
 ·rw [if_neg h1] at h
  by_cases h2 : d.zx < 1
  ·rw [if_pos h2] at h; cases h
  ·omega
theorem qhL (L : List PrT) (p : PrT) : zxs (L ++ [p]) = zxs L ++ [p.d.zx] := by simp [zxs]
/-- what it takes to be pushed -/
theorem qog {st : QuT} {p : PrT} (h : qaL st p = 0) : qaQ p.d = 0 ∧ p.r.xi = p.d.xi ∧ p.r.zx = p.d.zx ∧ st.last < p.d.zx ∧ (st.L.length : Int) < st.bound := by
 unfold qaL at h
 by_cases h1 : qaQ p.d ≠ 0
 ·rw [if_pos h1] at h; exact absurd h h1
 ·rw [if_neg h1] at h
  by_cases h2 : p.r.xi ≠ p.d.xi ∨ p.r.zx ≠ p.d.zx
  ·rw [if_pos h2] at h; cases h
  ·rw [if_neg h2] at h
   by_cases h3 : p.d.zx ≤ st.last
   ·rw [if_pos h3] at h; cases h
   ·rw [if_neg h3] at h
    by_cases h4 : st.bound ≤ st.L.length
    ·rw [if_pos h4] at h; cases h
    ·have h1' : qaQ p.d = 0 := Classical.byContradiction h1
     have h2a : p.r.xi = p.d.xi := Classical.byContradiction fun h => h2 (.inl h)
     have h2b : p.r.zx = p.d.zx := Classical.byContradiction fun h => h2 (.inr h)
     exact ⟨h1', h2a, h2b, by omega, by omega⟩
theorem qeq {st : QuT} (I : QuInv st) (p : PrT) (hp : PrSm 1048576 p) : QuInv (qbx st p) := by
 unfold qbx
 by_cases h : qaL st p = 0
 ·rw [if_pos h]
  obtain ⟨h1, _, _, h4, h5⟩ := qog h
  have hz := qmr h1
  refine ⟨I.bd, by simp; omega, I.a9, ?_, ?_, ⟨I.cl.1, by have := I.cl.2; show st.committed ≤ p.d.zx; omega⟩, fun i hi => ⟨(I.ak i hi).1, by have := (I.ak i hi).2; show st.acked[i]! ≤ p.d.zx; omega⟩, fun i hi => ?_, I.vw⟩
  ·show qdb (zxs (st.L ++ [p]))
   rw [qhL]
   exact List.pairwise_append.2 ⟨I.rise, List.pairwise_singleton _ _, fun a ha b hb => by
    rw [List.mem_singleton.1 hb]; have := (I.z1 a ha).2.2; omega⟩
  ·intro z hz2
   rw [qhL, List.mem_append] at hz2
   rcases hz2 with hz2 | hz2
   ·have := I.z1 z hz2; exact ⟨this.1, this.2.1, by show z ≤ p.d.zx; omega⟩
   ·rw [List.mem_singleton.1 hz2]; exact ⟨hz, by have := I.cl.2; show st.committed < p.d.zx; omega, Int.le_refl _⟩
  ·show PrSm 1048576 (st.L ++ [p])[i]!
   by_cases hi2 : i < st.L.length
   ·rw [qdx _ _ _ hi2]; exact I.sm i hi2
   ·have : i = st.L.length := by have : i < st.L.length + 1 := by simpa using hi
                                 omega
    subst this
    rw [qdv]; exact hp
 ·rw [if_neg h]; exact I
def ackT (st : QuT) (v z : Int) : QuT := if 0 ≤ v ∧ v < st.acked.length ∧ 0 ≤ z ∧ z ≤ st.last then ackS st v.toNat z else st
def ackC (st : QuT) (v z : Int) : Int := if 0 ≤ v ∧ v < st.acked.length ∧ 0 ≤ z ∧ z ≤ st.last then 0 else 1
theorem qhi {st : QuT} (I : QuInv st) (v : Nat) (z : Int) (h1 : z ≤ st.last) : QuInv (ackS st v z) := by
 refine ⟨I.bd, I.len, by show (ackL st.acked v z).length ≤ 9; rw [qfp]; exact I.a9, I.rise, I.z1, I.cl, fun i hi => ?_, I.sm, I.vw⟩
 have hi' : i < st.acked.length := by have h : i < (ackL st.acked v z).length := hi
                                      rwa [qfp] at h
 show 0 ≤ (ackL st.acked v z)[i]! ∧ (ackL st.acked v z)[i]! ≤ st.last
 have := I.ak i hi'
 rw [qok _ _ _ _ hi']
 split <;> omega
theorem qfj {st : QuT} (I : QuInv st) (v z : Int) : QuInv (ackT st v z) := by
 unfold ackT
 split
 ·rename_i h; exact qhi I _ _ h.2.2.2
 ·exact I
noncomputable def qbX (st : QuT) : QuT := if 0 < rdN st then qcc st else st
theorem qlo {st : QuT} (I : QuInv st) (h : 0 < st.L.length) : QuInv (qcc st) := by
 obtain ⟨L, bd, vs, ak, la, co⟩ := st
 cases L with
 | nil => simp at h
 | cons p r =>
  have hr := I.rise
  have hz : zxs (p :: r) = p.d.zx :: zxs r := rfl
  have hp := List.pairwise_cons.1 (show (p.d.zx :: zxs r).Pairwise (· < ·) from hr)
  have h0 := I.z1 p.d.zx (by rw [hz]; exact List.mem_cons_self)
  refine ⟨I.bd, by have := I.len; simp [qcc] at this ⊢; omega, I.a9, hp.2, fun z hz2 => ?_, ⟨?_, ?_⟩, I.ak, fun i hi => ?_, I.vw⟩
  ·have h1 := I.z1 z (by rw [hz]; exact List.mem_cons_of_mem _ hz2)
   exact ⟨h1.1, hp.1 z hz2, h1.2.2⟩
  ·show 0 ≤ p.d.zx; omega
  ·exact h0.2.2
  ·have := I.sm (i + 1) (by have h : i < r.length := hi
                            simp; omega)
   simpa [qcc] using this
theorem qeI {st : QuT} (I : QuInv st) : QuInv (qbX st) := by
 unfold qbX
 by_cases h : 0 < rdN st
 ·rw [if_pos h]; exact qlo I (Nat.lt_of_lt_of_le h (qdj st))
 ·rw [if_neg h]; exact I
theorem qfR {st : QuT} (I : QuInv st) : QuInv (qcx st) :=
 ⟨I.bd, by simpa [qcx] using I.bd.1, by simpa [qcx] using I.a9, List.Pairwise.nil, fun z hz => by simp [qcx, zxs] at hz, ⟨I.cl.1, Int.le_refl _⟩, fun i hi => by
  have hi' : i < st.acked.length := by simpa [qcx] using hi
  have h1 := I.ak i hi'; have h2 := I.cl
  rw [getElem!_pos _ i hi'] at h1
  show 0 ≤ (st.acked.map _)[i]! ∧ (st.acked.map _)[i]! ≤ st.committed
  rw [getElem!_pos _ i (by simpa using hi'), List.getElem_map]
  omega, fun i hi => by simp [qcx] at hi, I.vw⟩
/-- what a call leaves: the queue's own three blocks alone are written; what it holds besides is new -/
def QuStep (bq : Nat) (x : QuX) (R : Nat → Prop) (st' : QuT) (w w' : World) : Prop :=
 (∃ x' R', QuW w' bq x' R' st' ∧ x'.ga = x.ga ∧ (x'.gr = x.gr ∨ w.heap.size ≤ x'.gr) ∧ ∀ b, R' b → R b ∨ w.heap.size ≤ b) ∧ Fr [bq, x.gr, x.ga] w w'
section
variable {w w' : World} {bq : Nat} {x : QuX} {R : Nat → Prop} {st : QuT}
theorem QuW.lt (H : QuW w bq x R st) : bq < w.heap.size := (Array.getElem?_eq_some_iff.1 H.q.box).1
theorem QuW.below (H : QuW w bq x R st) (hb : Below w.heap.size w w') : QuW w' bq x R st := ⟨H.q.below hb, Nat.lt_of_lt_of_le H.gr hb.size, Nat.lt_of_lt_of_le H.ga hb.size, H.rga, H.cap⟩
theorem QuW.fr {own : List Nat} (H : QuW w bq x R st) (hf : Fr own w w') (hn : ∀ g ∈ own, g ≠ bq ∧ g ≠ x.gr ∧ g ≠ x.ga ∧ ¬ R g) : QuW w' bq x R st :=
 ⟨H.q.fr hf (fun h => (hn _ h).1 rfl) (fun _ h => (hn _ h).2.1 rfl) (fun _ h => (hn _ h).2.2.1 rfl) (fun b hb h => (hn b h).2.2.2 hb), Nat.lt_of_lt_of_le H.gr hf.size, Nat.lt_of_lt_of_le H.ga hf.size, H.rga, H.cap⟩
theorem QuAt.norm (H : QuAt w bq x R st) (h0 : x.cap = 0) (g : Nat) : QuAt w bq { x with gr := g } R st := by
 have h1 := H.ring.le
 refine ⟨H.box, ⟨H.ring.le, H.ring.fst, ?_, .inr h0, fun j hj => absurd hj (by omega)⟩, H.vs, H.ack, H.acl, H.lt, H.nq, fun h => absurd h (by show ¬ 0 < x.cap; omega), fun h => ⟨(H.nga h).1, (H.nga h).2.1, (H.nga h).2.2.1, fun h => absurd h (by show ¬ 0 < x.cap; omega)⟩⟩
 rcases H.ring.at_ with h | h
 ·exact .inl h
 ·omega
theorem QuStep.same (H : QuW w bq x R st) (hb : Below w.heap.size w w') : QuStep bq x R st w w' := ⟨⟨x, R, H.below hb, rfl, .inl rfl, fun _ h => .inl h⟩, Fr.of_below hb⟩
def qoU (bq : Nat) (x : QuX) (R : Nat → Prop) (st : QuT) (p : PrT) (w : World) (e : Ending) (w' : World) : Prop := e = .returned (.int .i64 (qaL st p)) ∧ QuStep bq x R (qbx st p) w w'
theorem qmV {Rp : Nat → Prop} {h : PrH} {p : PrT} (H : QuW w bq x R st) (I : QuInv st) (hp : PrAt w Rp h p) (hE : Env w) (hsm : PrSm 1048576 p) :
  Calls Tryz.prog 19 #[.pointer (some ⟨bq, 0, none⟩), prV h] w (qoU bq x R st p w) := by
 refine (qlH bq x R Rp st h p w H.q hp hE hsm I.l4 H.cap H.gr).mono ?_
 rintro e w' ⟨he, ⟨x', R', hN, hc⟩, hf⟩
 have hga' : x'.ga < w'.heap.size := by rw [hN.ga.1]; exact Nat.lt_of_lt_of_le H.ga hf.size
 have hrga : ¬ R' x'.ga := by
  rw [hN.ga.1]; intro h
  rcases hN.new _ h with h | h
  ·exact H.rga h
  ·have := H.ga; omega
 by_cases h0 : 0 < x'.cap
 ·exact ⟨he, ⟨x', R', ⟨hN.at_, (hN.at_.ngr h0).2.2, hga', hrga, hc⟩, hN.ga.1, hN.gr, hN.new⟩, hf⟩
 ·exact ⟨he, ⟨{ x' with gr := x.gr }, R', ⟨hN.at_.norm (by omega) x.gr, Nat.lt_of_lt_of_le H.gr hf.size, hga', hrga, hc⟩, hN.ga.1, .inl rfl, hN.new⟩, hf⟩
def AckW (bq : Nat) (x : QuX) (R : Nat → Prop) (st : QuT) (v z : Int) (w : World) (e : Ending) (w' : World) : Prop :=
 e = .returned (.tuple #[.int .i64 ((rdN (ackT st v z) : Int) - rdN st), .int .i64 (ackC st v z)]) ∧ QuStep bq x R (ackT st v z) w w'
theorem ackW (v z : Int) (H : QuW w bq x R st) (I : QuInv st) : Calls Tryz.prog 20 #[.pointer (some ⟨bq, 0, none⟩), .int .i64 v, .int .i64 z] w (AckW bq x R st v z w) := by
 by_cases h : 0 ≤ v ∧ v < st.acked.length ∧ 0 ≤ z ∧ z ≤ st.last
 ·obtain ⟨k, rfl⟩ : ∃ k : Nat, v = (k : Int) := ⟨v.toNat, by omega⟩
  have e1 : ackT st k z = ackS st k z := by unfold ackT; rw [if_pos h, Int.toNat_natCast]
  have e2 : ackC st k z = 0 := if_pos h
  refine (qoa bq x R st k z w H.q (by omega) h.2.2.1 h.2.2.2 I.vw I.a4 I.rise I.l4 H.cap).mono ?_
  rintro e w' ⟨he, hq, hf⟩
  refine ⟨by rw [he, e1, e2], ⟨x, R, ⟨by rw [e1]; exact hq, Nat.lt_of_lt_of_le H.gr hf.size, Nat.lt_of_lt_of_le H.ga hf.size, H.rga, H.cap⟩, rfl, .inl rfl, fun _ h => .inl h⟩, ?_⟩
  exact ⟨hf.os, hf.tape, hf.output, hf.size, fun g hg hn => hf.block g hg (by simp at hn ⊢; exact hn.2.2)⟩
 ·have e1 : ackT st v z = st := if_neg h
  have e2 : ackC st v z = 1 := if_neg h
  refine (qnk bq x R st v z w H.q (by unfold qhA; omega)).mono ?_
  rintro e w' ⟨he, hb⟩
  refine ⟨by rw [he, e1, e2, Int.sub_self], ?_⟩
  rw [e1]; exact QuStep.same H hb
def qmQ (bq : Nat) (x : QuX) (R : Nat → Prop) (st : QuT) (w : World) (e : Ending) (w' : World) : Prop :=
 (∃ h, e = .returned (.tuple #[prV h, .bool (decide (0 < rdN st))]) ∧ (0 < rdN st → PrAt w' R h st.L[0]!) ∧ (¬ 0 < rdN st → h = default)) ∧ QuStep bq x R (qbX st) w w'
theorem qjy (H : QuW w bq x R st) (I : QuInv st) : Calls Tryz.prog 22 #[.pointer (some ⟨bq, 0, none⟩)] w (qmQ bq x R st w) := by
 by_cases h : 0 < rdN st
 ·have e1 : qbX st = qcc st := if_pos h
  refine (qkz bq x R st w H.q I.vw I.a4 I.rise I.l4 H.cap h).mono ?_
  rintro e w' ⟨⟨hh, he, hp, hq⟩, hf⟩
  refine ⟨⟨hh, by rw [he, decide_eq_true h], fun _ => hp, fun h' => absurd h h'⟩, ⟨x.next, R, ⟨by rw [e1]; exact hq, Nat.lt_of_lt_of_le H.gr hf.size, Nat.lt_of_lt_of_le H.ga hf.size, H.rga, H.cap⟩, rfl, .inl rfl, fun _ h => .inl h⟩, ?_⟩
  exact ⟨hf.os, hf.tape, hf.output, hf.size, fun g hg hn => hf.block g hg (by simp at hn ⊢; exact ⟨hn.1, hn.2.1⟩)⟩
 ·have e1 : qbX st = st := if_neg h
  refine (qln bq x R st w H.q I.vw I.a4 I.rise I.l4 H.cap (by omega)).mono ?_
  rintro e w' ⟨he, hb⟩
  refine ⟨⟨default, by rw [he, decide_eq_false h], fun h' => absurd h' h, fun _ => rfl⟩, ?_⟩
  rw [e1]; exact QuStep.same H hb
def qoN (bq : Nat) (x : QuX) (R : Nat → Prop) (st : QuT) (w : World) (e : Ending) (w' : World) : Prop :=
 (∃ (A : Option Addr) (c : Nat) (Hs : List PrH), e = .returned (.slice A st.L.length c) ∧ w'.ownsRow w.heap.size 63 45 (.slice A st.L.length c) st.L.length (Hs.flatMap qah) ∧ Hs.length = st.L.length ∧ (∀ j, j < st.L.length → PrAt w' R Hs[j]! st.L[j]!)) ∧ QuStep bq x R (qcx st) w w'
theorem qoJ (H : QuW w bq x R st) (I : QuInv st) : Calls Tryz.prog 25 #[.pointer (some ⟨bq, 0, none⟩)] w (qoN bq x R st w) := by
 refine (qkJ bq x R st w H.q I.l4 H.cap H.gr H.ga I.a4 H.rga).mono ?_
 rintro e w' ⟨⟨A, c, Hs, x', he, hr, hl, hp, hx, hq⟩, hf⟩
 refine ⟨⟨A, c, Hs, he, hr, hl, hp⟩, ⟨x', R, ⟨hq, ?_, ?_, ?_, ?_⟩, hx.2.1, .inl hx.1, fun _ h => .inl h⟩, hf⟩
 ·rw [hx.1]; exact Nat.lt_of_lt_of_le H.gr hf.size
 ·rw [hx.2.1]; exact Nat.lt_of_lt_of_le H.ga hf.size
 ·rw [hx.2.1]; exact H.rga
 ·rw [hx.2.2.2]; exact H.cap
theorem qou (H : QuW w bq x R st) (I : QuInv st) : Calls Tryz.prog 21 #[.pointer (some ⟨bq, 0, none⟩)] w (ChsP (rdN st) w) := qdg bq x R st w H.q I.vw I.a4 I.rise I.l4 H.cap
/-- another queue is as it was -/
theorem QuW.other {bq2 : Nat} {x2 : QuX} {R2 : Nat → Prop} {st2 st' : QuT} (H2 : QuW w bq2 x2 R2 st2) (hs : QuStep bq x R st' w w') (hn : ∀ g ∈ [bq, x.gr, x.ga], g ≠ bq2 ∧ g ≠ x2.gr ∧ g ≠ x2.ga ∧ ¬ R2 g) : QuW w' bq2 x2 R2 st2 := H2.fr hs.2 hn
end
open Go.RowKit Go.MapKept Go.Maps
theorem qcW (k : Int) (w : World) : Calls Tryz.prog 23 #[.int .i64 k] w fun e w' => e = .returned (.int .i64 k) ∧ w = w' := by
 go_enter Tryz.func23, Tryz.ntmps23
 go_wp2_with fail
 go_ret
 exact ⟨rfl, rfl⟩
def qlq (z : Int) : PrH := ⟨⟨0, 0, z, 0, ⟨⟨-1, ByteArray.empty, 0, 0, 0, false, 0, 0, 0, 0, -1⟩, (none, 0, 0), (none, 0, 0), (none, 0, 0), (none, 0, 0), (none, 0, 0)⟩⟩, ⟨0, z, -1, default⟩⟩
def qaV (z : Int) : PrT := ⟨⟨0, 0, z, 0, .mk ⟨⟨-1, ByteArray.empty, 0, 0, 0, false, 0, 0, 0, 0, -1⟩, [], [], [], []⟩ []⟩, ⟨0, z, -1, .mk ⟨default, [], [], [], []⟩ []⟩⟩
theorem qee (z : Int) (w : World) (R : Nat → Prop) : PrAt w R (qlq z) (qaV z) := by
 refine ⟨⟨⟨rfl, rfl, rfl, rfl⟩, ?_⟩, ⟨⟨rfl, rfl, rfl⟩, ?_⟩⟩
 ·exact .mk _ _ [] (fun _ => default) 0 0 ⟨rfl, SlR.nil_, SlR.nil_, SlR.nil_, SlR.nil_⟩ rfl ⟨fun _ => ⟨rfl, rfl⟩, Nat.le_refl _⟩ (fun h => absurd h (by show ¬ 0 < 0; omega)) (fun j hj => absurd hj (by show ¬ j < 0; omega)) (fun j hj => absurd hj (by show ¬ j < 0; omega))
 ·exact .mk _ _ [] (fun _ => default) 0 0 ⟨rfl, SlR.nil_, SlR.nil_, SlR.nil_, SlR.nil_⟩ rfl ⟨fun _ => ⟨rfl, rfl⟩, Nat.le_refl _⟩ (fun h => absurd h (by show ¬ 0 < 0; omega)) (fun j hj => absurd hj (by show ¬ j < 0; omega)) (fun j hj => absurd hj (by show ¬ j < 0; omega))
theorem z32 : in32 0 := by unfold in32; omega
theorem m32 : in32 (-1) := by unfold in32; omega
theorem z64 : in64 0 := by unfold in64; omega
theorem qej (z : Int) (h1 : -9223372036854775808 ≤ z) (h2 : z ≤ 9223372036854775807) : PrSm 1048576 (qaV z) := by
 refine ⟨⟨⟨z64, z32, ⟨h1, h2⟩, z64⟩, .mk _ _ ?_ (fun j hj => absurd hj (by simp))⟩, ⟨⟨z32, ⟨h1, h2⟩, m32⟩, .mk _ _ ?_ (fun j hj => absurd hj (by simp))⟩⟩
 ·refine ⟨⟨m32, z64, z32, z32, z64, z64, z64, z32, m32⟩, by decide, by decide, by decide, by decide, by decide, by decide, ?_, ?_, ?_⟩ <;> exact fun j hj => absurd hj (by simp)
 ·refine ⟨⟨z32, z32, z32, z64, z32⟩, by decide, by decide, by decide, by decide, by decide, by decide, ?_, ?_, ?_⟩ <;> exact fun j hj => absurd hj (by simp)
theorem qil (z : Int) (h : 1 ≤ z) : qaQ (qaV z).d = 0 := by
 have e1 : qbt (-1) = true := by decide
 have e2 : ownE z (qaV z).d.t.v 0 = 0 := by
  have g1 : qbH (qaV z).d.t.v = false := by rfl
  have g2 : qbz (qaV z).d.t.v 0 = false := by rfl
  have g3 : oddB z (qaV z).d.t.v 0 = false := by
   unfold oddB
   have s1 : qbJ (qaV z).d.t.v 0 = false := by rfl
   rw [s1]
   simp [qaV, Tr.v]
  unfold ownE
  rw [g1, g2, g3]; rfl
 unfold qaQ
 rw [show (qaV z).d.t.v.n.ty = -1 from rfl, e1, show (qaV z).d.zx = z from rfl, show (qaV z).d.t.subs = [] from rfl, if_neg (by simp), if_neg (by omega)]
 rw [show ([] : List TxT).length = 0 from rfl, e2]; rfl
def qoL (z : Int) (w : World) (e : Ending) (w' : World) : Prop := e = .returned (prV (qlq z)) ∧ Below w.heap.size w w'
theorem qdK (z : Int) (w : World) : Calls Tryz.prog 62 #[.int .i64 z] w (qoL z w) := by
 go_enter Tryz.func62, Tryz.ntmps62
 go_wp2_with (first
  | (apply qai 63 63; exact rfl; exact rfl; exact rfl; (first | (with_reducible rfl) | (exact sz1 _ _) | (exact sz2 _ _ _) | (exact sz3 _ _ _ _)); exact rfl; exact qaI; exact rfl; (first | exact qbo _ | simp [Value.oneCell']))
  | fail)
 exact qaD rfl rfl (qab w _) qbq rfl qaI rfl ⟨rfl, (Below.refl _ w).alloc (Nat.le_refl _) _⟩
open Go.RowKit Go.MapKept Go.Maps
/-- a queue that was made behind w0 -/
structure QuI (w0 w : World) (bq : Nat) (st : QuT) : Prop where
 i : ∃ x R, QuW w bq x R st ∧ w0.heap.size ≤ bq ∧ w0.heap.size ≤ x.gr ∧ w0.heap.size ≤ x.ga ∧ ∀ b, R b → w0.heap.size ≤ b
 b : Below w0.heap.size w0 w
 inv : QuInv st
section
variable {w0 w w' : World} {bq : Nat} {st : QuT}
theorem QuI.later (H : QuI w0 w bq st) (hb : Below w.heap.size w w') : QuI w0 w' bq st := by
 obtain ⟨x, R, hw, h⟩ := H.i
 exact ⟨⟨x, R, hw.below hb, h⟩, H.b.trans (hb.mono H.b.size), H.inv⟩
theorem QuI.env (H : QuI w0 w bq st) (hE : Env w0) : Env w := hE.below (Nat.le_refl _) H.b
theorem QuI.step {x : QuX} {R : Nat → Prop} {st' : QuT} (hx : w0.heap.size ≤ bq ∧ w0.heap.size ≤ x.gr ∧ w0.heap.size ≤ x.ga ∧ ∀ b, R b → w0.heap.size ≤ b) (hb : Below w0.heap.size w0 w) (I : QuInv st') (hs : QuStep bq x R st' w w') : QuI w0 w' bq st' := by
 obtain ⟨⟨x', R', h1, h2, h3, h4⟩, h5⟩ := hs
 refine ⟨⟨x', R', h1, hx.1, ?_, by rw [h2]; exact hx.2.2.1, fun b hb' => ?_⟩, hb.trans (h5.below hb.size (fun g hg => ?_)), I⟩
 ·rcases h3 with h | h
  ·rw [h]; exact hx.2.1
  ·exact Nat.le_trans hb.size h
 ·rcases h4 b hb' with h | h
  ·exact hx.2.2.2 b h
  ·exact Nat.le_trans hb.size h
 ·simp at hg
  rcases hg with rfl | rfl | rfl
  ·exact hx.1
  ·exact hx.2.1
  ·exact hx.2.2.1
def qfV (w0 : World) (bq : Nat) (st : QuT) (p : PrT) (e : Ending) (w' : World) : Prop := e = .returned (.int .i64 (qaL st p)) ∧ QuI w0 w' bq (qbx st p)
theorem qha {Rp : Nat → Prop} {h : PrH} {p : PrT} (H : QuI w0 w bq st) (hE : Env w0) (hp : PrAt w Rp h p) (hsm : PrSm 1048576 p) : Calls Tryz.prog 19 #[.pointer (some ⟨bq, 0, none⟩), prV h] w (qfV w0 bq st p) := by
 obtain ⟨x, R, hw, hx⟩ := H.i
 refine (qmV hw H.inv hp (H.env hE) hsm).mono ?_
 rintro e w' ⟨he, hs⟩
 exact ⟨he, QuI.step hx H.b (qeq H.inv p hsm) hs⟩
def AckI (w0 : World) (bq : Nat) (st : QuT) (v z : Int) (e : Ending) (w' : World) : Prop := e = .returned (.tuple #[.int .i64 ((rdN (ackT st v z) : Int) - rdN st), .int .i64 (ackC st v z)]) ∧ QuI w0 w' bq (ackT st v z)
theorem ackI (v z : Int) (H : QuI w0 w bq st) : Calls Tryz.prog 20 #[.pointer (some ⟨bq, 0, none⟩), .int .i64 v, .int .i64 z] w (AckI w0 bq st v z) := by
 obtain ⟨x, R, hw, hx⟩ := H.i
 refine (ackW v z hw H.inv).mono ?_
 rintro e w' ⟨he, hs⟩
 exact ⟨he, QuI.step hx H.b (qfj H.inv v z) hs⟩
noncomputable def comZ (st : QuT) : Int := if 0 < rdN st then st.L[0]!.d.zx else 0
def qmT (w0 : World) (bq : Nat) (st : QuT) (e : Ending) (w' : World) : Prop := (∃ h, e = .returned (.tuple #[prV h, .bool (decide (0 < rdN st))]) ∧ h.d.zx = comZ st) ∧ QuI w0 w' bq (qbX st)
theorem qpe (H : QuI w0 w bq st) : Calls Tryz.prog 22 #[.pointer (some ⟨bq, 0, none⟩)] w (qmT w0 bq st) := by
 obtain ⟨x, R, hw, hx⟩ := H.i
 refine (qjy hw H.inv).mono ?_
 rintro e w' ⟨⟨h, he, h1, h2⟩, hs⟩
 refine ⟨⟨h, he, ?_⟩, QuI.step hx H.b (qeI H.inv) hs⟩
 unfold comZ
 by_cases h0 : 0 < rdN st
 ·rw [if_pos h0]; exact (h1 h0).1.1.2.2.1.symm
 ·rw [if_neg h0, h2 h0]; rfl
def ValI (w0 : World) (bq : Nat) (st : QuT) (v : Value) (e : Ending) (w' : World) : Prop := e = .returned v ∧ QuI w0 w' bq st
theorem lenI (H : QuI w0 w bq st) : Calls Tryz.prog 26 #[.pointer (some ⟨bq, 0, none⟩)] w (ValI w0 bq st (.int .i64 st.L.length)) := by
 obtain ⟨x, R, hw, hx⟩ := H.i
 refine (qcL bq x R st w hw.q).mono ?_
 rintro e w' ⟨he, q, rfl⟩
 exact ⟨he, H.later (qbl w q)⟩
def NewI (w0 : World) (st : QuT) (e : Ending) (w' : World) : Prop := ∃ bq, e = .returned (.tuple #[.pointer (some ⟨bq, 0, none⟩), .int .i64 0]) ∧ QuI w0 w' bq st
theorem newI (bound : Int) (v : Nat) (w : World) (h1 : 0 ≤ bound) (h2 : bound ≤ 4096) (h3 : v ≤ 9) (hb : Below w0.heap.size w0 w) : Calls Tryz.prog 18 #[.int .i64 bound, .int .i64 v] w (NewI w0 (newS bound v)) := by
 refine (qox bound v w h1 h2 h3).mono ?_
 rintro e w' ⟨⟨bq, x, R, he, hw, h4, h5, h6, h7⟩, hb'⟩
 have hs := hb.size
 exact ⟨bq, he, ⟨⟨x, R, hw, by omega, by omega, by omega, fun b h => Nat.le_trans hs (h7 b h)⟩, hb.trans (hb'.mono hs), qmI bound v h1 h2 h3⟩⟩
end
theorem qdl (st : QuT) (z : Int) (h : 1 ≤ z) : qaL st (qaV z) = if z ≤ st.last then 150 else if st.bound ≤ st.L.length then 3 else 0 := by
 unfold qaL
 rw [qil z h, if_neg (by simp), if_neg (by simp [qaV])]
 rfl
def lv1 : QuT := ⟨[qaV 5], 2, List.replicate 3 (0, 1), List.replicate 3 0, 5, 0⟩
def lv3 : QuT := ⟨[qaV 5, qaV 7], 2, List.replicate 3 (0, 1), List.replicate 3 0, 7, 0⟩
def lva : QuT := ⟨[qaV 5, qaV 7], 2, List.replicate 3 (0, 1), [7, 0, 0], 7, 0⟩
def lvb : QuT := ⟨[qaV 5, qaV 7], 2, List.replicate 3 (0, 1), [7, 5, 0], 7, 0⟩
def lvc : QuT := ⟨[qaV 7], 2, List.replicate 3 (0, 1), [7, 5, 0], 7, 5⟩
theorem qnc : qaL (newS 2 3) (qaV 5) = 0 := by rw [qdl _ _ (by decide)]; decide
theorem qoX : qbx (newS 2 3) (qaV 5) = lv1 := by unfold qbx; rw [if_pos qnc]; rfl
theorem qnf : qaL lv1 (qaV 5) = 150 := by rw [qdl _ _ (by decide)]; decide
theorem qph : qbx lv1 (qaV 5) = lv1 := by unfold qbx; rw [if_neg (by rw [qnf]; decide)]
theorem qmR : qaL lv1 (qaV 7) = 0 := by rw [qdl _ _ (by decide)]; decide
theorem qoS : qbx lv1 (qaV 7) = lv3 := by unfold qbx; rw [if_pos qmR]; rfl
theorem qmS : qaL lv3 (qaV 8) = 3 := by rw [qdl _ _ (by decide)]; decide
theorem qpc : qbx lv3 (qaV 8) = lv3 := by unfold qbx; rw [if_neg (by rw [qmS]; decide)]
theorem lv_a : ackT lv3 0 7 = lva := by rfl
theorem qpg : ackC lv3 0 7 = 0 := by rfl
theorem lv_b : ackT lva 1 5 = lvb := by rfl
theorem qpd : ackC lva 1 5 = 0 := by rfl
theorem qoV : rdN lv3 = 0 := by
 show qbU [5, 7] (qbE (List.replicate 3 (0, 1)) (List.replicate 3 0) 7) = 0
 decide
theorem qmW : rdN lva = 0 := by
 show qbU [5, 7] (qbE (List.replicate 3 (0, 1)) [7, 0, 0] 7) = 0
 decide
theorem qhc : rdN lvb = 1 := by
 show qbU [5, 7] (qbE (List.replicate 3 (0, 1)) [7, 5, 0] 7) = 1
 decide
theorem qng : rdN lvc = 0 := by
 show qbU [7] (qbE (List.replicate 3 (0, 1)) [7, 5, 0] 7) = 0
 decide
theorem lv_c : qbX lvb = lvc := by unfold qbX; rw [qhc]; rfl
theorem lv_d : qbX lvc = lvc := by unfold qbX; rw [qng]; rfl
theorem qpj : comZ lvb = 5 := by unfold comZ; rw [qhc]; rfl
theorem qkd (w : World) (hE : Env w) : Calls Tryz.prog 17 #[] w (RetB w true) := by
 have HE := Lib.hid hE; clear hE
 have HNW := Lib.hid (show Calls Tryz.prog 18 #[.int .i64 2, .int .i64 3] w (NewI w (newS 2 3)) from newI 2 3 w (by decide) (by decide) (by decide) (Below.refl _ w))
 go_enter Tryz.func17, Tryz.ntmps17
 go_wp2_with fail
 refine HNW.out.mono ?_
 rintro e w1 ⟨bq, rfl, h1⟩
 have H1 := Lib.hid h1; clear h1 HNW
 go_wp2_with fail
 refine (qcW _ _).mono ?_
 rintro e w' ⟨rfl, rfl⟩
 go_wp2_with fail
 refine (qdK 5 _).mono ?_
 rintro e w2 ⟨rfl, hb⟩
 have H2 := Lib.hid (H1.out.later hb); clear hb H1
 have HP := Lib.hid (qha H2.out HE.out (qee 5 w2 (fun _ => False)) (qej 5 (by decide) (by decide)))
 unfold qfV at HP
 rw [qnc, qoX] at HP
 go_wp2_with fail
 refine HP.out.mono ?_
 rintro e w3 ⟨rfl, h3⟩
 have H3 := Lib.hid h3; clear h3 HP H2
 go_wp2_with fail
 refine (qdK 5 _).mono ?_
 rintro e w4 ⟨rfl, hb⟩
 have H4 := Lib.hid (H3.out.later hb); clear hb H3
 have HP := Lib.hid (qha H4.out HE.out (qee 5 w4 (fun _ => False)) (qej 5 (by decide) (by decide)))
 unfold qfV at HP
 rw [qnf, qph] at HP
 go_wp2_with fail
 refine HP.out.mono ?_
 rintro e w5 ⟨rfl, h5⟩
 have H5 := Lib.hid h5; clear h5 HP H4
 go_wp2_with fail
 refine (qdK 7 _).mono ?_
 rintro e w6 ⟨rfl, hb⟩
 have H6 := Lib.hid (H5.out.later hb); clear hb H5
 have HP := Lib.hid (qha H6.out HE.out (qee 7 w6 (fun _ => False)) (qej 7 (by decide) (by decide)))
 unfold qfV at HP
 rw [qmR, qoS] at HP
 go_wp2_with fail
 refine HP.out.mono ?_
 rintro e w7 ⟨rfl, h7⟩
 have H7 := Lib.hid h7; clear h7 HP H6
 go_wp2_with fail
 refine (qdK 8 _).mono ?_
 rintro e w8 ⟨rfl, hb⟩
 have H8 := Lib.hid (H7.out.later hb); clear hb H7
 have HP := Lib.hid (qha H8.out HE.out (qee 8 w8 (fun _ => False)) (qej 8 (by decide) (by decide)))
 unfold qfV at HP
 rw [qmS, qpc] at HP
 go_wp2_with fail
 refine HP.out.mono ?_
 rintro e w9 ⟨rfl, h9⟩
 have H9 := Lib.hid h9; clear h9 HP H8
 have HA := Lib.hid (ackI 0 7 H9.out)
 unfold AckI at HA
 rw [lv_a, qpg, qoV, qmW] at HA
 go_wp2_with fail
 refine HA.out.mono ?_
 rintro e w10 ⟨rfl, h10⟩
 have H10 := Lib.hid h10; clear h10 HA H9
 have HA := Lib.hid (ackI 1 5 H10.out)
 unfold AckI at HA
 rw [lv_b, qpd, qhc, qmW] at HA
 go_wp2_with fail
 refine HA.out.mono ?_
 rintro e w11 ⟨rfl, h11⟩
 have H11 := Lib.hid h11; clear h11 HA H10
 have HC := Lib.hid (qpe H11.out)
 unfold qmT at HC
 rw [qhc, lv_c, qpj] at HC
 go_wp2_with fail
 refine HC.out.mono ?_
 rintro e w12 ⟨⟨hh, rfl, hz⟩, h12⟩
 have H12 := Lib.hid h12; have HZ := Lib.hid hz; clear h12 HC H11 hz
 have hb1 : Below w12.heap.size w12 (w12.alloc (.cells (rwPr hh) 63)) := (Below.refl _ w12).alloc (Nat.le_refl _) _
 have HG := Lib.hid (qab w12 (.cells (rwPr hh) 63))
 have HS := Lib.hid (sz1 w12 (.cells (rwPr hh) 63))
 obtain ⟨x, R, hw12, hx⟩ := H12.out.i
 have HN12 := Lib.hid (show w12.heap.size ∉ [bq, x.gr, x.ga] by have h1 := hw12.lt; have h2 := hw12.gr; have h3 := hw12.ga; simp; omega)
 have HW := Lib.hid (hw12.below hb1)
 have HB := Lib.hid (H12.out.b.trans (hb1.mono H12.out.b.size))
 have HX := Lib.hid hx; have HI := Lib.hid H12.out.inv
 clear hb1 H12 hw12 hx
 go_upto_region 8 with (first
  | (apply qai 63 63; exact rfl; exact rfl; exact rfl; (first | (with_reducible rfl) | (exact sz1 _ _) | (exact sz2 _ _ _) | (exact sz3 _ _ _ _)); exact rfl; exact qaI; exact rfl; (first | exact qbo _ | simp [Value.oneCell']))
  | fail)
 generalize w12.alloc (.cells (rwPr hh) 63) = W at *
 have HC := Lib.hid (qjy HW.out HI.out)
 unfold qmQ at HC
 rw [qng, lv_d] at HC
 go_wp2_with fail
 refine HC.out.mono ?_
 rintro e w13 ⟨⟨h2, rfl, -, -⟩, hs13⟩
 have hlt : w12.heap.size < W.heap.size := by have := HS.out; omega
 have hc13 : w13.cell? ⟨w12.heap.size, 2, none⟩ = some (.int .i64 5) := by
  rw [hs13.2.cell (p := ⟨w12.heap.size, 2, none⟩) hlt HN12.out, qaf HG.out, ← HZ.out]; rfl
 have H13 := Lib.hid (QuI.step HX.out HB.out HI.out hs13)
 have hb2 : Below w13.heap.size w13 (w13.alloc (.cells (rwPr h2) 63)) := (Below.refl _ w13).alloc (Nat.le_refl _) _
 have hc14 := qaC hc13 hb2
 have H14 := Lib.hid (H13.out.later hb2)
 clear hs13 hlt hc13 hb2 H13 HC HW HB HX HI HN12 HG HS
 go_upto_region 9 with (first
  | (apply qai 63 63; exact rfl; exact rfl; exact rfl; (first | (with_reducible rfl) | (exact sz1 _ _) | (exact sz2 _ _ _) | (exact sz3 _ _ _ _)); exact rfl; exact qaI; exact rfl; (first | exact qbo _ | simp [Value.oneCell']))
  | fail)
 generalize w13.alloc (.cells (rwPr h2) 63) = W2 at *
 have HL := Lib.hid (lenI H14.out)
 go_wp2_with ((with_reducible refine (qcW _ _).mono ?_); rintro e w' ⟨rfl, rfl⟩)
 refine HL.out.mono ?_
 rintro e w15 ⟨rfl, h15⟩
 have H15 := Lib.hid h15; clear h15 HL
 go_wp2_with fail
 go_ret
 exact RetB.mk H15.out.b rfl
open Go.RowKit Go.MapKept Go.Maps
theorem qgJ {α : Type} [Inhabited α] {enc : α → List Value} {ST T : TypeId} {k bs : Nat} {z : Value} (E : Elem enc ST T k bs z) {ops : Array Oper} {o : Oper} {a : Act} {K : Act → World → Prop} {Q : Exit → Act → World → Prop} {E0 : Prop} {w : World} (hg : o.guard = none) (s x : Operand)
  (ho : o.op = .call { callee := .builtin .append, args := #[s, x], argTypes := #[ST, ST] }) (base : Nat) (A : Option Addr) (n c : Nat) (l : List α) (hs : a.eval s = .slice A n c)
  (hown : w.ownsRow base T k (.slice A n c) n (l.flatMap enc)) (a0 : Addr) (m c' : Nat) (l' : List α) (hx : a.eval x = .slice (some a0) m c') (hsl : Sl w w.heap.size enc k (some a0) m l') (hn : n + m ≤ 16777216) (hbase : base ≤ w.heap.size)
  (h : ∀ A2 c2 w', w'.ownsRow base T k (.slice A2 (n + m) c2) (n + m) ((l ++ l').flatMap enc) → Below base w w' → K (a.put o.dst (.slice A2 (n + m) c2)) w') : if Region.wanted o (yielded ops a.tmps) = true then Oper.wp Tryz.prog o a w K Q else E0 := by
 have hw : Region.wanted o (yielded ops a.tmps) = true := by simp [Region.wanted, hg]
 rw [if_pos hw]
 obtain ⟨i0, hi0, hz0, hz1, hz2⟩ := qcj E.info
 refine wp_append_own w s x _ ho base T i0 _ k bs E.under hi0 hz0 hz1 hz2 E.size E.pos _ n _ hs hown a0 m c' (l'.flatMap enc) hx (by rw [qch E.len, hsl.len]) (Sl.news E.len E.pos hsl) ?_ (by unfold maxLen; omega) ?_ hbase ?_
 ·intro u hu
  obtain ⟨x, _, hx⟩ := List.mem_flatMap.1 hu
  exact E.one x u hx
 ·have := Nat.mul_le_mul hn E.small
  omega
 ·intro v' w' h1 h2 _
  obtain ⟨A2, c2, rfl⟩ := qcC h1
  refine h A2 c2 w' ?_ (qcN hown h2 hbase)
  rw [List.flatMap_append]; exact h1
theorem qot : Elem encVt 25 82 2 16 (.agg #[.int .i64 0, .int .i64 0]) := ⟨Tryz.underlying25, by kernel_rfl, rfl, fun _ => rfl, by decide, fun x u hu => by simp [encVt] at hu; rcases hu with rfl | rfl <;> rfl, by decide⟩
theorem qfG : Elem encVt 28 130 2 16 (.agg #[.int .i64 0, .int .i64 0]) := ⟨Tryz.underlying28, by kernel_rfl, rfl, fun _ => rfl, by decide, fun x u hu => by simp [encVt] at hu; rcases hu with rfl | rfl <;> rfl, by decide⟩
def VtP (T : TypeId) (l : List VtV) (n : Nat) (w : World) (e : Ending) (w' : World) : Prop := (∃ A c, e = .returned (.slice A n c) ∧ w'.ownsRow w.heap.size T 2 (.slice A n c) n (l.flatMap encVt)) ∧ Below w.heap.size w w'
theorem qmE (A : Option Addr) (n c : Nat) (l : List VtV) (w : World) (hz : Sl w w.heap.size encVt 2 A n l) (hn : n ≤ 1048576) : Calls Tryz.prog 13 #[.slice A n c] w (VtP 82 l n w) := by
 have HZ := Lib.hid hz; have HL := Lib.hid hz.len
 clear hz
 go_enter Tryz.func13, Tryz.ntmps13
 go_wp2_with fail
 go_loopw [3, 4] (fun v i wr => ∃ (k : Nat) (B : Option Addr) (d : Nat), i = .int .i64 ↑k ∧ k ≤ n ∧ v = .slice B k d ∧ wr.ownsRow w.heap.size 82 2 (.slice B k d) k ((l.take k).flatMap encVt) ∧ Below w.heap.size w wr) (fun _ i _ => n - (intOf i).toNat)
 case atStart => exact ⟨0, none, 0, rfl, Nat.zero_le _, rfl, ⟨rfl, .inl ⟨rfl, rfl⟩⟩, Below.refl _ _⟩
 case round =>
  obtain ⟨k, B, d, rfl, hk, rfl, hown, hb⟩ := hrel
  have HO := Lib.hid hown; have HB := Lib.hid hb; clear hown hb
  by_cases hlt : k < n
  ·obtain ⟨b, off, eA, hbl, hc⟩ := HZ.out.cells hlt
   have c0 : wr.cell? ⟨b, off + k * 2, none⟩ = some (.int .i64 l[k]!.1) := by have := qaC (hc 0 _ rfl) HB.out; exact this
   have c1 : wr.cell? ⟨b, off + k * 2 + 1, none⟩ = some (.int .i64 l[k]!.2) := by have := qaC (hc 1 _ rfl) HB.out; exact this
   have HT := Lib.hid (show l.take (k + 1) = l.take k ++ [l[k]!] from qbi l k (by rw [HL.out]; exact hlt))
   subst eA
   clear hc
   generalize l[k]! = v at *
   obtain ⟨g, wt⟩ := v
   dsimp only at c0 c1
   have hki : (k : Int) < (n : Int) := by omega
   have hk0 : (0 : Int) ≤ (k : Int) := by omega
   have HAL := Lib.hid (show Below wr.heap.size wr (wr.drew.alloc (.cells #[.int .i64 g, .int .i64 wt] 82)) from ((Below.refl _ wr).drew).alloc (Nat.le_refl _) _)
   have HO2 := Lib.hid (qcb HO.out HAL.out)
   have HSL := Lib.hid (show Sl (wr.drew.alloc (.cells #[.int .i64 g, .int .i64 wt] 82)) (wr.drew.alloc (.cells #[.int .i64 g, .int .i64 wt] 82)).heap.size encVt 2 (some ⟨wr.heap.size, 0, none⟩) 1 [((g, wt) : VtV)] from ⟨rfl, fun _ => ⟨wr.heap.size, 0, rfl, by rw [sz1]; show wr.heap.size < wr.heap.size + 1; omega, fun i hi a u hu => by
    have hi0 : i = 0 := by omega
    subst hi0
    have h9 : (wr.drew.alloc (.cells #[.int .i64 g, .int .i64 wt] 82)).heap[wr.heap.size]? = _ := qab wr.drew _
    rw [qaf h9]
    match a, hu with
    | 0, hu => exact hu
    | 1, hu => exact hu⟩⟩)
   have HTL := Lib.hid (show (l.take k).length = k by rw [List.length_take, HL.out]; omega)
   go_wp2_with fail
   go_region_law (refine qgJ qot rfl (.tmp 11) (.tmp 23) rfl w.heap.size B k d (l.take k) (by simp [Act.eval]) HO2.out ⟨wr.heap.size, 0, none⟩ 1 1 [((g, wt) : VtV)] (by simp [Act.eval]) HSL.out (by omega) (Nat.le_trans HB.out.size HAL.out.size) ?_; intro A8 c8 w8 hv8 hb8)
   all_goals have HF := Lib.hid (show w8.ownsRow w.heap.size 82 2 (.slice A8 (k + 1) c8) (k + 1) ((l.take (k + 1)).flatMap encVt) ∧ Below w.heap.size w w8 from ⟨by rw [HT.out]; exact hv8, (HB.out.trans (HAL.out.mono HB.out.size)).trans hb8⟩)
   all_goals clear hv8 hb8 c0 c1
   all_goals go_wp2_with fail
   all_goals go_roundw
   all_goals first
    | exact ⟨k + 1, A8, c8, by go_num, by omega, rfl, HF.out.1, HF.out.2⟩
    | (simp [intOf]; omega)
  ·obtain rfl : k = n := by omega
   have HA := Lib.hid (show l.take k = l by rw [← HL.out]; exact List.take_length)
   go_wp2_with fail
   go_ret
   exact ⟨⟨B, d, rfl, by have := HO.out; rwa [HA.out] at this⟩, HB.out⟩
theorem qfY (A : Option Addr) (n c : Nat) (l : List VtV) (w : World) (hz : Sl w w.heap.size encVt 2 A n l) (hn : n ≤ 1048576) : Calls Tryz.prog 15 #[.slice A n c] w (VtP 130 l n w) := by
 have HZ := Lib.hid hz; have HL := Lib.hid hz.len
 clear hz
 go_enter Tryz.func15, Tryz.ntmps15
 go_wp2_with fail
 go_loopw [3, 4] (fun v i wr => ∃ (k : Nat) (B : Option Addr) (d : Nat), i = .int .i64 ↑k ∧ k ≤ n ∧ v = .slice B k d ∧ wr.ownsRow w.heap.size 130 2 (.slice B k d) k ((l.take k).flatMap encVt) ∧ Below w.heap.size w wr) (fun _ i _ => n - (intOf i).toNat)
 case atStart => exact ⟨0, none, 0, rfl, Nat.zero_le _, rfl, ⟨rfl, .inl ⟨rfl, rfl⟩⟩, Below.refl _ _⟩
 case round =>
  obtain ⟨k, B, d, rfl, hk, rfl, hown, hb⟩ := hrel
  have HO := Lib.hid hown; have HB := Lib.hid hb; clear hown hb
  by_cases hlt : k < n
  ·obtain ⟨b, off, eA, hbl, hc⟩ := HZ.out.cells hlt
   have c0 : wr.cell? ⟨b, off + k * 2, none⟩ = some (.int .i64 l[k]!.1) := by have := qaC (hc 0 _ rfl) HB.out; exact this
   have c1 : wr.cell? ⟨b, off + k * 2 + 1, none⟩ = some (.int .i64 l[k]!.2) := by have := qaC (hc 1 _ rfl) HB.out; exact this
   have HT := Lib.hid (show l.take (k + 1) = l.take k ++ [l[k]!] from qbi l k (by rw [HL.out]; exact hlt))
   subst eA
   clear hc
   generalize l[k]! = v at *
   obtain ⟨g, wt⟩ := v
   dsimp only at c0 c1
   have hki : (k : Int) < (n : Int) := by omega
   have hk0 : (0 : Int) ≤ (k : Int) := by omega
   have HAL := Lib.hid (show Below wr.heap.size wr (wr.drew.alloc (.cells #[.int .i64 g, .int .i64 wt] 130)) from ((Below.refl _ wr).drew).alloc (Nat.le_refl _) _)
   have HO2 := Lib.hid (qcb HO.out HAL.out)
   have HSL := Lib.hid (show Sl (wr.drew.alloc (.cells #[.int .i64 g, .int .i64 wt] 130)) (wr.drew.alloc (.cells #[.int .i64 g, .int .i64 wt] 130)).heap.size encVt 2 (some ⟨wr.heap.size, 0, none⟩) 1 [((g, wt) : VtV)] from ⟨rfl, fun _ => ⟨wr.heap.size, 0, rfl, by rw [sz1]; show wr.heap.size < wr.heap.size + 1; omega, fun i hi a u hu => by
    have hi0 : i = 0 := by omega
    subst hi0
    have h9 : (wr.drew.alloc (.cells #[.int .i64 g, .int .i64 wt] 130)).heap[wr.heap.size]? = _ := qab wr.drew _
    rw [qaf h9]
    match a, hu with
    | 0, hu => exact hu
    | 1, hu => exact hu⟩⟩)
   have HTL := Lib.hid (show (l.take k).length = k by rw [List.length_take, HL.out]; omega)
   go_wp2_with fail
   go_region_law (refine qgJ qfG rfl (.tmp 11) (.tmp 23) rfl w.heap.size B k d (l.take k) (by simp [Act.eval]) HO2.out ⟨wr.heap.size, 0, none⟩ 1 1 [((g, wt) : VtV)] (by simp [Act.eval]) HSL.out (by omega) (Nat.le_trans HB.out.size HAL.out.size) ?_; intro A8 c8 w8 hv8 hb8)
   all_goals have HF := Lib.hid (show w8.ownsRow w.heap.size 130 2 (.slice A8 (k + 1) c8) (k + 1) ((l.take (k + 1)).flatMap encVt) ∧ Below w.heap.size w w8 from ⟨by rw [HT.out]; exact hv8, (HB.out.trans (HAL.out.mono HB.out.size)).trans hb8⟩)
   all_goals clear hv8 hb8 c0 c1
   all_goals go_wp2_with fail
   all_goals go_roundw
   all_goals first
    | exact ⟨k + 1, A8, c8, by go_num, by omega, rfl, HF.out.1, HF.out.2⟩
    | (simp [intOf]; omega)
  ·obtain rfl : k = n := by omega
   have HA := Lib.hid (show l.take k = l by rw [← HL.out]; exact List.take_length)
   go_wp2_with fail
   go_ret
   exact ⟨⟨B, d, rfl, by have := HO.out; rwa [HA.out] at this⟩, HB.out⟩
end Go.Proofs.YtbpmmmnphpkdjaaGreatDoor
