/- The walk of the program's put, by type, of a transaction without parts. -/
import Derived.Test.YthpjneobmmpbnaaGreatDoorGRf3
import Derived.Test.YthpjneobmmpbnaaGreatDoorGDltA
import Derived.Test.YthpjneobmmpbnaaGreatDoorGQuoM
import Derived.Test.YthpjneobmmpbnaaGreatDoorGTreC
import Derived.Test.YthpjneobmmpbnaaGreatDoorGAclF
import Derived.Deep.RegionHeld3
import Derived.Deep.Cut
import Derived.Deep.Onto
import Derived.Test.YthpjneobmmpbnaaGreatDoorGHeld
import Derived.Test.YthpjneobmmpbnaaGreatDoorGJutP
import Derived.Test.YthpjneobmmpbnaaGreatDoorGRefD
import Derived.Test.YthpjneobmmpbnaaGreatDoorGPlnD
import Derived.Test.YthpjneobmmpbnaaGreatDoorGPathW
namespace Go.Proofs.YthpjneobmmpbnaaGreatDoor
open Go.RowKit Go.MapKept Go.Maps
theorem flatLen {α : Type} (f : α → Bs) (m : Nat) : ∀ zs : List α, (∀ x ∈ zs, (f x).length ≤ m) → (zs.flatMap f).length ≤ zs.length * m
  | [], _ => by simp
  | x :: r, h => by
    have h1 := h x (List.mem_cons_self ..)
    have h2 := flatLen f m r fun y hy => h y (List.mem_cons_of_mem _ hy)
    rw [List.flatMap_cons, List.length_append, List.length_cons, Nat.succ_mul]; omega
/-- how great a transaction without parts is -/
structure LfSm (v : TxF) : Prop where
  path : v.n.path.size ≤ 1048576
  data : v.data.length ≤ 1048576
  acl : v.acl.length ≤ 16
  acls : ∀ x ∈ v.acl, x.2.1.size ≤ 1048576 ∧ x.2.2.size ≤ 1048576
  ids : v.ids.length ≤ 1048576
  idss : ∀ x ∈ v.ids, x.1.size ≤ 1048576 ∧ x.2.size ≤ 1048576
  paths : v.paths.length ≤ 1024
  pathss : ∀ x ∈ v.paths, x.size ≤ 1048576
theorem LfSm.of {v : TxF} {k : Nat} (h : TxSm 1048576 v k) (hg : greatB v k = false) : LfSm v := by
  unfold greatB at hg
  simp only [Bool.or_eq_false_iff, decide_eq_false_iff_not] at hg
  obtain ⟨-, h1, h2, h3, h4, h5, -, h6, h7, h8⟩ := h
  refine ⟨h1, h2, by omega, fun x hx => ?_, h4, fun x hx => ?_, by omega, fun x hx => ?_⟩
  · obtain ⟨j, hj, rfl⟩ := List.getElem_of_mem hx
    have := h6 j hj; rw [getElem!_pos v.acl j hj] at this; exact this.2
  · obtain ⟨j, hj, rfl⟩ := List.getElem_of_mem hx
    have := h7 j hj; rwa [getElem!_pos v.ids j hj] at this
  · obtain ⟨j, hj, rfl⟩ := List.getElem_of_mem hx
    have := h8 j hj; rwa [getElem!_pos v.paths j hj] at this
theorem bufB_len (d : Bs) : (bufB d).length = 4 + d.length := by rw [bufB, List.length_append, beB_len]
theorem bufB_le {v : TxF} (h : LfSm v) : (bufB v.data).length ≤ 1048580 := by rw [bufB_len]; have := h.data; omega
theorem pathB_len {v : TxF} {n : TxN} (h : LfSm v) (e : v.n = n) : (txtB n.path).length ≤ 1048580 := by rw [← e, txtB_len]; have := h.path; omega
theorem aclsB_len {v : TxF} (h : LfSm v) : (aclsB v.acl).length ≤ 33554964 := by
  have h1 := flatLen aclB 2097164 v.acl fun x hx => by rw [aclB_len]; have := h.acls x hx; omega
  have h2 := h.acl
  rw [aclsB, List.length_append, beB_len]
  have := Nat.mul_le_mul_right 2097164 h2
  omega
theorem idsB_len {v : TxF} (h : LfSm v) : (idsB v.ids).length ≤ 2199031644164 := by
  have h1 := flatLen idB 2097160 v.ids fun x hx => by rw [idB_len]; have := h.idss x hx; omega
  have h2 := h.ids
  rw [idsB, List.length_append, beB_len]
  have := Nat.mul_le_mul_right 2097160 h2
  omega
theorem txtsB_len {v : TxF} (h : LfSm v) : (txtsB v.paths).length ≤ 1073745924 := by
  have h1 := flatLen txtB 1048580 v.paths fun x hx => by rw [txtB_len]; have := h.pathss x hx; omega
  have h2 := h.paths
  rw [txtsB, List.length_append, beB_len]
  have := Nat.mul_le_mul_right 1048580 h2
  omega
/-- where a transaction lies that a Writer's writes leave as it is -/
abbrev PutR (wb base : Nat) : Nat → Prop := fun b => b < base ∧ b ≠ wb
section
variable {w w' : World} {wb base : Nat}
theorem Kw.cellR (hk : Kw wb base w w') (hb : base ≤ w.heap.size) (p : Addr) (hp : PutR wb base p.block) : w'.cell? p = w.cell? p := by
  have := hk.low p.block hp.1 (Nat.lt_of_lt_of_le hp.1 hb) hp.2
  simp only [World.cell?, this]
theorem SlR.putW {α : Type} [Inhabited α] {enc : α → List Value} {k : Nat} {h : SlC} {zs : List α} (H : SlR w (PutR wb base) enc k h zs) : Sl w base enc k h.1 h.2.1 zs ∧ (0 < h.2.1 → ∀ a, h.1 = some a → a.block ≠ wb) := by
  refine ⟨⟨H.1, fun hn => ?_⟩, fun hn a ha => ?_⟩
  · obtain ⟨b, off, e, hb, hc⟩ := H.2.2 hn
    exact ⟨b, off, e, hb.1, hc⟩
  · obtain ⟨b, off, e, hb, hc⟩ := H.2.2 hn
    rw [e] at ha; injection ha with ha; subst ha; exact hb.2
theorem SlR.slK {h : SlC} {zs : Bs} (H : SlR w (PutR wb base) enc8 1 h zs) (hb : base ≤ w.heap.size) : SlK wb base w h.1 h.2.1 zs := fun W hW =>
  (H.keep (w' := W) fun p hp => hW.cellR hb p hp).sl fun _ => by simp [enc8]
theorem locTx.kw {h : TxH} {v : TxF} (H : locTx w (PutR wb base) h v) (hk : Kw wb base w w') (hb : base ≤ w.heap.size) : locTx w' (PutR wb base) h v := locTx.keep (fun p hp => hk.cellR hb p hp) H
theorem TxAt.kw {h : TxH} {t : TxT} (H : TxAt w (PutR wb base) h t) (hk : Kw wb base w w') (hb : base ≤ w.heap.size) : TxAt w' (PutR wb base) h t := TxAt.keep H fun p hp => hk.cellR hb p hp
end
/-- what a step of put wants -/
structure PutS (wb base : Nat) (l : Bs) (h : TxH) (v : TxF) (w : World) : Prop where
  wr : WrB w wb base l
  x : locTx w (PutR wb base) h v
  z : LfSm v
  n : l.length ≤ 8796093022208
section
variable {w : World} {wb base : Nat} {l : Bs} {h : TxH} {v : TxF}
theorem bufC_any (H : PutS wb base l h v w) : Calls Tryz.prog 77 #[.pointer (some ⟨wb, 0, none⟩), .slice h.d.1 h.d.2.1 h.d.2.2] w (WrPost (l ++ bufB v.data) wb base w) := by
  have h1 := H.x.2.1
  have h2 : bufB v.data = beB h.d.2.1 4 ++ v.data := by rw [bufB, h1.len]
  rw [h2]
  exact wBuffer_any wb base l v.data h.d.1 h.d.2.1 h.d.2.2 w H.wr (h1.slK H.wr.size) h1.hd.1 (Nat.le_trans H.n (by decide)) (by rw [← h1.len]; exact Nat.le_trans H.z.data (by decide))
theorem aclC_any (H : PutS wb base l h v w) : Calls Tryz.prog 78 #[.pointer (some ⟨wb, 0, none⟩), .slice h.a.1 h.a.2.1 h.a.2.2] w (WrPost (l ++ aclsB v.acl) wb base w) := by
  have h1 := H.x.2.2.1
  have h2 : aclsB v.acl = beB h.a.2.1 4 ++ v.acl.flatMap aclB := by rw [aclsB, h1.len]
  rw [h2]
  exact aclPut_any wb base l h.a.1 h.a.2.1 h.a.2.2 v.acl w H.wr h1.putW.1 h1.putW.2 H.n (by rw [← h1.len]; exact Nat.le_trans H.z.acl (by decide)) (fun j hj => by rw [← h1.len] at hj; rw [getElem!_pos v.acl j hj]; exact H.z.acls _ (List.getElem_mem hj))
theorem idsC_any (H : PutS wb base l h v w) : Calls Tryz.prog 81 #[.pointer (some ⟨wb, 0, none⟩), .slice h.i.1 h.i.2.1 h.i.2.2] w (WrPost (l ++ idsB v.ids) wb base w) := by
  have h1 := H.x.2.2.2.1
  have h2 : idsB v.ids = beB h.i.2.1 4 ++ v.ids.flatMap idB := by rw [idsB, h1.len]
  rw [h2]
  exact aclPutIds_any wb base l h.i.1 h.i.2.1 h.i.2.2 v.ids w H.wr h1.putW.1 h1.putW.2 H.n (by rw [← h1.len]; exact H.z.ids) (fun j hj => by rw [← h1.len] at hj; rw [getElem!_pos v.ids j hj]; exact H.z.idss _ (List.getElem_mem hj))
end
/-- a list of texts, some of it written -/
def LPS (wb base n : Nat) (l : Bs) (zs : List ByteArray) (w : World) (i : Value) (wr : World) : Prop := ∃ k : Nat, i = .int .i64 ↑k ∧ k ≤ n ∧ WrB wr wb base (l ++ beB n 4 ++ (zs.take k).flatMap txtB) ∧ Kw wb base w wr
set_option maxRecDepth 100000 in
theorem putS_any (wb base : Nat) (l : Bs) (s : ByteArray) (w : World) (h : WrB w wb base l) (hn : l.length ≤ 17592186044416) (hs : s.size ≤ 1048576) :
    Calls Tryz.prog 83 #[.pointer (some ⟨wb, 0, none⟩), .string s] w (WrPost (l ++ txtB s) wb base w) := by
  have HC := Lib.hid (wText_any wb base l s w h (Nat.le_trans hn (by decide)) (Nat.le_trans hs (by decide)))
  clear h
  go_enter Tryz.func83, Tryz.ntmps83
  go_wp2_with fail
  refine HC.out.mono ?_
  rintro e w1 ⟨rfl, hw, hk⟩
  have HW1 := Lib.hid hw; have HK1 := Lib.hid hk
  clear hw hk
  go_wp2_with fail
  refine bodyPost_ret (results_none rfl _ _ _) rfl ?_
  exact ⟨rfl, HW1.out, HK1.out⟩
set_option maxRecDepth 100000 in
theorem listS_any (wb base : Nat) (l : Bs) (A : Option Addr) (n c : Nat) (zs : List ByteArray) (w : World) (h : WrB w wb base l) (hz : Sl w base encStr 1 A n zs) (hA : 0 < n → ∀ a, A = some a → a.block ≠ wb) (hl : l.length ≤ 8796093022208) (hn : n ≤ 1048576) (hs : ∀ j, j < n → zs[j]!.size ≤ 1048576) :
    Calls Tryz.prog 82 #[.pointer (some ⟨wb, 0, none⟩), .slice A n c, .func (.func 83) #[] #[]] w (WrPost (l ++ (beB n 4 ++ zs.flatMap txtB)) wb base w) := by
  have HZ := Lib.hid hz; have HA := Lib.hid hA; have HS := Lib.hid hs
  have HL := Lib.hid hz.len
  have HC := Lib.hid (wCount_any wb base l n w h (by omega) (by omega))
  have HF := Lib.hid (flat_small txtB zs 1048580 (fun j hj => by have h1 := hs j (by rw [hz.len] at hj; exact hj); rw [txtB_len]; omega))
  have hq : ∀ w : World, (binOp .eql 118 (.func (.func 83) #[] #[]) .nilFunc).run Tryz.prog w = .ok (.bool false) w := fun w => by kernel_rfl
  clear h hz hA hs
  go_enter Tryz.func82, Tryz.ntmps82
  go_wp2_with fail
  refine HC.out.mono ?_
  rintro e w1 ⟨rfl, hw, hk⟩
  have HW1 := Lib.hid hw; have HK1 := Lib.hid hk
  clear hw hk
  go_wp2_with fail
  go_loopw [16] (fun i wr => LPS wb base n l zs w i wr) (fun i _ => n - (RowKit.intOf i).toNat)
  case atStart => exact ⟨0, rfl, Nat.zero_le _, by rw [List.take_zero, List.flatMap_nil, List.append_nil]; exact HW1.out, HK1.out⟩
  case round =>
    obtain ⟨k, rfl, hk, hw, hkw⟩ := hrel
    have HW := Lib.hid hw; have HK := Lib.hid hkw
    by_cases hkn : k < n
    · have hkn2 : (k : Int) < (n : Int) := by omega
      obtain ⟨b, off, hA, hb, hc⟩ := (HZ.out.kw hkw HA.out).cells hkn
      have HSJ := Lib.hid (HS.out k hkn)
      have HST := Lib.hid (flat_step txtB zs (k := k) (by rw [HL.out]; exact hkn))
      have hfl := HF.out k (by rw [HL.out]; exact hk)
      have HLN := Lib.hid (show (l ++ beB n 4 ++ (zs.take k).flatMap txtB).length ≤ 17592186044416 by
        rw [List.length_append, List.length_append, beB_len]
        have : k * 1048580 ≤ 1048576 * 1048580 := Nat.mul_le_mul_right _ (by omega)
        omega)
      subst hA
      generalize zs[k]! = z at *
      have c0 : wr.cell? ⟨b, off + k * 1, none⟩ = some (.string z) := hc 0 _ rfl
      rw [Nat.mul_one] at c0
      clear hw hkw hc hb hfl
      go_wp2_with fail
      refine (putS_any wb base _ z wr HW.out HLN.out HSJ.out).mono ?_
      rintro e w3 ⟨rfl, hw, hkw⟩
      have HW3 := Lib.hid (show WrB w3 wb base (l ++ beB n 4 ++ (zs.take (k + 1)).flatMap txtB) by rw [HST.out, ← List.append_assoc]; exact hw)
      have HK3 := Lib.hid (HK.out.trans hkw)
      clear hw hkw
      go_wp2_with fail
      go_roundw
      case rel => exact ⟨k + 1, by go_num, by omega, HW3.out, HK3.out⟩
      case measure => simp [RowKit.intOf]; omega
    · have hkn2 : ¬ (k : Int) < (n : Int) := by omega
      have hkk : k = n := by omega
      subst hkk
      have HW3 := Lib.hid (show WrB wr wb base (l ++ (beB k 4 ++ zs.flatMap txtB)) by
        have h9 := HW.out
        rw [List.take_of_length_le (by rw [HL.out]; exact Nat.le_refl _), List.append_assoc] at h9
        exact h9)
      clear hw hkw
      go_wp2_with fail
      refine bodyPost_ret (results_none rfl _ _ _) rfl ?_
      exact ⟨rfl, HW3.out, HK.out⟩
theorem ptsC_any {w : World} {wb base : Nat} {l : Bs} {h : TxH} {v : TxF} (H : PutS wb base l h v w) : Calls Tryz.prog 82 #[.pointer (some ⟨wb, 0, none⟩), .slice h.p.1 h.p.2.1 h.p.2.2, .func (.func 83) #[] #[]] w (WrPost (l ++ txtsB v.paths) wb base w) := by
  have h1 := H.x.2.2.2.2
  have h2 : txtsB v.paths = beB h.p.2.1 4 ++ v.paths.flatMap txtB := by rw [txtsB, h1.len]
  rw [h2]
  exact listS_any wb base l h.p.1 h.p.2.1 h.p.2.2 v.paths w H.wr h1.putW.1 h1.putW.2 H.n (by rw [← h1.len]; exact Nat.le_trans H.z.paths (by decide)) (fun j hj => by rw [← h1.len] at hj; rw [getElem!_pos v.paths j hj]; exact H.z.pathss _ (List.getElem_mem hj))
set_option linter.unusedSimpArgs false in
set_option maxRecDepth 100000 in
set_option maxHeartbeats 4000000 in
theorem put1_any (wb base : Nat) (l : Bs) (h : TxH) (v : TxF) (w : World) (H : WrB w wb base l) (hx : locTx w (PutR wb base) h v) (hz : LfSm v) (hl : l.length ≤ 4398046511104) (hty : h.n.ty = 1) :
    Calls Tryz.prog 39 #[.pointer (some ⟨wb, 0, none⟩), txV h] w (WrPost (l ++ leafB v) wb base w) := by
  have hb1 : Below w.heap.size w (w.alloc (.cells #[.int .i32 h.n.ty, .string h.n.path, slV h.d, slV h.a, .int .i64 h.n.ow, .int .i32 h.n.ve, .int .i32 h.n.cr, .bool h.n.qh, .int .i64 h.n.qc, .int .i64 h.n.qb, .int .i64 h.n.si, .int .i32 h.n.st, slV h.i, slV h.p, .int .i32 h.n.co, slV h.s] 33)) := (Below.refl _ w).alloc (Nat.le_refl _) _
  have hk1 : Kw wb base w (w.alloc (.cells #[.int .i32 h.n.ty, .string h.n.path, slV h.d, slV h.a, .int .i64 h.n.ow, .int .i32 h.n.ve, .int .i32 h.n.cr, .bool h.n.qh, .int .i64 h.n.qc, .int .i64 h.n.qb, .int .i64 h.n.si, .int .i32 h.n.st, slV h.i, slV h.p, .int .i32 h.n.co, slV h.s] 33)) := Kw.of_below hb1
  have hlt : w.heap.size ≠ wb := by have := H.lt; have := H.size; omega
  have HV := Lib.hid (show leafB v = txtB h.n.path ++ (bufB v.data ++ (aclsB v.acl ++ (beB (m64 h.n.ow) 8 ++ (beB (m32 h.n.cr) 4)))) by
    have e := hx.1
    unfold leafB
    rw [e, hty]
    (try simp [List.append_assoc]))
  have HZ := Lib.hid hz; have HLT := Lib.hid hlt
  have HZ' := Lib.hid (show v.n = h.n from hx.1)
  have HW0 := Lib.hid (H.below hb1); have HK0 := Lib.hid hk1; have HX0 := Lib.hid (hx.kw hk1 H.size)
  have HG0 := Lib.hid (heap_alloc_new w (.cells #[.int .i32 h.n.ty, .string h.n.path, slV h.d, slV h.a, .int .i64 h.n.ow, .int .i32 h.n.ve, .int .i32 h.n.cr, .bool h.n.qh, .int .i64 h.n.qc, .int .i64 h.n.qb, .int .i64 h.n.si, .int .i32 h.n.st, slV h.i, slV h.p, .int .i32 h.n.co, slV h.s] 33))
  have HN0 := Lib.hid hl
  have t1 : (h.n.ty == 1) = true := by rw [hty]; rfl
  have t2 : (h.n.ty == 2) = false := by rw [hty]; rfl
  have t121 : (h.n.ty == 121) = false := by rw [hty]; rfl
  have t5 : (h.n.ty == 5) = false := by rw [hty]; rfl
  have t7 : (h.n.ty == 7) = false := by rw [hty]; rfl
  have t13 : (h.n.ty == 13) = false := by rw [hty]; rfl
  have t120 : (h.n.ty == 120) = false := by rw [hty]; rfl
  have t14 : (h.n.ty == 14) = false := by rw [hty]; rfl
  have tm10 : (h.n.ty == -10) = false := by rw [hty]; rfl
  have tm11 : (h.n.ty == -11) = false := by rw [hty]; rfl
  have tm1 : (h.n.ty == -1) = false := by rw [hty]; rfl
  clear H hx hz hl hb1 hk1 hty hlt
  go_enter Tryz.func39, Tryz.ntmps39
  go_upto_region 1 with fail
  generalize w.alloc (.cells #[.int .i32 h.n.ty, .string h.n.path, slV h.d, slV h.a, .int .i64 h.n.ow, .int .i32 h.n.ve, .int .i32 h.n.cr, .bool h.n.qh, .int .i64 h.n.qc, .int .i64 h.n.qb, .int .i64 h.n.si, .int .i32 h.n.st, slV h.i, slV h.p, .int .i32 h.n.co, slV h.s] 33) = W0 at *
  have x0 : W0.cell? ⟨w.heap.size, 0, none⟩ = some (.int .i32 h.n.ty) := by rw [cellH HG0.out]; rfl
  have y0 : W0.cell? ⟨w.heap.size, 1, none⟩ = some (.string h.n.path) := by rw [cellH HG0.out]; rfl
  go_wp2_with fail
  refine (wText_any wb base l h.n.path W0 HW0.out (Nat.le_trans HN0.out (by decide)) (Nat.le_trans (show h.n.path.size ≤ 1048576 by rw [← HZ'.out]; exact HZ.out.path) (by decide))).mono ?_
  rintro e W1 ⟨rfl, hw, hk⟩
  obtain ⟨L1, hL⟩ : ∃ L1, L1 = l ++ txtB h.n.path := ⟨_, rfl⟩
  have HLE1 := Lib.hid hL
  have HN1 := Lib.hid (show L1.length ≤ 4398047559684 by
    rw [hL, List.length_append]
    have h8 : (txtB h.n.path).length ≤ 1048580 := pathB_len HZ.out HZ'.out
    have := HN0.out; omega)
  have HW1 := Lib.hid (show WrB W1 wb base L1 by rw [hL]; exact hw)
  have HK1 := Lib.hid (HK0.out.trans hk)
  have HX1 := Lib.hid (HX0.out.kw hk HW0.out.size)
  have HG1 := Lib.hid (hk.heap HG0.out (by decide) HLT.out)
  clear hw hk hL y0 x0
  have y1 : W1.cell? ⟨w.heap.size, 2, none⟩ = some (.slice h.d.1 h.d.2.1 h.d.2.2) := by rw [cellH HG1.out]; rfl
  go_wp2_with fail
  refine (bufC_any ⟨HW1.out, HX1.out, HZ.out, Nat.le_trans HN1.out (by decide)⟩).mono ?_
  rintro e W2 ⟨rfl, hw, hk⟩
  obtain ⟨L2, hL⟩ : ∃ L2, L2 = L1 ++ bufB v.data := ⟨_, rfl⟩
  have HLE2 := Lib.hid hL
  have HN2 := Lib.hid (show L2.length ≤ 4398048608264 by
    rw [hL, List.length_append]
    have h8 : (bufB v.data).length ≤ 1048580 := bufB_le HZ.out
    have := HN1.out; omega)
  have HW2 := Lib.hid (show WrB W2 wb base L2 by rw [hL]; exact hw)
  have HK2 := Lib.hid (HK1.out.trans hk)
  have HX2 := Lib.hid (HX1.out.kw hk HW1.out.size)
  have HG2 := Lib.hid (hk.heap HG1.out (by decide) HLT.out)
  clear hw hk hL y1
  have y2 : W2.cell? ⟨w.heap.size, 3, none⟩ = some (.slice h.a.1 h.a.2.1 h.a.2.2) := by rw [cellH HG2.out]; rfl
  go_wp2_with fail
  refine (aclC_any ⟨HW2.out, HX2.out, HZ.out, Nat.le_trans HN2.out (by decide)⟩).mono ?_
  rintro e W3 ⟨rfl, hw, hk⟩
  obtain ⟨L3, hL⟩ : ∃ L3, L3 = L2 ++ aclsB v.acl := ⟨_, rfl⟩
  have HLE3 := Lib.hid hL
  have HN3 := Lib.hid (show L3.length ≤ 4398082163228 by
    rw [hL, List.length_append]
    have h8 : (aclsB v.acl).length ≤ 33554964 := aclsB_len HZ.out
    have := HN2.out; omega)
  have HW3 := Lib.hid (show WrB W3 wb base L3 by rw [hL]; exact hw)
  have HK3 := Lib.hid (HK2.out.trans hk)
  have HX3 := Lib.hid (HX2.out.kw hk HW2.out.size)
  have HG3 := Lib.hid (hk.heap HG2.out (by decide) HLT.out)
  clear hw hk hL y2
  have y3 : W3.cell? ⟨w.heap.size, 4, none⟩ = some (.int .i64 h.n.ow) := by rw [cellH HG3.out]; rfl
  go_wp2_with fail
  refine (wLong_any wb base L3 h.n.ow W3 HW3.out (Nat.le_trans HN3.out (by decide))).mono ?_
  rintro e W4 ⟨rfl, hw, hk⟩
  obtain ⟨L4, hL⟩ : ∃ L4, L4 = L3 ++ beB (m64 h.n.ow) 8 := ⟨_, rfl⟩
  have HLE4 := Lib.hid hL
  have HN4 := Lib.hid (show L4.length ≤ 4398082163236 by
    rw [hL, List.length_append]
    have h8 : (beB (m64 h.n.ow) 8).length ≤ 8 := (by rw [beB_len]; exact Nat.le_refl _)
    have := HN3.out; omega)
  have HW4 := Lib.hid (show WrB W4 wb base L4 by rw [hL]; exact hw)
  have HK4 := Lib.hid (HK3.out.trans hk)
  have HX4 := Lib.hid (HX3.out.kw hk HW3.out.size)
  have HG4 := Lib.hid (hk.heap HG3.out (by decide) HLT.out)
  clear hw hk hL y3
  have y4 : W4.cell? ⟨w.heap.size, 6, none⟩ = some (.int .i32 h.n.cr) := by rw [cellH HG4.out]; rfl
  go_wp2_with fail
  refine (wInt_any wb base L4 h.n.cr W4 HW4.out (Nat.le_trans HN4.out (by decide))).mono ?_
  rintro e W5 ⟨rfl, hw, hk⟩
  obtain ⟨L5, hL⟩ : ∃ L5, L5 = L4 ++ beB (m32 h.n.cr) 4 := ⟨_, rfl⟩
  have HLE5 := Lib.hid hL
  have HN5 := Lib.hid (show L5.length ≤ 4398082163240 by
    rw [hL, List.length_append]
    have h8 : (beB (m32 h.n.cr) 4).length ≤ 4 := (by rw [beB_len]; decide)
    have := HN4.out; omega)
  have HW5 := Lib.hid (show WrB W5 wb base L5 by rw [hL]; exact hw)
  have HK5 := Lib.hid (HK4.out.trans hk)
  have HX5 := Lib.hid (HX4.out.kw hk HW4.out.size)
  have HG5 := Lib.hid (hk.heap HG4.out (by decide) HLT.out)
  clear hw hk hL y4
  go_wp2_with fail
  refine bodyPost_ret (results_none rfl _ _ _) rfl ?_
  have hf : L5 = l ++ leafB v := by rw [HV.out, HLE5.out, HLE4.out, HLE3.out, HLE2.out, HLE1.out]; (try simp [List.append_assoc])
  exact ⟨rfl, hf ▸ HW5.out, HK5.out⟩
set_option linter.unusedSimpArgs false in
set_option maxRecDepth 100000 in
set_option maxHeartbeats 4000000 in
theorem put2_any (wb base : Nat) (l : Bs) (h : TxH) (v : TxF) (w : World) (H : WrB w wb base l) (hx : locTx w (PutR wb base) h v) (hz : LfSm v) (hl : l.length ≤ 4398046511104) (hty : h.n.ty = 2) :
    Calls Tryz.prog 39 #[.pointer (some ⟨wb, 0, none⟩), txV h] w (WrPost (l ++ leafB v) wb base w) := by
  have hb1 : Below w.heap.size w (w.alloc (.cells #[.int .i32 h.n.ty, .string h.n.path, slV h.d, slV h.a, .int .i64 h.n.ow, .int .i32 h.n.ve, .int .i32 h.n.cr, .bool h.n.qh, .int .i64 h.n.qc, .int .i64 h.n.qb, .int .i64 h.n.si, .int .i32 h.n.st, slV h.i, slV h.p, .int .i32 h.n.co, slV h.s] 33)) := (Below.refl _ w).alloc (Nat.le_refl _) _
  have hk1 : Kw wb base w (w.alloc (.cells #[.int .i32 h.n.ty, .string h.n.path, slV h.d, slV h.a, .int .i64 h.n.ow, .int .i32 h.n.ve, .int .i32 h.n.cr, .bool h.n.qh, .int .i64 h.n.qc, .int .i64 h.n.qb, .int .i64 h.n.si, .int .i32 h.n.st, slV h.i, slV h.p, .int .i32 h.n.co, slV h.s] 33)) := Kw.of_below hb1
  have hlt : w.heap.size ≠ wb := by have := H.lt; have := H.size; omega
  have HV := Lib.hid (show leafB v = txtB h.n.path by
    have e := hx.1
    unfold leafB
    rw [e, hty]
    (try simp [List.append_assoc]))
  have HZ := Lib.hid hz; have HLT := Lib.hid hlt
  have HZ' := Lib.hid (show v.n = h.n from hx.1)
  have HW0 := Lib.hid (H.below hb1); have HK0 := Lib.hid hk1; have HX0 := Lib.hid (hx.kw hk1 H.size)
  have HG0 := Lib.hid (heap_alloc_new w (.cells #[.int .i32 h.n.ty, .string h.n.path, slV h.d, slV h.a, .int .i64 h.n.ow, .int .i32 h.n.ve, .int .i32 h.n.cr, .bool h.n.qh, .int .i64 h.n.qc, .int .i64 h.n.qb, .int .i64 h.n.si, .int .i32 h.n.st, slV h.i, slV h.p, .int .i32 h.n.co, slV h.s] 33))
  have HN0 := Lib.hid hl
  have t1 : (h.n.ty == 1) = false := by rw [hty]; rfl
  have t2 : (h.n.ty == 2) = true := by rw [hty]; rfl
  have t121 : (h.n.ty == 121) = false := by rw [hty]; rfl
  have t5 : (h.n.ty == 5) = false := by rw [hty]; rfl
  have t7 : (h.n.ty == 7) = false := by rw [hty]; rfl
  have t13 : (h.n.ty == 13) = false := by rw [hty]; rfl
  have t120 : (h.n.ty == 120) = false := by rw [hty]; rfl
  have t14 : (h.n.ty == 14) = false := by rw [hty]; rfl
  have tm10 : (h.n.ty == -10) = false := by rw [hty]; rfl
  have tm11 : (h.n.ty == -11) = false := by rw [hty]; rfl
  have tm1 : (h.n.ty == -1) = false := by rw [hty]; rfl
  clear H hx hz hl hb1 hk1 hty hlt
  go_enter Tryz.func39, Tryz.ntmps39
  go_upto_region 1 with fail
  generalize w.alloc (.cells #[.int .i32 h.n.ty, .string h.n.path, slV h.d, slV h.a, .int .i64 h.n.ow, .int .i32 h.n.ve, .int .i32 h.n.cr, .bool h.n.qh, .int .i64 h.n.qc, .int .i64 h.n.qb, .int .i64 h.n.si, .int .i32 h.n.st, slV h.i, slV h.p, .int .i32 h.n.co, slV h.s] 33) = W0 at *
  have x0 : W0.cell? ⟨w.heap.size, 0, none⟩ = some (.int .i32 h.n.ty) := by rw [cellH HG0.out]; rfl
  have y0 : W0.cell? ⟨w.heap.size, 1, none⟩ = some (.string h.n.path) := by rw [cellH HG0.out]; rfl
  go_wp2_with fail
  refine (wText_any wb base l h.n.path W0 HW0.out (Nat.le_trans HN0.out (by decide)) (Nat.le_trans (show h.n.path.size ≤ 1048576 by rw [← HZ'.out]; exact HZ.out.path) (by decide))).mono ?_
  rintro e W1 ⟨rfl, hw, hk⟩
  obtain ⟨L1, hL⟩ : ∃ L1, L1 = l ++ txtB h.n.path := ⟨_, rfl⟩
  have HLE1 := Lib.hid hL
  have HN1 := Lib.hid (show L1.length ≤ 4398047559684 by
    rw [hL, List.length_append]
    have h8 : (txtB h.n.path).length ≤ 1048580 := pathB_len HZ.out HZ'.out
    have := HN0.out; omega)
  have HW1 := Lib.hid (show WrB W1 wb base L1 by rw [hL]; exact hw)
  have HK1 := Lib.hid (HK0.out.trans hk)
  have HX1 := Lib.hid (HX0.out.kw hk HW0.out.size)
  have HG1 := Lib.hid (hk.heap HG0.out (by decide) HLT.out)
  clear hw hk hL y0 x0
  go_wp2_with fail
  refine bodyPost_ret (results_none rfl _ _ _) rfl ?_
  have hf : L1 = l ++ leafB v := by rw [HV.out, HLE1.out]; (try simp [List.append_assoc])
  exact ⟨rfl, hf ▸ HW1.out, HK1.out⟩
set_option linter.unusedSimpArgs false in
set_option maxRecDepth 100000 in
set_option maxHeartbeats 4000000 in
theorem put121_any (wb base : Nat) (l : Bs) (h : TxH) (v : TxF) (w : World) (H : WrB w wb base l) (hx : locTx w (PutR wb base) h v) (hz : LfSm v) (hl : l.length ≤ 4398046511104) (hty : h.n.ty = 121) :
    Calls Tryz.prog 39 #[.pointer (some ⟨wb, 0, none⟩), txV h] w (WrPost (l ++ leafB v) wb base w) := by
  have hb1 : Below w.heap.size w (w.alloc (.cells #[.int .i32 h.n.ty, .string h.n.path, slV h.d, slV h.a, .int .i64 h.n.ow, .int .i32 h.n.ve, .int .i32 h.n.cr, .bool h.n.qh, .int .i64 h.n.qc, .int .i64 h.n.qb, .int .i64 h.n.si, .int .i32 h.n.st, slV h.i, slV h.p, .int .i32 h.n.co, slV h.s] 33)) := (Below.refl _ w).alloc (Nat.le_refl _) _
  have hk1 : Kw wb base w (w.alloc (.cells #[.int .i32 h.n.ty, .string h.n.path, slV h.d, slV h.a, .int .i64 h.n.ow, .int .i32 h.n.ve, .int .i32 h.n.cr, .bool h.n.qh, .int .i64 h.n.qc, .int .i64 h.n.qb, .int .i64 h.n.si, .int .i32 h.n.st, slV h.i, slV h.p, .int .i32 h.n.co, slV h.s] 33)) := Kw.of_below hb1
  have hlt : w.heap.size ≠ wb := by have := H.lt; have := H.size; omega
  have HV := Lib.hid (show leafB v = txtB h.n.path by
    have e := hx.1
    unfold leafB
    rw [e, hty]
    (try simp [List.append_assoc]))
  have HZ := Lib.hid hz; have HLT := Lib.hid hlt
  have HZ' := Lib.hid (show v.n = h.n from hx.1)
  have HW0 := Lib.hid (H.below hb1); have HK0 := Lib.hid hk1; have HX0 := Lib.hid (hx.kw hk1 H.size)
  have HG0 := Lib.hid (heap_alloc_new w (.cells #[.int .i32 h.n.ty, .string h.n.path, slV h.d, slV h.a, .int .i64 h.n.ow, .int .i32 h.n.ve, .int .i32 h.n.cr, .bool h.n.qh, .int .i64 h.n.qc, .int .i64 h.n.qb, .int .i64 h.n.si, .int .i32 h.n.st, slV h.i, slV h.p, .int .i32 h.n.co, slV h.s] 33))
  have HN0 := Lib.hid hl
  have t1 : (h.n.ty == 1) = false := by rw [hty]; rfl
  have t2 : (h.n.ty == 2) = false := by rw [hty]; rfl
  have t121 : (h.n.ty == 121) = true := by rw [hty]; rfl
  have t5 : (h.n.ty == 5) = false := by rw [hty]; rfl
  have t7 : (h.n.ty == 7) = false := by rw [hty]; rfl
  have t13 : (h.n.ty == 13) = false := by rw [hty]; rfl
  have t120 : (h.n.ty == 120) = false := by rw [hty]; rfl
  have t14 : (h.n.ty == 14) = false := by rw [hty]; rfl
  have tm10 : (h.n.ty == -10) = false := by rw [hty]; rfl
  have tm11 : (h.n.ty == -11) = false := by rw [hty]; rfl
  have tm1 : (h.n.ty == -1) = false := by rw [hty]; rfl
  clear H hx hz hl hb1 hk1 hty hlt
  go_enter Tryz.func39, Tryz.ntmps39
  go_upto_region 1 with fail
  generalize w.alloc (.cells #[.int .i32 h.n.ty, .string h.n.path, slV h.d, slV h.a, .int .i64 h.n.ow, .int .i32 h.n.ve, .int .i32 h.n.cr, .bool h.n.qh, .int .i64 h.n.qc, .int .i64 h.n.qb, .int .i64 h.n.si, .int .i32 h.n.st, slV h.i, slV h.p, .int .i32 h.n.co, slV h.s] 33) = W0 at *
  have x0 : W0.cell? ⟨w.heap.size, 0, none⟩ = some (.int .i32 h.n.ty) := by rw [cellH HG0.out]; rfl
  have y0 : W0.cell? ⟨w.heap.size, 1, none⟩ = some (.string h.n.path) := by rw [cellH HG0.out]; rfl
  go_wp2_with fail
  refine (wText_any wb base l h.n.path W0 HW0.out (Nat.le_trans HN0.out (by decide)) (Nat.le_trans (show h.n.path.size ≤ 1048576 by rw [← HZ'.out]; exact HZ.out.path) (by decide))).mono ?_
  rintro e W1 ⟨rfl, hw, hk⟩
  obtain ⟨L1, hL⟩ : ∃ L1, L1 = l ++ txtB h.n.path := ⟨_, rfl⟩
  have HLE1 := Lib.hid hL
  have HN1 := Lib.hid (show L1.length ≤ 4398047559684 by
    rw [hL, List.length_append]
    have h8 : (txtB h.n.path).length ≤ 1048580 := pathB_len HZ.out HZ'.out
    have := HN0.out; omega)
  have HW1 := Lib.hid (show WrB W1 wb base L1 by rw [hL]; exact hw)
  have HK1 := Lib.hid (HK0.out.trans hk)
  have HX1 := Lib.hid (HX0.out.kw hk HW0.out.size)
  have HG1 := Lib.hid (hk.heap HG0.out (by decide) HLT.out)
  clear hw hk hL y0 x0
  go_wp2_with fail
  refine bodyPost_ret (results_none rfl _ _ _) rfl ?_
  have hf : L1 = l ++ leafB v := by rw [HV.out, HLE1.out]; (try simp [List.append_assoc])
  exact ⟨rfl, hf ▸ HW1.out, HK1.out⟩
set_option linter.unusedSimpArgs false in
set_option maxRecDepth 100000 in
set_option maxHeartbeats 4000000 in
theorem put5_any (wb base : Nat) (l : Bs) (h : TxH) (v : TxF) (w : World) (H : WrB w wb base l) (hx : locTx w (PutR wb base) h v) (hz : LfSm v) (hl : l.length ≤ 4398046511104) (hty : h.n.ty = 5) :
    Calls Tryz.prog 39 #[.pointer (some ⟨wb, 0, none⟩), txV h] w (WrPost (l ++ leafB v) wb base w) := by
  have hb1 : Below w.heap.size w (w.alloc (.cells #[.int .i32 h.n.ty, .string h.n.path, slV h.d, slV h.a, .int .i64 h.n.ow, .int .i32 h.n.ve, .int .i32 h.n.cr, .bool h.n.qh, .int .i64 h.n.qc, .int .i64 h.n.qb, .int .i64 h.n.si, .int .i32 h.n.st, slV h.i, slV h.p, .int .i32 h.n.co, slV h.s] 33)) := (Below.refl _ w).alloc (Nat.le_refl _) _
  have hk1 : Kw wb base w (w.alloc (.cells #[.int .i32 h.n.ty, .string h.n.path, slV h.d, slV h.a, .int .i64 h.n.ow, .int .i32 h.n.ve, .int .i32 h.n.cr, .bool h.n.qh, .int .i64 h.n.qc, .int .i64 h.n.qb, .int .i64 h.n.si, .int .i32 h.n.st, slV h.i, slV h.p, .int .i32 h.n.co, slV h.s] 33)) := Kw.of_below hb1
  have hlt : w.heap.size ≠ wb := by have := H.lt; have := H.size; omega
  have HV := Lib.hid (show leafB v = txtB h.n.path ++ (bufB v.data ++ (beB (m32 h.n.ve) 4)) by
    have e := hx.1
    unfold leafB
    rw [e, hty]
    (try simp [List.append_assoc]))
  have HZ := Lib.hid hz; have HLT := Lib.hid hlt
  have HZ' := Lib.hid (show v.n = h.n from hx.1)
  have HW0 := Lib.hid (H.below hb1); have HK0 := Lib.hid hk1; have HX0 := Lib.hid (hx.kw hk1 H.size)
  have HG0 := Lib.hid (heap_alloc_new w (.cells #[.int .i32 h.n.ty, .string h.n.path, slV h.d, slV h.a, .int .i64 h.n.ow, .int .i32 h.n.ve, .int .i32 h.n.cr, .bool h.n.qh, .int .i64 h.n.qc, .int .i64 h.n.qb, .int .i64 h.n.si, .int .i32 h.n.st, slV h.i, slV h.p, .int .i32 h.n.co, slV h.s] 33))
  have HN0 := Lib.hid hl
  have t1 : (h.n.ty == 1) = false := by rw [hty]; rfl
  have t2 : (h.n.ty == 2) = false := by rw [hty]; rfl
  have t121 : (h.n.ty == 121) = false := by rw [hty]; rfl
  have t5 : (h.n.ty == 5) = true := by rw [hty]; rfl
  have t7 : (h.n.ty == 7) = false := by rw [hty]; rfl
  have t13 : (h.n.ty == 13) = false := by rw [hty]; rfl
  have t120 : (h.n.ty == 120) = false := by rw [hty]; rfl
  have t14 : (h.n.ty == 14) = false := by rw [hty]; rfl
  have tm10 : (h.n.ty == -10) = false := by rw [hty]; rfl
  have tm11 : (h.n.ty == -11) = false := by rw [hty]; rfl
  have tm1 : (h.n.ty == -1) = false := by rw [hty]; rfl
  clear H hx hz hl hb1 hk1 hty hlt
  go_enter Tryz.func39, Tryz.ntmps39
  go_upto_region 1 with fail
  generalize w.alloc (.cells #[.int .i32 h.n.ty, .string h.n.path, slV h.d, slV h.a, .int .i64 h.n.ow, .int .i32 h.n.ve, .int .i32 h.n.cr, .bool h.n.qh, .int .i64 h.n.qc, .int .i64 h.n.qb, .int .i64 h.n.si, .int .i32 h.n.st, slV h.i, slV h.p, .int .i32 h.n.co, slV h.s] 33) = W0 at *
  have x0 : W0.cell? ⟨w.heap.size, 0, none⟩ = some (.int .i32 h.n.ty) := by rw [cellH HG0.out]; rfl
  have y0 : W0.cell? ⟨w.heap.size, 1, none⟩ = some (.string h.n.path) := by rw [cellH HG0.out]; rfl
  go_wp2_with fail
  refine (wText_any wb base l h.n.path W0 HW0.out (Nat.le_trans HN0.out (by decide)) (Nat.le_trans (show h.n.path.size ≤ 1048576 by rw [← HZ'.out]; exact HZ.out.path) (by decide))).mono ?_
  rintro e W1 ⟨rfl, hw, hk⟩
  obtain ⟨L1, hL⟩ : ∃ L1, L1 = l ++ txtB h.n.path := ⟨_, rfl⟩
  have HLE1 := Lib.hid hL
  have HN1 := Lib.hid (show L1.length ≤ 4398047559684 by
    rw [hL, List.length_append]
    have h8 : (txtB h.n.path).length ≤ 1048580 := pathB_len HZ.out HZ'.out
    have := HN0.out; omega)
  have HW1 := Lib.hid (show WrB W1 wb base L1 by rw [hL]; exact hw)
  have HK1 := Lib.hid (HK0.out.trans hk)
  have HX1 := Lib.hid (HX0.out.kw hk HW0.out.size)
  have HG1 := Lib.hid (hk.heap HG0.out (by decide) HLT.out)
  clear hw hk hL y0 x0
  have y1 : W1.cell? ⟨w.heap.size, 2, none⟩ = some (.slice h.d.1 h.d.2.1 h.d.2.2) := by rw [cellH HG1.out]; rfl
  go_wp2_with fail
  refine (bufC_any ⟨HW1.out, HX1.out, HZ.out, Nat.le_trans HN1.out (by decide)⟩).mono ?_
  rintro e W2 ⟨rfl, hw, hk⟩
  obtain ⟨L2, hL⟩ : ∃ L2, L2 = L1 ++ bufB v.data := ⟨_, rfl⟩
  have HLE2 := Lib.hid hL
  have HN2 := Lib.hid (show L2.length ≤ 4398048608264 by
    rw [hL, List.length_append]
    have h8 : (bufB v.data).length ≤ 1048580 := bufB_le HZ.out
    have := HN1.out; omega)
  have HW2 := Lib.hid (show WrB W2 wb base L2 by rw [hL]; exact hw)
  have HK2 := Lib.hid (HK1.out.trans hk)
  have HX2 := Lib.hid (HX1.out.kw hk HW1.out.size)
  have HG2 := Lib.hid (hk.heap HG1.out (by decide) HLT.out)
  clear hw hk hL y1
  have y2 : W2.cell? ⟨w.heap.size, 5, none⟩ = some (.int .i32 h.n.ve) := by rw [cellH HG2.out]; rfl
  go_wp2_with fail
  refine (wInt_any wb base L2 h.n.ve W2 HW2.out (Nat.le_trans HN2.out (by decide))).mono ?_
  rintro e W3 ⟨rfl, hw, hk⟩
  obtain ⟨L3, hL⟩ : ∃ L3, L3 = L2 ++ beB (m32 h.n.ve) 4 := ⟨_, rfl⟩
  have HLE3 := Lib.hid hL
  have HN3 := Lib.hid (show L3.length ≤ 4398048608268 by
    rw [hL, List.length_append]
    have h8 : (beB (m32 h.n.ve) 4).length ≤ 4 := (by rw [beB_len]; decide)
    have := HN2.out; omega)
  have HW3 := Lib.hid (show WrB W3 wb base L3 by rw [hL]; exact hw)
  have HK3 := Lib.hid (HK2.out.trans hk)
  have HX3 := Lib.hid (HX2.out.kw hk HW2.out.size)
  have HG3 := Lib.hid (hk.heap HG2.out (by decide) HLT.out)
  clear hw hk hL y2
  go_wp2_with fail
  refine bodyPost_ret (results_none rfl _ _ _) rfl ?_
  have hf : L3 = l ++ leafB v := by rw [HV.out, HLE3.out, HLE2.out, HLE1.out]; (try simp [List.append_assoc])
  exact ⟨rfl, hf ▸ HW3.out, HK3.out⟩
set_option linter.unusedSimpArgs false in
set_option maxRecDepth 100000 in
set_option maxHeartbeats 4000000 in
theorem put7_any (wb base : Nat) (l : Bs) (h : TxH) (v : TxF) (w : World) (H : WrB w wb base l) (hx : locTx w (PutR wb base) h v) (hz : LfSm v) (hl : l.length ≤ 4398046511104) (hty : h.n.ty = 7) :
    Calls Tryz.prog 39 #[.pointer (some ⟨wb, 0, none⟩), txV h] w (WrPost (l ++ leafB v) wb base w) := by
  have hb1 : Below w.heap.size w (w.alloc (.cells #[.int .i32 h.n.ty, .string h.n.path, slV h.d, slV h.a, .int .i64 h.n.ow, .int .i32 h.n.ve, .int .i32 h.n.cr, .bool h.n.qh, .int .i64 h.n.qc, .int .i64 h.n.qb, .int .i64 h.n.si, .int .i32 h.n.st, slV h.i, slV h.p, .int .i32 h.n.co, slV h.s] 33)) := (Below.refl _ w).alloc (Nat.le_refl _) _
  have hk1 : Kw wb base w (w.alloc (.cells #[.int .i32 h.n.ty, .string h.n.path, slV h.d, slV h.a, .int .i64 h.n.ow, .int .i32 h.n.ve, .int .i32 h.n.cr, .bool h.n.qh, .int .i64 h.n.qc, .int .i64 h.n.qb, .int .i64 h.n.si, .int .i32 h.n.st, slV h.i, slV h.p, .int .i32 h.n.co, slV h.s] 33)) := Kw.of_below hb1
  have hlt : w.heap.size ≠ wb := by have := H.lt; have := H.size; omega
  have HV := Lib.hid (show leafB v = txtB h.n.path ++ (aclsB v.acl ++ (beB (m32 h.n.ve) 4)) by
    have e := hx.1
    unfold leafB
    rw [e, hty]
    (try simp [List.append_assoc]))
  have HZ := Lib.hid hz; have HLT := Lib.hid hlt
  have HZ' := Lib.hid (show v.n = h.n from hx.1)
  have HW0 := Lib.hid (H.below hb1); have HK0 := Lib.hid hk1; have HX0 := Lib.hid (hx.kw hk1 H.size)
  have HG0 := Lib.hid (heap_alloc_new w (.cells #[.int .i32 h.n.ty, .string h.n.path, slV h.d, slV h.a, .int .i64 h.n.ow, .int .i32 h.n.ve, .int .i32 h.n.cr, .bool h.n.qh, .int .i64 h.n.qc, .int .i64 h.n.qb, .int .i64 h.n.si, .int .i32 h.n.st, slV h.i, slV h.p, .int .i32 h.n.co, slV h.s] 33))
  have HN0 := Lib.hid hl
  have t1 : (h.n.ty == 1) = false := by rw [hty]; rfl
  have t2 : (h.n.ty == 2) = false := by rw [hty]; rfl
  have t121 : (h.n.ty == 121) = false := by rw [hty]; rfl
  have t5 : (h.n.ty == 5) = false := by rw [hty]; rfl
  have t7 : (h.n.ty == 7) = true := by rw [hty]; rfl
  have t13 : (h.n.ty == 13) = false := by rw [hty]; rfl
  have t120 : (h.n.ty == 120) = false := by rw [hty]; rfl
  have t14 : (h.n.ty == 14) = false := by rw [hty]; rfl
  have tm10 : (h.n.ty == -10) = false := by rw [hty]; rfl
  have tm11 : (h.n.ty == -11) = false := by rw [hty]; rfl
  have tm1 : (h.n.ty == -1) = false := by rw [hty]; rfl
  clear H hx hz hl hb1 hk1 hty hlt
  go_enter Tryz.func39, Tryz.ntmps39
  go_upto_region 1 with fail
  generalize w.alloc (.cells #[.int .i32 h.n.ty, .string h.n.path, slV h.d, slV h.a, .int .i64 h.n.ow, .int .i32 h.n.ve, .int .i32 h.n.cr, .bool h.n.qh, .int .i64 h.n.qc, .int .i64 h.n.qb, .int .i64 h.n.si, .int .i32 h.n.st, slV h.i, slV h.p, .int .i32 h.n.co, slV h.s] 33) = W0 at *
  have x0 : W0.cell? ⟨w.heap.size, 0, none⟩ = some (.int .i32 h.n.ty) := by rw [cellH HG0.out]; rfl
  have y0 : W0.cell? ⟨w.heap.size, 1, none⟩ = some (.string h.n.path) := by rw [cellH HG0.out]; rfl
  go_wp2_with fail
  refine (wText_any wb base l h.n.path W0 HW0.out (Nat.le_trans HN0.out (by decide)) (Nat.le_trans (show h.n.path.size ≤ 1048576 by rw [← HZ'.out]; exact HZ.out.path) (by decide))).mono ?_
  rintro e W1 ⟨rfl, hw, hk⟩
  obtain ⟨L1, hL⟩ : ∃ L1, L1 = l ++ txtB h.n.path := ⟨_, rfl⟩
  have HLE1 := Lib.hid hL
  have HN1 := Lib.hid (show L1.length ≤ 4398047559684 by
    rw [hL, List.length_append]
    have h8 : (txtB h.n.path).length ≤ 1048580 := pathB_len HZ.out HZ'.out
    have := HN0.out; omega)
  have HW1 := Lib.hid (show WrB W1 wb base L1 by rw [hL]; exact hw)
  have HK1 := Lib.hid (HK0.out.trans hk)
  have HX1 := Lib.hid (HX0.out.kw hk HW0.out.size)
  have HG1 := Lib.hid (hk.heap HG0.out (by decide) HLT.out)
  clear hw hk hL y0 x0
  have y1 : W1.cell? ⟨w.heap.size, 3, none⟩ = some (.slice h.a.1 h.a.2.1 h.a.2.2) := by rw [cellH HG1.out]; rfl
  go_wp2_with fail
  refine (aclC_any ⟨HW1.out, HX1.out, HZ.out, Nat.le_trans HN1.out (by decide)⟩).mono ?_
  rintro e W2 ⟨rfl, hw, hk⟩
  obtain ⟨L2, hL⟩ : ∃ L2, L2 = L1 ++ aclsB v.acl := ⟨_, rfl⟩
  have HLE2 := Lib.hid hL
  have HN2 := Lib.hid (show L2.length ≤ 4398081114648 by
    rw [hL, List.length_append]
    have h8 : (aclsB v.acl).length ≤ 33554964 := aclsB_len HZ.out
    have := HN1.out; omega)
  have HW2 := Lib.hid (show WrB W2 wb base L2 by rw [hL]; exact hw)
  have HK2 := Lib.hid (HK1.out.trans hk)
  have HX2 := Lib.hid (HX1.out.kw hk HW1.out.size)
  have HG2 := Lib.hid (hk.heap HG1.out (by decide) HLT.out)
  clear hw hk hL y1
  have y2 : W2.cell? ⟨w.heap.size, 5, none⟩ = some (.int .i32 h.n.ve) := by rw [cellH HG2.out]; rfl
  go_wp2_with fail
  refine (wInt_any wb base L2 h.n.ve W2 HW2.out (Nat.le_trans HN2.out (by decide))).mono ?_
  rintro e W3 ⟨rfl, hw, hk⟩
  obtain ⟨L3, hL⟩ : ∃ L3, L3 = L2 ++ beB (m32 h.n.ve) 4 := ⟨_, rfl⟩
  have HLE3 := Lib.hid hL
  have HN3 := Lib.hid (show L3.length ≤ 4398081114652 by
    rw [hL, List.length_append]
    have h8 : (beB (m32 h.n.ve) 4).length ≤ 4 := (by rw [beB_len]; decide)
    have := HN2.out; omega)
  have HW3 := Lib.hid (show WrB W3 wb base L3 by rw [hL]; exact hw)
  have HK3 := Lib.hid (HK2.out.trans hk)
  have HX3 := Lib.hid (HX2.out.kw hk HW2.out.size)
  have HG3 := Lib.hid (hk.heap HG2.out (by decide) HLT.out)
  clear hw hk hL y2
  go_wp2_with fail
  refine bodyPost_ret (results_none rfl _ _ _) rfl ?_
  have hf : L3 = l ++ leafB v := by rw [HV.out, HLE3.out, HLE2.out, HLE1.out]; (try simp [List.append_assoc])
  exact ⟨rfl, hf ▸ HW3.out, HK3.out⟩
set_option linter.unusedSimpArgs false in
set_option maxRecDepth 100000 in
set_option maxHeartbeats 4000000 in
theorem put13_any (wb base : Nat) (l : Bs) (h : TxH) (v : TxF) (w : World) (H : WrB w wb base l) (hx : locTx w (PutR wb base) h v) (hz : LfSm v) (hl : l.length ≤ 4398046511104) (hty : h.n.ty = 13) :
    Calls Tryz.prog 39 #[.pointer (some ⟨wb, 0, none⟩), txV h] w (WrPost (l ++ leafB v) wb base w) := by
  have hb1 : Below w.heap.size w (w.alloc (.cells #[.int .i32 h.n.ty, .string h.n.path, slV h.d, slV h.a, .int .i64 h.n.ow, .int .i32 h.n.ve, .int .i32 h.n.cr, .bool h.n.qh, .int .i64 h.n.qc, .int .i64 h.n.qb, .int .i64 h.n.si, .int .i32 h.n.st, slV h.i, slV h.p, .int .i32 h.n.co, slV h.s] 33)) := (Below.refl _ w).alloc (Nat.le_refl _) _
  have hk1 : Kw wb base w (w.alloc (.cells #[.int .i32 h.n.ty, .string h.n.path, slV h.d, slV h.a, .int .i64 h.n.ow, .int .i32 h.n.ve, .int .i32 h.n.cr, .bool h.n.qh, .int .i64 h.n.qc, .int .i64 h.n.qb, .int .i64 h.n.si, .int .i32 h.n.st, slV h.i, slV h.p, .int .i32 h.n.co, slV h.s] 33)) := Kw.of_below hb1
  have hlt : w.heap.size ≠ wb := by have := H.lt; have := H.size; omega
  have HV := Lib.hid (show leafB v = txtB h.n.path ++ (beB (m32 h.n.ve) 4) by
    have e := hx.1
    unfold leafB
    rw [e, hty]
    (try simp [List.append_assoc]))
  have HZ := Lib.hid hz; have HLT := Lib.hid hlt
  have HZ' := Lib.hid (show v.n = h.n from hx.1)
  have HW0 := Lib.hid (H.below hb1); have HK0 := Lib.hid hk1; have HX0 := Lib.hid (hx.kw hk1 H.size)
  have HG0 := Lib.hid (heap_alloc_new w (.cells #[.int .i32 h.n.ty, .string h.n.path, slV h.d, slV h.a, .int .i64 h.n.ow, .int .i32 h.n.ve, .int .i32 h.n.cr, .bool h.n.qh, .int .i64 h.n.qc, .int .i64 h.n.qb, .int .i64 h.n.si, .int .i32 h.n.st, slV h.i, slV h.p, .int .i32 h.n.co, slV h.s] 33))
  have HN0 := Lib.hid hl
  have t1 : (h.n.ty == 1) = false := by rw [hty]; rfl
  have t2 : (h.n.ty == 2) = false := by rw [hty]; rfl
  have t121 : (h.n.ty == 121) = false := by rw [hty]; rfl
  have t5 : (h.n.ty == 5) = false := by rw [hty]; rfl
  have t7 : (h.n.ty == 7) = false := by rw [hty]; rfl
  have t13 : (h.n.ty == 13) = true := by rw [hty]; rfl
  have t120 : (h.n.ty == 120) = false := by rw [hty]; rfl
  have t14 : (h.n.ty == 14) = false := by rw [hty]; rfl
  have tm10 : (h.n.ty == -10) = false := by rw [hty]; rfl
  have tm11 : (h.n.ty == -11) = false := by rw [hty]; rfl
  have tm1 : (h.n.ty == -1) = false := by rw [hty]; rfl
  clear H hx hz hl hb1 hk1 hty hlt
  go_enter Tryz.func39, Tryz.ntmps39
  go_upto_region 1 with fail
  generalize w.alloc (.cells #[.int .i32 h.n.ty, .string h.n.path, slV h.d, slV h.a, .int .i64 h.n.ow, .int .i32 h.n.ve, .int .i32 h.n.cr, .bool h.n.qh, .int .i64 h.n.qc, .int .i64 h.n.qb, .int .i64 h.n.si, .int .i32 h.n.st, slV h.i, slV h.p, .int .i32 h.n.co, slV h.s] 33) = W0 at *
  have x0 : W0.cell? ⟨w.heap.size, 0, none⟩ = some (.int .i32 h.n.ty) := by rw [cellH HG0.out]; rfl
  have y0 : W0.cell? ⟨w.heap.size, 1, none⟩ = some (.string h.n.path) := by rw [cellH HG0.out]; rfl
  go_wp2_with fail
  refine (wText_any wb base l h.n.path W0 HW0.out (Nat.le_trans HN0.out (by decide)) (Nat.le_trans (show h.n.path.size ≤ 1048576 by rw [← HZ'.out]; exact HZ.out.path) (by decide))).mono ?_
  rintro e W1 ⟨rfl, hw, hk⟩
  obtain ⟨L1, hL⟩ : ∃ L1, L1 = l ++ txtB h.n.path := ⟨_, rfl⟩
  have HLE1 := Lib.hid hL
  have HN1 := Lib.hid (show L1.length ≤ 4398047559684 by
    rw [hL, List.length_append]
    have h8 : (txtB h.n.path).length ≤ 1048580 := pathB_len HZ.out HZ'.out
    have := HN0.out; omega)
  have HW1 := Lib.hid (show WrB W1 wb base L1 by rw [hL]; exact hw)
  have HK1 := Lib.hid (HK0.out.trans hk)
  have HX1 := Lib.hid (HX0.out.kw hk HW0.out.size)
  have HG1 := Lib.hid (hk.heap HG0.out (by decide) HLT.out)
  clear hw hk hL y0 x0
  have y1 : W1.cell? ⟨w.heap.size, 5, none⟩ = some (.int .i32 h.n.ve) := by rw [cellH HG1.out]; rfl
  go_wp2_with fail
  refine (wInt_any wb base L1 h.n.ve W1 HW1.out (Nat.le_trans HN1.out (by decide))).mono ?_
  rintro e W2 ⟨rfl, hw, hk⟩
  obtain ⟨L2, hL⟩ : ∃ L2, L2 = L1 ++ beB (m32 h.n.ve) 4 := ⟨_, rfl⟩
  have HLE2 := Lib.hid hL
  have HN2 := Lib.hid (show L2.length ≤ 4398047559688 by
    rw [hL, List.length_append]
    have h8 : (beB (m32 h.n.ve) 4).length ≤ 4 := (by rw [beB_len]; decide)
    have := HN1.out; omega)
  have HW2 := Lib.hid (show WrB W2 wb base L2 by rw [hL]; exact hw)
  have HK2 := Lib.hid (HK1.out.trans hk)
  have HX2 := Lib.hid (HX1.out.kw hk HW1.out.size)
  have HG2 := Lib.hid (hk.heap HG1.out (by decide) HLT.out)
  clear hw hk hL y1
  go_wp2_with fail
  refine bodyPost_ret (results_none rfl _ _ _) rfl ?_
  have hf : L2 = l ++ leafB v := by rw [HV.out, HLE2.out, HLE1.out]; (try simp [List.append_assoc])
  exact ⟨rfl, hf ▸ HW2.out, HK2.out⟩
set_option linter.unusedSimpArgs false in
set_option maxRecDepth 100000 in
set_option maxHeartbeats 4000000 in
theorem put120_any (wb base : Nat) (l : Bs) (h : TxH) (v : TxF) (w : World) (H : WrB w wb base l) (hx : locTx w (PutR wb base) h v) (hz : LfSm v) (hl : l.length ≤ 4398046511104) (hty : h.n.ty = 120) :
    Calls Tryz.prog 39 #[.pointer (some ⟨wb, 0, none⟩), txV h] w (WrPost (l ++ leafB v) wb base w) := by
  have hb1 : Below w.heap.size w (w.alloc (.cells #[.int .i32 h.n.ty, .string h.n.path, slV h.d, slV h.a, .int .i64 h.n.ow, .int .i32 h.n.ve, .int .i32 h.n.cr, .bool h.n.qh, .int .i64 h.n.qc, .int .i64 h.n.qb, .int .i64 h.n.si, .int .i32 h.n.st, slV h.i, slV h.p, .int .i32 h.n.co, slV h.s] 33)) := (Below.refl _ w).alloc (Nat.le_refl _) _
  have hk1 : Kw wb base w (w.alloc (.cells #[.int .i32 h.n.ty, .string h.n.path, slV h.d, slV h.a, .int .i64 h.n.ow, .int .i32 h.n.ve, .int .i32 h.n.cr, .bool h.n.qh, .int .i64 h.n.qc, .int .i64 h.n.qb, .int .i64 h.n.si, .int .i32 h.n.st, slV h.i, slV h.p, .int .i32 h.n.co, slV h.s] 33)) := Kw.of_below hb1
  have hlt : w.heap.size ≠ wb := by have := H.lt; have := H.size; omega
  have HV := Lib.hid (show leafB v = txtB h.n.path ++ (beB (m64 h.n.qc) 8 ++ (beB (m64 h.n.qb) 8)) by
    have e := hx.1
    unfold leafB
    rw [e, hty]
    (try simp [List.append_assoc]))
  have HZ := Lib.hid hz; have HLT := Lib.hid hlt
  have HZ' := Lib.hid (show v.n = h.n from hx.1)
  have HW0 := Lib.hid (H.below hb1); have HK0 := Lib.hid hk1; have HX0 := Lib.hid (hx.kw hk1 H.size)
  have HG0 := Lib.hid (heap_alloc_new w (.cells #[.int .i32 h.n.ty, .string h.n.path, slV h.d, slV h.a, .int .i64 h.n.ow, .int .i32 h.n.ve, .int .i32 h.n.cr, .bool h.n.qh, .int .i64 h.n.qc, .int .i64 h.n.qb, .int .i64 h.n.si, .int .i32 h.n.st, slV h.i, slV h.p, .int .i32 h.n.co, slV h.s] 33))
  have HN0 := Lib.hid hl
  have t1 : (h.n.ty == 1) = false := by rw [hty]; rfl
  have t2 : (h.n.ty == 2) = false := by rw [hty]; rfl
  have t121 : (h.n.ty == 121) = false := by rw [hty]; rfl
  have t5 : (h.n.ty == 5) = false := by rw [hty]; rfl
  have t7 : (h.n.ty == 7) = false := by rw [hty]; rfl
  have t13 : (h.n.ty == 13) = false := by rw [hty]; rfl
  have t120 : (h.n.ty == 120) = true := by rw [hty]; rfl
  have t14 : (h.n.ty == 14) = false := by rw [hty]; rfl
  have tm10 : (h.n.ty == -10) = false := by rw [hty]; rfl
  have tm11 : (h.n.ty == -11) = false := by rw [hty]; rfl
  have tm1 : (h.n.ty == -1) = false := by rw [hty]; rfl
  clear H hx hz hl hb1 hk1 hty hlt
  go_enter Tryz.func39, Tryz.ntmps39
  go_upto_region 1 with fail
  generalize w.alloc (.cells #[.int .i32 h.n.ty, .string h.n.path, slV h.d, slV h.a, .int .i64 h.n.ow, .int .i32 h.n.ve, .int .i32 h.n.cr, .bool h.n.qh, .int .i64 h.n.qc, .int .i64 h.n.qb, .int .i64 h.n.si, .int .i32 h.n.st, slV h.i, slV h.p, .int .i32 h.n.co, slV h.s] 33) = W0 at *
  have x0 : W0.cell? ⟨w.heap.size, 0, none⟩ = some (.int .i32 h.n.ty) := by rw [cellH HG0.out]; rfl
  have y0 : W0.cell? ⟨w.heap.size, 1, none⟩ = some (.string h.n.path) := by rw [cellH HG0.out]; rfl
  go_wp2_with fail
  refine (wText_any wb base l h.n.path W0 HW0.out (Nat.le_trans HN0.out (by decide)) (Nat.le_trans (show h.n.path.size ≤ 1048576 by rw [← HZ'.out]; exact HZ.out.path) (by decide))).mono ?_
  rintro e W1 ⟨rfl, hw, hk⟩
  obtain ⟨L1, hL⟩ : ∃ L1, L1 = l ++ txtB h.n.path := ⟨_, rfl⟩
  have HLE1 := Lib.hid hL
  have HN1 := Lib.hid (show L1.length ≤ 4398047559684 by
    rw [hL, List.length_append]
    have h8 : (txtB h.n.path).length ≤ 1048580 := pathB_len HZ.out HZ'.out
    have := HN0.out; omega)
  have HW1 := Lib.hid (show WrB W1 wb base L1 by rw [hL]; exact hw)
  have HK1 := Lib.hid (HK0.out.trans hk)
  have HX1 := Lib.hid (HX0.out.kw hk HW0.out.size)
  have HG1 := Lib.hid (hk.heap HG0.out (by decide) HLT.out)
  clear hw hk hL y0 x0
  have y1 : W1.cell? ⟨w.heap.size, 8, none⟩ = some (.int .i64 h.n.qc) := by rw [cellH HG1.out]; rfl
  go_wp2_with fail
  refine (wLong_any wb base L1 h.n.qc W1 HW1.out (Nat.le_trans HN1.out (by decide))).mono ?_
  rintro e W2 ⟨rfl, hw, hk⟩
  obtain ⟨L2, hL⟩ : ∃ L2, L2 = L1 ++ beB (m64 h.n.qc) 8 := ⟨_, rfl⟩
  have HLE2 := Lib.hid hL
  have HN2 := Lib.hid (show L2.length ≤ 4398047559692 by
    rw [hL, List.length_append]
    have h8 : (beB (m64 h.n.qc) 8).length ≤ 8 := (by rw [beB_len]; exact Nat.le_refl _)
    have := HN1.out; omega)
  have HW2 := Lib.hid (show WrB W2 wb base L2 by rw [hL]; exact hw)
  have HK2 := Lib.hid (HK1.out.trans hk)
  have HX2 := Lib.hid (HX1.out.kw hk HW1.out.size)
  have HG2 := Lib.hid (hk.heap HG1.out (by decide) HLT.out)
  clear hw hk hL y1
  have y2 : W2.cell? ⟨w.heap.size, 9, none⟩ = some (.int .i64 h.n.qb) := by rw [cellH HG2.out]; rfl
  go_wp2_with fail
  refine (wLong_any wb base L2 h.n.qb W2 HW2.out (Nat.le_trans HN2.out (by decide))).mono ?_
  rintro e W3 ⟨rfl, hw, hk⟩
  obtain ⟨L3, hL⟩ : ∃ L3, L3 = L2 ++ beB (m64 h.n.qb) 8 := ⟨_, rfl⟩
  have HLE3 := Lib.hid hL
  have HN3 := Lib.hid (show L3.length ≤ 4398047559700 by
    rw [hL, List.length_append]
    have h8 : (beB (m64 h.n.qb) 8).length ≤ 8 := (by rw [beB_len]; exact Nat.le_refl _)
    have := HN2.out; omega)
  have HW3 := Lib.hid (show WrB W3 wb base L3 by rw [hL]; exact hw)
  have HK3 := Lib.hid (HK2.out.trans hk)
  have HX3 := Lib.hid (HX2.out.kw hk HW2.out.size)
  have HG3 := Lib.hid (hk.heap HG2.out (by decide) HLT.out)
  clear hw hk hL y2
  go_wp2_with fail
  refine bodyPost_ret (results_none rfl _ _ _) rfl ?_
  have hf : L3 = l ++ leafB v := by rw [HV.out, HLE3.out, HLE2.out, HLE1.out]; (try simp [List.append_assoc])
  exact ⟨rfl, hf ▸ HW3.out, HK3.out⟩
set_option linter.unusedSimpArgs false in
set_option maxRecDepth 100000 in
set_option maxHeartbeats 4000000 in
theorem putM10_any (wb base : Nat) (l : Bs) (h : TxH) (v : TxF) (w : World) (H : WrB w wb base l) (hx : locTx w (PutR wb base) h v) (hz : LfSm v) (hl : l.length ≤ 4398046511104) (hty : h.n.ty = -10) :
    Calls Tryz.prog 39 #[.pointer (some ⟨wb, 0, none⟩), txV h] w (WrPost (l ++ leafB v) wb base w) := by
  have hb1 : Below w.heap.size w (w.alloc (.cells #[.int .i32 h.n.ty, .string h.n.path, slV h.d, slV h.a, .int .i64 h.n.ow, .int .i32 h.n.ve, .int .i32 h.n.cr, .bool h.n.qh, .int .i64 h.n.qc, .int .i64 h.n.qb, .int .i64 h.n.si, .int .i32 h.n.st, slV h.i, slV h.p, .int .i32 h.n.co, slV h.s] 33)) := (Below.refl _ w).alloc (Nat.le_refl _) _
  have hk1 : Kw wb base w (w.alloc (.cells #[.int .i32 h.n.ty, .string h.n.path, slV h.d, slV h.a, .int .i64 h.n.ow, .int .i32 h.n.ve, .int .i32 h.n.cr, .bool h.n.qh, .int .i64 h.n.qc, .int .i64 h.n.qb, .int .i64 h.n.si, .int .i32 h.n.st, slV h.i, slV h.p, .int .i32 h.n.co, slV h.s] 33)) := Kw.of_below hb1
  have hlt : w.heap.size ≠ wb := by have := H.lt; have := H.size; omega
  have HV := Lib.hid (show leafB v = beB (m32 h.n.st) 4 ++ (idsB v.ids) by
    have e := hx.1
    unfold leafB
    rw [e, hty]
    (try simp [List.append_assoc]))
  have HZ := Lib.hid hz; have HLT := Lib.hid hlt
  have HZ' := Lib.hid (show v.n = h.n from hx.1)
  have HW0 := Lib.hid (H.below hb1); have HK0 := Lib.hid hk1; have HX0 := Lib.hid (hx.kw hk1 H.size)
  have HG0 := Lib.hid (heap_alloc_new w (.cells #[.int .i32 h.n.ty, .string h.n.path, slV h.d, slV h.a, .int .i64 h.n.ow, .int .i32 h.n.ve, .int .i32 h.n.cr, .bool h.n.qh, .int .i64 h.n.qc, .int .i64 h.n.qb, .int .i64 h.n.si, .int .i32 h.n.st, slV h.i, slV h.p, .int .i32 h.n.co, slV h.s] 33))
  have HN0 := Lib.hid hl
  have t1 : (h.n.ty == 1) = false := by rw [hty]; rfl
  have t2 : (h.n.ty == 2) = false := by rw [hty]; rfl
  have t121 : (h.n.ty == 121) = false := by rw [hty]; rfl
  have t5 : (h.n.ty == 5) = false := by rw [hty]; rfl
  have t7 : (h.n.ty == 7) = false := by rw [hty]; rfl
  have t13 : (h.n.ty == 13) = false := by rw [hty]; rfl
  have t120 : (h.n.ty == 120) = false := by rw [hty]; rfl
  have t14 : (h.n.ty == 14) = false := by rw [hty]; rfl
  have tm10 : (h.n.ty == -10) = true := by rw [hty]; rfl
  have tm11 : (h.n.ty == -11) = false := by rw [hty]; rfl
  have tm1 : (h.n.ty == -1) = false := by rw [hty]; rfl
  clear H hx hz hl hb1 hk1 hty hlt
  go_enter Tryz.func39, Tryz.ntmps39
  go_upto_region 1 with fail
  generalize w.alloc (.cells #[.int .i32 h.n.ty, .string h.n.path, slV h.d, slV h.a, .int .i64 h.n.ow, .int .i32 h.n.ve, .int .i32 h.n.cr, .bool h.n.qh, .int .i64 h.n.qc, .int .i64 h.n.qb, .int .i64 h.n.si, .int .i32 h.n.st, slV h.i, slV h.p, .int .i32 h.n.co, slV h.s] 33) = W0 at *
  have x0 : W0.cell? ⟨w.heap.size, 0, none⟩ = some (.int .i32 h.n.ty) := by rw [cellH HG0.out]; rfl
  have y0 : W0.cell? ⟨w.heap.size, 11, none⟩ = some (.int .i32 h.n.st) := by rw [cellH HG0.out]; rfl
  go_wp2_with fail
  refine (wInt_any wb base l h.n.st W0 HW0.out (Nat.le_trans HN0.out (by decide))).mono ?_
  rintro e W1 ⟨rfl, hw, hk⟩
  obtain ⟨L1, hL⟩ : ∃ L1, L1 = l ++ beB (m32 h.n.st) 4 := ⟨_, rfl⟩
  have HLE1 := Lib.hid hL
  have HN1 := Lib.hid (show L1.length ≤ 4398046511108 by
    rw [hL, List.length_append]
    have h8 : (beB (m32 h.n.st) 4).length ≤ 4 := (by rw [beB_len]; decide)
    have := HN0.out; omega)
  have HW1 := Lib.hid (show WrB W1 wb base L1 by rw [hL]; exact hw)
  have HK1 := Lib.hid (HK0.out.trans hk)
  have HX1 := Lib.hid (HX0.out.kw hk HW0.out.size)
  have HG1 := Lib.hid (hk.heap HG0.out (by decide) HLT.out)
  clear hw hk hL y0 x0
  have y1 : W1.cell? ⟨w.heap.size, 12, none⟩ = some (.slice h.i.1 h.i.2.1 h.i.2.2) := by rw [cellH HG1.out]; rfl
  go_wp2_with fail
  refine (idsC_any ⟨HW1.out, HX1.out, HZ.out, Nat.le_trans HN1.out (by decide)⟩).mono ?_
  rintro e W2 ⟨rfl, hw, hk⟩
  obtain ⟨L2, hL⟩ : ∃ L2, L2 = L1 ++ idsB v.ids := ⟨_, rfl⟩
  have HLE2 := Lib.hid hL
  have HN2 := Lib.hid (show L2.length ≤ 6597078155272 by
    rw [hL, List.length_append]
    have h8 : (idsB v.ids).length ≤ 2199031644164 := idsB_len HZ.out
    have := HN1.out; omega)
  have HW2 := Lib.hid (show WrB W2 wb base L2 by rw [hL]; exact hw)
  have HK2 := Lib.hid (HK1.out.trans hk)
  have HX2 := Lib.hid (HX1.out.kw hk HW1.out.size)
  have HG2 := Lib.hid (hk.heap HG1.out (by decide) HLT.out)
  clear hw hk hL y1
  go_wp2_with fail
  refine bodyPost_ret (results_none rfl _ _ _) rfl ?_
  have hf : L2 = l ++ leafB v := by rw [HV.out, HLE2.out, HLE1.out]; (try simp [List.append_assoc])
  exact ⟨rfl, hf ▸ HW2.out, HK2.out⟩
set_option linter.unusedSimpArgs false in
set_option maxRecDepth 100000 in
set_option maxHeartbeats 4000000 in
theorem putM11_any (wb base : Nat) (l : Bs) (h : TxH) (v : TxF) (w : World) (H : WrB w wb base l) (hx : locTx w (PutR wb base) h v) (hz : LfSm v) (hl : l.length ≤ 4398046511104) (hty : h.n.ty = -11) :
    Calls Tryz.prog 39 #[.pointer (some ⟨wb, 0, none⟩), txV h] w (WrPost (l ++ leafB v) wb base w) := by
  have hb1 : Below w.heap.size w (w.alloc (.cells #[.int .i32 h.n.ty, .string h.n.path, slV h.d, slV h.a, .int .i64 h.n.ow, .int .i32 h.n.ve, .int .i32 h.n.cr, .bool h.n.qh, .int .i64 h.n.qc, .int .i64 h.n.qb, .int .i64 h.n.si, .int .i32 h.n.st, slV h.i, slV h.p, .int .i32 h.n.co, slV h.s] 33)) := (Below.refl _ w).alloc (Nat.le_refl _) _
  have hk1 : Kw wb base w (w.alloc (.cells #[.int .i32 h.n.ty, .string h.n.path, slV h.d, slV h.a, .int .i64 h.n.ow, .int .i32 h.n.ve, .int .i32 h.n.cr, .bool h.n.qh, .int .i64 h.n.qc, .int .i64 h.n.qb, .int .i64 h.n.si, .int .i32 h.n.st, slV h.i, slV h.p, .int .i32 h.n.co, slV h.s] 33)) := Kw.of_below hb1
  have hlt : w.heap.size ≠ wb := by have := H.lt; have := H.size; omega
  have HV := Lib.hid (show leafB v = txtsB v.paths by
    have e := hx.1
    unfold leafB
    rw [e, hty]
    (try simp [List.append_assoc]))
  have HZ := Lib.hid hz; have HLT := Lib.hid hlt
  have HZ' := Lib.hid (show v.n = h.n from hx.1)
  have HW0 := Lib.hid (H.below hb1); have HK0 := Lib.hid hk1; have HX0 := Lib.hid (hx.kw hk1 H.size)
  have HG0 := Lib.hid (heap_alloc_new w (.cells #[.int .i32 h.n.ty, .string h.n.path, slV h.d, slV h.a, .int .i64 h.n.ow, .int .i32 h.n.ve, .int .i32 h.n.cr, .bool h.n.qh, .int .i64 h.n.qc, .int .i64 h.n.qb, .int .i64 h.n.si, .int .i32 h.n.st, slV h.i, slV h.p, .int .i32 h.n.co, slV h.s] 33))
  have HN0 := Lib.hid hl
  have t1 : (h.n.ty == 1) = false := by rw [hty]; rfl
  have t2 : (h.n.ty == 2) = false := by rw [hty]; rfl
  have t121 : (h.n.ty == 121) = false := by rw [hty]; rfl
  have t5 : (h.n.ty == 5) = false := by rw [hty]; rfl
  have t7 : (h.n.ty == 7) = false := by rw [hty]; rfl
  have t13 : (h.n.ty == 13) = false := by rw [hty]; rfl
  have t120 : (h.n.ty == 120) = false := by rw [hty]; rfl
  have t14 : (h.n.ty == 14) = false := by rw [hty]; rfl
  have tm10 : (h.n.ty == -10) = false := by rw [hty]; rfl
  have tm11 : (h.n.ty == -11) = true := by rw [hty]; rfl
  have tm1 : (h.n.ty == -1) = false := by rw [hty]; rfl
  clear H hx hz hl hb1 hk1 hty hlt
  go_enter Tryz.func39, Tryz.ntmps39
  go_upto_region 1 with fail
  generalize w.alloc (.cells #[.int .i32 h.n.ty, .string h.n.path, slV h.d, slV h.a, .int .i64 h.n.ow, .int .i32 h.n.ve, .int .i32 h.n.cr, .bool h.n.qh, .int .i64 h.n.qc, .int .i64 h.n.qb, .int .i64 h.n.si, .int .i32 h.n.st, slV h.i, slV h.p, .int .i32 h.n.co, slV h.s] 33) = W0 at *
  have x0 : W0.cell? ⟨w.heap.size, 0, none⟩ = some (.int .i32 h.n.ty) := by rw [cellH HG0.out]; rfl
  have y0 : W0.cell? ⟨w.heap.size, 13, none⟩ = some (.slice h.p.1 h.p.2.1 h.p.2.2) := by rw [cellH HG0.out]; rfl
  go_wp2_with fail
  refine (ptsC_any ⟨HW0.out, HX0.out, HZ.out, Nat.le_trans HN0.out (by decide)⟩).mono ?_
  rintro e W1 ⟨rfl, hw, hk⟩
  obtain ⟨L1, hL⟩ : ∃ L1, L1 = l ++ txtsB v.paths := ⟨_, rfl⟩
  have HLE1 := Lib.hid hL
  have HN1 := Lib.hid (show L1.length ≤ 4399120257028 by
    rw [hL, List.length_append]
    have h8 : (txtsB v.paths).length ≤ 1073745924 := txtsB_len HZ.out
    have := HN0.out; omega)
  have HW1 := Lib.hid (show WrB W1 wb base L1 by rw [hL]; exact hw)
  have HK1 := Lib.hid (HK0.out.trans hk)
  have HX1 := Lib.hid (HX0.out.kw hk HW0.out.size)
  have HG1 := Lib.hid (hk.heap HG0.out (by decide) HLT.out)
  clear hw hk hL y0 x0
  go_wp2_with fail
  refine bodyPost_ret (results_none rfl _ _ _) rfl ?_
  have hf : L1 = l ++ leafB v := by rw [HV.out, HLE1.out]; (try simp [List.append_assoc])
  exact ⟨rfl, hf ▸ HW1.out, HK1.out⟩
set_option linter.unusedSimpArgs false in
set_option maxRecDepth 100000 in
set_option maxHeartbeats 4000000 in
theorem putM1_any (wb base : Nat) (l : Bs) (h : TxH) (v : TxF) (w : World) (H : WrB w wb base l) (hx : locTx w (PutR wb base) h v) (hz : LfSm v) (hl : l.length ≤ 4398046511104) (hty : h.n.ty = -1) :
    Calls Tryz.prog 39 #[.pointer (some ⟨wb, 0, none⟩), txV h] w (WrPost (l ++ leafB v) wb base w) := by
  have hb1 : Below w.heap.size w (w.alloc (.cells #[.int .i32 h.n.ty, .string h.n.path, slV h.d, slV h.a, .int .i64 h.n.ow, .int .i32 h.n.ve, .int .i32 h.n.cr, .bool h.n.qh, .int .i64 h.n.qc, .int .i64 h.n.qb, .int .i64 h.n.si, .int .i32 h.n.st, slV h.i, slV h.p, .int .i32 h.n.co, slV h.s] 33)) := (Below.refl _ w).alloc (Nat.le_refl _) _
  have hk1 : Kw wb base w (w.alloc (.cells #[.int .i32 h.n.ty, .string h.n.path, slV h.d, slV h.a, .int .i64 h.n.ow, .int .i32 h.n.ve, .int .i32 h.n.cr, .bool h.n.qh, .int .i64 h.n.qc, .int .i64 h.n.qb, .int .i64 h.n.si, .int .i32 h.n.st, slV h.i, slV h.p, .int .i32 h.n.co, slV h.s] 33)) := Kw.of_below hb1
  have hlt : w.heap.size ≠ wb := by have := H.lt; have := H.size; omega
  have HV := Lib.hid (show leafB v = beB (m32 h.n.co) 4 by
    have e := hx.1
    unfold leafB
    rw [e, hty]
    (try simp [List.append_assoc]))
  have HZ := Lib.hid hz; have HLT := Lib.hid hlt
  have HZ' := Lib.hid (show v.n = h.n from hx.1)
  have HW0 := Lib.hid (H.below hb1); have HK0 := Lib.hid hk1; have HX0 := Lib.hid (hx.kw hk1 H.size)
  have HG0 := Lib.hid (heap_alloc_new w (.cells #[.int .i32 h.n.ty, .string h.n.path, slV h.d, slV h.a, .int .i64 h.n.ow, .int .i32 h.n.ve, .int .i32 h.n.cr, .bool h.n.qh, .int .i64 h.n.qc, .int .i64 h.n.qb, .int .i64 h.n.si, .int .i32 h.n.st, slV h.i, slV h.p, .int .i32 h.n.co, slV h.s] 33))
  have HN0 := Lib.hid hl
  have t1 : (h.n.ty == 1) = false := by rw [hty]; rfl
  have t2 : (h.n.ty == 2) = false := by rw [hty]; rfl
  have t121 : (h.n.ty == 121) = false := by rw [hty]; rfl
  have t5 : (h.n.ty == 5) = false := by rw [hty]; rfl
  have t7 : (h.n.ty == 7) = false := by rw [hty]; rfl
  have t13 : (h.n.ty == 13) = false := by rw [hty]; rfl
  have t120 : (h.n.ty == 120) = false := by rw [hty]; rfl
  have t14 : (h.n.ty == 14) = false := by rw [hty]; rfl
  have tm10 : (h.n.ty == -10) = false := by rw [hty]; rfl
  have tm11 : (h.n.ty == -11) = false := by rw [hty]; rfl
  have tm1 : (h.n.ty == -1) = true := by rw [hty]; rfl
  clear H hx hz hl hb1 hk1 hty hlt
  go_enter Tryz.func39, Tryz.ntmps39
  go_upto_region 1 with fail
  generalize w.alloc (.cells #[.int .i32 h.n.ty, .string h.n.path, slV h.d, slV h.a, .int .i64 h.n.ow, .int .i32 h.n.ve, .int .i32 h.n.cr, .bool h.n.qh, .int .i64 h.n.qc, .int .i64 h.n.qb, .int .i64 h.n.si, .int .i32 h.n.st, slV h.i, slV h.p, .int .i32 h.n.co, slV h.s] 33) = W0 at *
  have x0 : W0.cell? ⟨w.heap.size, 0, none⟩ = some (.int .i32 h.n.ty) := by rw [cellH HG0.out]; rfl
  have y0 : W0.cell? ⟨w.heap.size, 14, none⟩ = some (.int .i32 h.n.co) := by rw [cellH HG0.out]; rfl
  go_wp2_with fail
  refine (wInt_any wb base l h.n.co W0 HW0.out (Nat.le_trans HN0.out (by decide))).mono ?_
  rintro e W1 ⟨rfl, hw, hk⟩
  obtain ⟨L1, hL⟩ : ∃ L1, L1 = l ++ beB (m32 h.n.co) 4 := ⟨_, rfl⟩
  have HLE1 := Lib.hid hL
  have HN1 := Lib.hid (show L1.length ≤ 4398046511108 by
    rw [hL, List.length_append]
    have h8 : (beB (m32 h.n.co) 4).length ≤ 4 := (by rw [beB_len]; decide)
    have := HN0.out; omega)
  have HW1 := Lib.hid (show WrB W1 wb base L1 by rw [hL]; exact hw)
  have HK1 := Lib.hid (HK0.out.trans hk)
  have HX1 := Lib.hid (HX0.out.kw hk HW0.out.size)
  have HG1 := Lib.hid (hk.heap HG0.out (by decide) HLT.out)
  clear hw hk hL y0 x0
  go_wp2_with fail
  refine bodyPost_ret (results_none rfl _ _ _) rfl ?_
  have hf : L1 = l ++ leafB v := by rw [HV.out, HLE1.out]; (try simp [List.append_assoc])
  exact ⟨rfl, hf ▸ HW1.out, HK1.out⟩
end Go.Proofs.YthpjneobmmpbnaaGreatDoor
namespace Go.Proofs.YthpjneobmmpbnaaGreatDoor
open Go.RowKit Go.MapKept
theorem kTxOk : KdOk kTx where
  len := fun _ => rfl
  pos := by decide
  one := fun x u hu => by
    simp [encTx] at hu
    rcases hu with rfl | rfl | rfl | rfl | rfl | rfl | rfl | rfl | rfl | rfl | rfl | rfl | rfl | rfl | rfl | rfl <;> rfl
  loc := fun H hf hR => ⟨H.1, H.2.1.fr hf hR (fun _ => by simp [enc8]), H.2.2.1.fr hf hR (fun _ => by simp [encAcl]), H.2.2.2.1.fr hf hR (fun _ => by simp [encId]), H.2.2.2.2.fr hf hR (fun _ => by simp [encStr])⟩
def ClonedP (t : TxT) (w : World) (e : Ending) (w' : World) : Prop := (∃ h', e = .returned (txV h') ∧ TxAt w' (w.heap.size ≤ ·) h' t) ∧ Below w.heap.size w w'
/-- a copy that was made at w0 -/
theorem CloneP.slr {α : Type} [Inhabited α] {T : TypeId} {enc : α → List Value} {k n : Nat} {l : List α} {w w' : World} {A : Option Addr} {c : Nat} (h : w'.ownsRow w.heap.size T k (.slice A n c) n (l.flatMap enc)) (hk : ∀ x, (enc x).length = k) (hl : l.length = n) {g : Nat} (hg : g + 2 ≤ w.heap.size) : SlR w' (g + 2 ≤ ·) enc k (A, n, c) l := by
  have := own_slr h hk hl
  exact ⟨this.1, this.2.1, fun h0 => by
    obtain ⟨b, off, e, hb, hc⟩ := this.2.2 h0
    exact ⟨b, off, e, Nat.le_trans hg hb, hc⟩⟩
theorem rangeAt_heapC {w : World} {b o : Nat} {cs : Array Value} {T : TypeId} {fr : Nat × Nat} {pre mid post : List Value} (h : w.heap[b]? = some (.cells cs T fr)) (hc : cs.toList = pre ++ (mid ++ post)) (hp : pre.length = o) : w.rangeAt b o mid := fun j v hv => by
  have hj : j < mid.length := (List.getElem?_eq_some_iff.1 hv).1
  rw [cellH h, ← Array.getElem?_toList, hc, ← hp, List.getElem?_append_right (by omega), show pre.length + j - pre.length = j by omega, List.getElem?_append_left hj]
  exact hv
theorem fr_setRow9 (w : World) (g : Nat) (cs : Array Value) : Fr [g] w (w.setRow g cs) :=
  ⟨rfl, rfl, rfl, by simp [World.setRow], fun i _ hn => by simp only [List.mem_singleton] at hn; simp [World.setRow, Array.getElem?_modify, Ne.symm hn]⟩
theorem there_fr9 {w w' : World} {own : List Nat} {b o n : Nat} (h : w.there b o n) (hf : Fr own w w') (hn : b ∉ own) : w'.there b o n := fun j hj => by
  obtain ⟨h1, h2⟩ := h j hj
  obtain ⟨u, hu⟩ := Option.isSome_iff_exists.1 h1
  have hlt : b < w.heap.size := World.block_lt_of_cell? w _ hu
  exact ⟨by rw [hf.cell (p := ⟨b, o + j, none⟩) hlt hn]; exact h1, by rw [World.frozen?_of_block (w := w) (hf.block b hlt hn)]; exact h2⟩
/-- the two variables of a copying function: what is copied (C), the result (Z) -/
structure CnSt (w V : World) (C Z : Array Value) (T : TypeId) : Prop where
  c : V.heap[w.heap.size]? = some (.cells C T (0, 0))
  z : V.heap[w.heap.size + 1]? = some (.cells Z T (0, 0))
  b : Below w.heap.size w V
  s : w.heap.size + 2 ≤ V.heap.size
theorem CnSt.call {w V V' : World} {C Z : Array Value} {T : TypeId} (H : CnSt w V C Z T) (hb : Below V.heap.size V V') : CnSt w V' C Z T :=
  ⟨(hb.block _ (by have := H.s; omega)).trans H.c, (hb.block _ (by have := H.s; omega)).trans H.z, H.b.trans (hb.mono H.b.size), Nat.le_trans H.s hb.size⟩
theorem CnSt.set {w V : World} {C Z : Array Value} {T : TypeId} (H : CnSt w V C Z T) (o : Nat) (v : Value) : CnSt w (V.setCell ⟨w.heap.size, o, none⟩ v) (C.setIfInBounds o v) Z T :=
  ⟨heap_setN H.c v, (heap_set_other V w.heap.size o v (by omega)).trans H.z, H.b.setCell (Nat.le_refl _) v, Nat.le_trans H.s (fr_set V w.heap.size o v).size⟩
theorem CnSt.cell {w V : World} {C Z : Array Value} {T : TypeId} (H : CnSt w V C Z T) {i : Nat} {v : Value} (hv : C[i]? = some v) : V.cell? ⟨w.heap.size, i, none⟩ = some v := by rw [cellH H.c]; exact hv
theorem CnSt.frz {w V : World} {C Z : Array Value} {T : TypeId} (H : CnSt w V C Z T) (i : Nat) : V.frozen? ⟨w.heap.size, i, none⟩ = false := by simp [World.frozen?, H.c]
theorem CnSt.start (w : World) (C Z : Array Value) (T : TypeId) : CnSt w ((w.alloc (.cells C T)).alloc (.cells Z T)) C Z T :=
  ⟨heap_under (heap_s0 w _), heap_s1 w _ _, ((Below.refl _ w).alloc (Nat.le_refl _) _).alloc (by simp) _, by simp⟩
/-- a copy stays as it is behind a store into the variable -/
theorem SlR.put {α : Type} [Inhabited α] {w : World} {k : Nat} {enc : α → List Value} {h : SlC} {zs : List α} {g : Nat} (H : SlR w (g + 2 ≤ ·) enc k h zs) (hk : ∀ x, 0 < (enc x).length) (o : Nat) (v : Value) : SlR (w.setCell ⟨g, o, none⟩ v) (g + 2 ≤ ·) enc k h zs :=
  H.fr (fr_set w g o v) (fun b _ h => ⟨by simp; omega, h⟩) hk
theorem SlR.later {α : Type} [Inhabited α] {w w' : World} {R : Nat → Prop} {k : Nat} {enc : α → List Value} {h : SlC} {zs : List α} (H : SlR w R enc k h zs) (hb : Below w.heap.size w w') (hk : ∀ x, 0 < (enc x).length) : SlR w' R enc k h zs :=
  H.fr (Fr.of_below (own := []) hb) (fun b _ h => ⟨by simp, h⟩) hk

/-- the loop's state: k elements are copied -/
structure ClR (w : World) (h' : TxH) (v : TxF) (subs : List TxT) (n gs hi : Nat) (Z : Array Value) (k : Nat) (wr : World) : Prop where
  s : CnSt w wr (encTx h').toArray Z 33
  l : locTx wr (fun b => w.heap.size + 2 ≤ b ∧ b ≠ gs) h' v
  r : ClSt kTx w.heap.size hi gs n subs k wr
  hi : hi ≤ wr.heap.size
theorem ClR.step {w : World} {h' : TxH} {v : TxF} {subs : List TxT} {n gs hi : Nat} {Z : Array Value} {k : Nat} {wr w2 : World} (H : ClR w h' v subs n gs hi Z k wr) (hb : Below wr.heap.size wr w2) {hh : TxH} (ht : TxAt w2 (wr.heap.size ≤ ·) hh subs[k]!) (hk : k < n) (hgs : gs < hi) (hB : w.heap.size + 2 ≤ gs) :
    ClR w h' v subs n gs hi Z (k + 1) (w2.setCells gs (k * 16) (encTx hh)) where
  s := ⟨((fr_setCells w2 gs (k * 16) (encTx hh)).block _ (by have := H.s.s; have := hb.size; omega) (by simp; omega)).trans (H.s.call hb).c, ((fr_setCells w2 gs (k * 16) (encTx hh)).block _ (by have := H.s.s; have := hb.size; omega) (by simp; omega)).trans (H.s.call hb).z, (H.s.call hb).b.trans ((fr_setCells w2 gs (k * 16) (encTx hh)).below (H.s.call hb).b.size (by simp; omega)), Nat.le_trans (H.s.call hb).s (fr_setCells w2 gs (k * 16) (encTx hh)).size⟩
  l := kTxOk.loc (kTxOk.loc (R' := fun b => w.heap.size + 2 ≤ b ∧ b ≠ gs) H.l (Fr.of_below (own := []) hb) (fun b _ h => ⟨by simp, h⟩)) (fr_setCells w2 gs (k * 16) (encTx hh)) (fun b _ h => ⟨by simpa using h.2, h⟩)
  r := H.r.step kTxOk hb ht hk hgs H.hi (by omega)
  hi := Nat.le_trans H.hi (Nat.le_trans hb.size (fr_setCells w2 gs (k * 16) (encTx hh)).size)

set_option linter.unusedSimpArgs false in
set_option maxRecDepth 100000 in
set_option maxHeartbeats 20000000 in
theorem cloned_any : ∀ (t : TxT) (h : TxH) (w : World) (R : Nat → Prop), TxAt w R h t → TxOk 1048576 t → Calls Tryz.prog 56 #[txV h] w (ClonedP t w) := by
  refine Tr.ind ?_
  intro v subs ih h w R ht0 hok
  have ht : TxAt w (· < w.heap.size) h (.mk v subs) := ht0.more (fun b hb _ => hb)
  have hl := ht.loc
  obtain ⟨L, hL, hsub⟩ := ht.subs_at
  have hlen := ht.len
  have hsm := hok.top
  have hb1 : Below w.heap.size w ((w.alloc (.cells #[.int .i32 h.n.ty, .string h.n.path, slV h.d, slV h.a, .int .i64 h.n.ow, .int .i32 h.n.ve, .int .i32 h.n.cr, .bool h.n.qh, .int .i64 h.n.qc, .int .i64 h.n.qb, .int .i64 h.n.si, .int .i32 h.n.st, slV h.i, slV h.p, .int .i32 h.n.co, slV h.s] 33)).alloc (.cells #[.int .i32 0, .string ⟨#[]⟩, .slice none 0 0, .slice none 0 0, .int .i64 0, .int .i32 0, .int .i32 0, .bool false, .int .i64 0, .int .i64 0, .int .i64 0, .int .i32 0, .slice none 0 0, .slice none 0 0, .int .i32 0, .slice none 0 0] 33)) := ((Below.refl _ w).alloc (Nat.le_refl _) _).alloc (by simp) _
  have HS := Lib.hid (CnSt.start w #[.int .i32 h.n.ty, .string h.n.path, slV h.d, slV h.a, .int .i64 h.n.ow, .int .i32 h.n.ve, .int .i32 h.n.cr, .bool h.n.qh, .int .i64 h.n.qc, .int .i64 h.n.qb, .int .i64 h.n.si, .int .i32 h.n.st, slV h.i, slV h.p, .int .i32 h.n.co, slV h.s] #[.int .i32 0, .string ⟨#[]⟩, .slice none 0 0, .slice none 0 0, .int .i64 0, .int .i32 0, .int .i32 0, .bool false, .int .i64 0, .int .i64 0, .int .i64 0, .int .i32 0, .slice none 0 0, .slice none 0 0, .int .i32 0, .slice none 0 0] 33)
  have HCd := Lib.hid (fun (W : World) (hW : Below w.heap.size w W) => cloneByte_any h.d.1 h.d.2.1 h.d.2.2 v.data W ((hl.2.1.sl (fun _ => by simp [enc8])).belowMore hW hW.size) hl.2.1.hd.1 (by have h1 := hsm.2.2.1; have h2 := hl.2.1.1; simp only [Tr.v, Tr.subs] at *; omega))
  have HLd := Lib.hid hl.2.1.len
  have HCa := Lib.hid (fun (W : World) (hW : Below w.heap.size w W) => cloneAcl_any h.a.1 h.a.2.1 h.a.2.2 v.acl W ((hl.2.2.1.sl (fun _ => by simp [encAcl])).belowMore hW hW.size) hl.2.2.1.hd.1 (by have h1 := hsm.2.2.2.1; have h2 := hl.2.2.1.1; simp only [Tr.v, Tr.subs] at *; omega))
  have HLa := Lib.hid hl.2.2.1.len
  have HCi := Lib.hid (fun (W : World) (hW : Below w.heap.size w W) => cloneIds_any h.i.1 h.i.2.1 h.i.2.2 v.ids W ((hl.2.2.2.1.sl (fun _ => by simp [encId])).belowMore hW hW.size) hl.2.2.2.1.hd.1 (by have h1 := hsm.2.2.2.2.1; have h2 := hl.2.2.2.1.1; simp only [Tr.v, Tr.subs] at *; omega))
  have HLi := Lib.hid hl.2.2.2.1.len
  have HCp := Lib.hid (fun (W : World) (hW : Below w.heap.size w W) => cloneStr_any h.p.1 h.p.2.1 h.p.2.2 v.paths W ((hl.2.2.2.2.sl (fun _ => by simp [encStr])).belowMore hW hW.size) hl.2.2.2.2.hd.1 (by have h1 := hsm.2.2.2.2.2.1; have h2 := hl.2.2.2.2.1; simp only [Tr.v, Tr.subs] at *; omega))
  have HLp := Lib.hid hl.2.2.2.2.len
  have HCs := Lib.hid (fun (W : World) (hW : Below w.heap.size w W) => cloneTx_any h.s.1 h.s.2.1 h.s.2.2 L W ((hL.sl (fun _ => by simp [encTx])).belowMore hW hW.size) hL.hd.1 (Nat.le_trans (show h.s.2.1 ≤ 1048576 by have h1 := hsm.2.2.2.2.2.2.1; rw [hlen] at h1; exact h1) (by omega)))
  have HLs := Lib.hid hL.len
  have HSUB := Lib.hid hsub; have HLEN := Lib.hid (show subs.length = h.s.2.1 from hlen); have HN := Lib.hid hl.1
  have HIH := Lib.hid ih; have HOK := Lib.hid (fun k (hk : k < subs.length) => hok.subAt (j := k) hk)
  have HSB := Lib.hid (show h.s.2.1 ≤ 1048576 by have h1 := hsm.2.2.2.2.2.2.1; rw [hlen] at h1; exact h1)
  have HB := Lib.hid hb1
  clear ht0 ht hl hL hsub hlen hsm hb1 ih hok
  go_enter Tryz.func56, Tryz.ntmps56
  go_wp2_with (first
    | (apply wpList_storeTop 33 33; exact rfl; exact rfl; exact rfl; (first | (with_reducible rfl) | (exact sz1 _ _) | (exact sz2 _ _ _) | (exact sz3 _ _ _ _)); exact rfl; exact infTx; exact rfl; simp [Value.oneCell'])
    | fail)
  refine (HCd.out _ HS.out.b).mono ?_
  generalize ((w.alloc (.cells #[.int .i32 h.n.ty, .string h.n.path, slV h.d, slV h.a, .int .i64 h.n.ow, .int .i32 h.n.ve, .int .i32 h.n.cr, .bool h.n.qh, .int .i64 h.n.qc, .int .i64 h.n.qb, .int .i64 h.n.si, .int .i32 h.n.st, slV h.i, slV h.p, .int .i32 h.n.co, slV h.s] 33)).alloc (.cells #[.int .i32 0, .string ⟨#[]⟩, .slice none 0 0, .slice none 0 0, .int .i64 0, .int .i32 0, .int .i32 0, .bool false, .int .i64 0, .int .i64 0, .int .i64 0, .int .i32 0, .slice none 0 0, .slice none 0 0, .int .i32 0, .slice none 0 0] 33)) = V0 at *
  rintro e w0 ⟨⟨A0, c0, rfl, hr⟩, hb⟩
  have HRd := Lib.hid hr; have HSZ0 := Lib.hid (show w.heap.size + 2 ≤ V0.heap.size from HS.out.s); have HBX0 := Lib.hid hb
  replace HRd := Lib.hid (CloneP.slr hr (fun _ => rfl) HLd.out HSZ0.out)
  replace HS := Lib.hid (HS.out.call hb)
  have z0 := HS.out.cell (i := 2) (v := slV h.d) rfl
  have f0 := HS.out.frz 2
  have y0 := HS.out.cell (i := 3) (v := slV h.a) rfl
  clear hr hb
  go_wp2_with fail
  replace HS := Lib.hid (HS.out.set 2 (.slice A0 h.d.2.1 c0))
  replace HS := Lib.hid (show CnSt w (w0.setCell ⟨w.heap.size, 2, none⟩ (.slice A0 h.d.2.1 c0)) #[.int .i32 h.n.ty, .string h.n.path, .slice A0 h.d.2.1 c0, slV h.a, .int .i64 h.n.ow, .int .i32 h.n.ve, .int .i32 h.n.cr, .bool h.n.qh, .int .i64 h.n.qc, .int .i64 h.n.qb, .int .i64 h.n.si, .int .i32 h.n.st, slV h.i, slV h.p, .int .i32 h.n.co, slV h.s] _ _ from HS.out)
  replace HRd := Lib.hid (HRd.out.put (fun _ => by simp [enc8]) 2 (.slice A0 h.d.2.1 c0))
  generalize w0.setCell ⟨w.heap.size, 2, none⟩ (.slice A0 h.d.2.1 c0) = V1 at *
  clear z0 f0 y0 HSZ0 HBX0
  refine (HCa.out _ HS.out.b).mono ?_
  rintro e w1 ⟨⟨A1, c1, rfl, hr⟩, hb⟩
  have HRa := Lib.hid hr; have HSZ1 := Lib.hid (show w.heap.size + 2 ≤ V1.heap.size from HS.out.s); have HBX1 := Lib.hid hb
  replace HRd := Lib.hid (HRd.out.later hb (fun _ => by simp [enc8]))
  replace HRa := Lib.hid (CloneP.slr hr (fun _ => rfl) HLa.out HSZ1.out)
  replace HS := Lib.hid (HS.out.call hb)
  have z1 := HS.out.cell (i := 3) (v := slV h.a) rfl
  have f1 := HS.out.frz 3
  have y1 := HS.out.cell (i := 12) (v := slV h.i) rfl
  clear hr hb
  go_wp2_with fail
  replace HS := Lib.hid (HS.out.set 3 (.slice A1 h.a.2.1 c1))
  replace HS := Lib.hid (show CnSt w (w1.setCell ⟨w.heap.size, 3, none⟩ (.slice A1 h.a.2.1 c1)) #[.int .i32 h.n.ty, .string h.n.path, .slice A0 h.d.2.1 c0, .slice A1 h.a.2.1 c1, .int .i64 h.n.ow, .int .i32 h.n.ve, .int .i32 h.n.cr, .bool h.n.qh, .int .i64 h.n.qc, .int .i64 h.n.qb, .int .i64 h.n.si, .int .i32 h.n.st, slV h.i, slV h.p, .int .i32 h.n.co, slV h.s] _ _ from HS.out)
  replace HRd := Lib.hid (HRd.out.put (fun _ => by simp [enc8]) 3 (.slice A1 h.a.2.1 c1))
  replace HRa := Lib.hid (HRa.out.put (fun _ => by simp [encAcl]) 3 (.slice A1 h.a.2.1 c1))
  generalize w1.setCell ⟨w.heap.size, 3, none⟩ (.slice A1 h.a.2.1 c1) = V2 at *
  clear z1 f1 y1 HSZ1 HBX1
  refine (HCi.out _ HS.out.b).mono ?_
  rintro e w2 ⟨⟨A2, c2, rfl, hr⟩, hb⟩
  have HRi := Lib.hid hr; have HSZ2 := Lib.hid (show w.heap.size + 2 ≤ V2.heap.size from HS.out.s); have HBX2 := Lib.hid hb
  replace HRd := Lib.hid (HRd.out.later hb (fun _ => by simp [enc8]))
  replace HRa := Lib.hid (HRa.out.later hb (fun _ => by simp [encAcl]))
  replace HRi := Lib.hid (CloneP.slr hr (fun _ => rfl) HLi.out HSZ2.out)
  replace HS := Lib.hid (HS.out.call hb)
  have z2 := HS.out.cell (i := 12) (v := slV h.i) rfl
  have f2 := HS.out.frz 12
  have y2 := HS.out.cell (i := 13) (v := slV h.p) rfl
  clear hr hb
  go_wp2_with fail
  replace HS := Lib.hid (HS.out.set 12 (.slice A2 h.i.2.1 c2))
  replace HS := Lib.hid (show CnSt w (w2.setCell ⟨w.heap.size, 12, none⟩ (.slice A2 h.i.2.1 c2)) #[.int .i32 h.n.ty, .string h.n.path, .slice A0 h.d.2.1 c0, .slice A1 h.a.2.1 c1, .int .i64 h.n.ow, .int .i32 h.n.ve, .int .i32 h.n.cr, .bool h.n.qh, .int .i64 h.n.qc, .int .i64 h.n.qb, .int .i64 h.n.si, .int .i32 h.n.st, .slice A2 h.i.2.1 c2, slV h.p, .int .i32 h.n.co, slV h.s] _ _ from HS.out)
  replace HRd := Lib.hid (HRd.out.put (fun _ => by simp [enc8]) 12 (.slice A2 h.i.2.1 c2))
  replace HRa := Lib.hid (HRa.out.put (fun _ => by simp [encAcl]) 12 (.slice A2 h.i.2.1 c2))
  replace HRi := Lib.hid (HRi.out.put (fun _ => by simp [encId]) 12 (.slice A2 h.i.2.1 c2))
  generalize w2.setCell ⟨w.heap.size, 12, none⟩ (.slice A2 h.i.2.1 c2) = V3 at *
  clear z2 f2 y2 HSZ2 HBX2
  refine (HCp.out _ HS.out.b).mono ?_
  rintro e w3 ⟨⟨A3, c3, rfl, hr⟩, hb⟩
  have HRp := Lib.hid hr; have HSZ3 := Lib.hid (show w.heap.size + 2 ≤ V3.heap.size from HS.out.s); have HBX3 := Lib.hid hb
  replace HRd := Lib.hid (HRd.out.later hb (fun _ => by simp [enc8]))
  replace HRa := Lib.hid (HRa.out.later hb (fun _ => by simp [encAcl]))
  replace HRi := Lib.hid (HRi.out.later hb (fun _ => by simp [encId]))
  replace HRp := Lib.hid (CloneP.slr hr (fun _ => rfl) HLp.out HSZ3.out)
  replace HS := Lib.hid (HS.out.call hb)
  have z3 := HS.out.cell (i := 13) (v := slV h.p) rfl
  have f3 := HS.out.frz 13
  have y3 := HS.out.cell (i := 15) (v := slV h.s) rfl
  clear hr hb
  go_wp2_with fail
  replace HS := Lib.hid (HS.out.set 13 (.slice A3 h.p.2.1 c3))
  replace HS := Lib.hid (show CnSt w (w3.setCell ⟨w.heap.size, 13, none⟩ (.slice A3 h.p.2.1 c3)) #[.int .i32 h.n.ty, .string h.n.path, .slice A0 h.d.2.1 c0, .slice A1 h.a.2.1 c1, .int .i64 h.n.ow, .int .i32 h.n.ve, .int .i32 h.n.cr, .bool h.n.qh, .int .i64 h.n.qc, .int .i64 h.n.qb, .int .i64 h.n.si, .int .i32 h.n.st, .slice A2 h.i.2.1 c2, .slice A3 h.p.2.1 c3, .int .i32 h.n.co, slV h.s] _ _ from HS.out)
  replace HRd := Lib.hid (HRd.out.put (fun _ => by simp [enc8]) 13 (.slice A3 h.p.2.1 c3))
  replace HRa := Lib.hid (HRa.out.put (fun _ => by simp [encAcl]) 13 (.slice A3 h.p.2.1 c3))
  replace HRi := Lib.hid (HRi.out.put (fun _ => by simp [encId]) 13 (.slice A3 h.p.2.1 c3))
  replace HRp := Lib.hid (HRp.out.put (fun _ => by simp [encStr]) 13 (.slice A3 h.p.2.1 c3))
  generalize w3.setCell ⟨w.heap.size, 13, none⟩ (.slice A3 h.p.2.1 c3) = V4 at *
  clear z3 f3 y3 HSZ3 HBX3
  refine (HCs.out _ HS.out.b).mono ?_
  rintro e w4 ⟨⟨A4, c4, rfl, hr⟩, hb⟩
  have HRs := Lib.hid hr; have HSZ4 := Lib.hid (show w.heap.size + 2 ≤ V4.heap.size from HS.out.s); have HBX4 := Lib.hid hb
  replace HRd := Lib.hid (HRd.out.fr (R' := fun b => w.heap.size + 2 ≤ b ∧ b < V4.heap.size) (Fr.of_below (own := []) hb) (fun b hlt h => ⟨by simp, h, hlt⟩) (fun _ => by simp [enc8]))
  replace HRa := Lib.hid (HRa.out.fr (R' := fun b => w.heap.size + 2 ≤ b ∧ b < V4.heap.size) (Fr.of_below (own := []) hb) (fun b hlt h => ⟨by simp, h, hlt⟩) (fun _ => by simp [encAcl]))
  replace HRi := Lib.hid (HRi.out.fr (R' := fun b => w.heap.size + 2 ≤ b ∧ b < V4.heap.size) (Fr.of_below (own := []) hb) (fun b hlt h => ⟨by simp, h, hlt⟩) (fun _ => by simp [encId]))
  replace HRp := Lib.hid (HRp.out.fr (R' := fun b => w.heap.size + 2 ≤ b ∧ b < V4.heap.size) (Fr.of_below (own := []) hb) (fun b hlt h => ⟨by simp, h, hlt⟩) (fun _ => by simp [encStr]))
  replace HS := Lib.hid (HS.out.call hb)
  have z4 := HS.out.cell (i := 15) (v := slV h.s) rfl
  have f4 := HS.out.frz 15
  clear hr hb
  go_wp2_with fail
  obtain ⟨hA, hnc, gs, hgs, hgA, hst⟩ := ClSt.start kTxOk (B := w.heap.size) (subs := subs) HRs.out HLs.out (fun j hj => (HSUB.out j hj).fr kTxOk (Fr.of_below (own := []) HS.out.b) (fun b hlt _ => ⟨by simp, hlt⟩))
  have hst' := hst.other kTxOk (fr_set w4 w.heap.size 15 (.slice A4 h.s.2.1 c4)) (World.there_setCells hst.th w.heap.size 15 [.slice A4 h.s.2.1 c4]) (by have := HSZ4.out; simp; omega) (fun g hg => by have := HS.out.s; simp at hg; omega)
  have HR0 := Lib.hid (show ClR w ⟨h.n, (A0, h.d.2.1, c0), (A1, h.a.2.1, c1), (A2, h.i.2.1, c2), (A3, h.p.2.1, c3), (A4, h.s.2.1, c4)⟩ v subs h.s.2.1 gs w4.heap.size _ 0 (w4.setCell ⟨w.heap.size, 15, none⟩ (.slice A4 h.s.2.1 c4)) from
    ⟨HS.out.set 15 _, ⟨HN.out, HRd.out.fr (fr_set _ _ _ _) (fun b _ h => ⟨by simp; omega, h.1, by have := HBX4.out.size; omega⟩) (fun _ => by simp [enc8]), HRa.out.fr (fr_set _ _ _ _) (fun b _ h => ⟨by simp; omega, h.1, by omega⟩) (fun _ => by simp [encAcl]), HRi.out.fr (fr_set _ _ _ _) (fun b _ h => ⟨by simp; omega, h.1, by omega⟩) (fun _ => by simp [encId]), HRp.out.fr (fr_set _ _ _ _) (fun b _ h => ⟨by simp; omega, h.1, by omega⟩) (fun _ => by simp [encStr])⟩, hst', (fr_set w4 w.heap.size 15 _).size⟩)
  have HA := Lib.hid (And.intro hA (And.intro hnc hgA)); have HGS := Lib.hid (show w.heap.size + 2 ≤ gs from Nat.le_trans HSZ4.out hgs); have HHI := Lib.hid (show 0 < h.s.2.1 → gs < w4.heap.size from fun h0 => (hgA h0).2)
  clear hA hnc hgs hgA hst hst' HRd HRa HRi HRp HRs HCd HCa HCi HCp HCs HLd HLa HLi HLp HLs z4 f4 HS HSUB HB
  generalize w4.setCell ⟨w.heap.size, 15, none⟩ (.slice A4 h.s.2.1 c4) = V5 at *
  have HSH := Lib.hid (show w.heap.size + 2 ≤ w4.heap.size from Nat.le_trans HSZ4.out HBX4.out.size)
  clear HBX4 HSZ4
  generalize w4.heap.size = hi at *
  go_loopw [30] (fun i wr => ∃ k : Nat, i = .int .i64 ↑k ∧ k ≤ h.s.2.1 ∧ ClR w ⟨h.n, (A0, h.d.2.1, c0), (A1, h.a.2.1, c1), (A2, h.i.2.1, c2), (A3, h.p.2.1, c3), (A4, h.s.2.1, c4)⟩ v subs h.s.2.1 gs hi #[.int .i32 0, .string ⟨#[]⟩, .slice none 0 0, .slice none 0 0, .int .i64 0, .int .i32 0, .int .i32 0, .bool false, .int .i64 0, .int .i64 0, .int .i64 0, .int .i32 0, .slice none 0 0, .slice none 0 0, .int .i32 0, .slice none 0 0] k wr) (fun i _ => h.s.2.1 - (RowKit.intOf i).toNat)
  case atStart => exact ⟨0, rfl, Nat.zero_le _, HR0.out⟩
  case round =>
    obtain ⟨k, rfl, hk, hR⟩ := hrel
    have hsb := HSB.out
    by_cases hlt : k < h.s.2.1
    · have hA4 := (HA.out.2.2 (by omega)).1
      have hb9 : Below wr.heap.size wr wr := Below.refl _ _
      obtain ⟨hh, hr, htk⟩ := hR.r.old k (Nat.le_refl _) hlt
      have HIHk := Lib.hid (fun (W : World) (hW : Below wr.heap.size wr W) => HIH.out k (by rw [HLEN.out]; exact hlt) hh W _ (htk.fr kTxOk (Fr.of_below (own := []) hW) (fun b hb h => ⟨by simp, h⟩)) (HOK.out k (by rw [HLEN.out]; exact hlt)))
      have HR := Lib.hid hR
      have x15 : wr.cell? ⟨w.heap.size, 15, none⟩ = some (.slice A4 h.s.2.1 c4) := hR.s.cell rfl
      have HLT := Lib.hid hlt
      subst hA4
      obtain ⟨W9, HW9⟩ : ∃ W9 : World, Hid (W9 = wr.alloc (.cells #[.int .i32 hh.n.ty, .string hh.n.path, slV hh.d, slV hh.a, .int .i64 hh.n.ow, .int .i32 hh.n.ve, .int .i32 hh.n.cr, .bool hh.n.qh, .int .i64 hh.n.qc, .int .i64 hh.n.qb, .int .i64 hh.n.si, .int .i32 hh.n.st, slV hh.i, slV hh.p, .int .i32 hh.n.co, slV hh.s] 33)) := ⟨_, Lib.hid rfl⟩
      have hbw : Below wr.heap.size wr W9 := HW9.out ▸ (Below.refl _ wr).alloc (Nat.le_refl _) _
      have hg9 : W9.heap[wr.heap.size]? = some (.cells #[.int .i32 hh.n.ty, .string hh.n.path, slV hh.d, slV hh.a, .int .i64 hh.n.ow, .int .i32 hh.n.ve, .int .i32 hh.n.cr, .bool hh.n.qh, .int .i64 hh.n.qc, .int .i64 hh.n.qb, .int .i64 hh.n.si, .int .i32 hh.n.st, slV hh.i, slV hh.p, .int .i32 hh.n.co, slV hh.s] 33 (0, 0)) := HW9.out ▸ heap_alloc_new wr _
      have HSO := Lib.hid (fun (W : World) (hW : Below W9.heap.size W9 W) => And.intro (hbw.trans (hW.mono hbw.size)) (And.intro (keep1 x15 (hbw.trans (hW.mono hbw.size))) (range_below (rangeAt_heapC (pre := []) (mid := encTx hh) (post := []) hg9 rfl rfl) hW)))
      have S0 := HSO.out W9 (Below.refl _ _)
      clear hR x15 htk hbw hg9
      go_wp2_with (first
        | (apply wpList_loadMid 33; exact rfl; exact rfl; exact rfl; assumption; exact undTx; exact rfl; exact infTx)
        | (apply wpList_storeTop 33 33; exact rfl; exact rfl; exact rfl; (first | (with_reducible rfl) | (exact sz1 _ _) | (exact sz2 _ _ _) | (exact sz3 _ _ _ _)); exact rfl; exact infTx; exact rfl; simp [Value.oneCell'])
        | fail)
      rw [← HW9.out]
      refine wp_region_held_drew (S := fun w' => w'.cell? ⟨w.heap.size, 15, none⟩ = some (.slice (some ⟨gs, 0, none⟩) h.s.2.1 c4) ∧ w'.rangeAt wr.heap.size 0 (encTx hh)) (by kernel_rfl) (HSO.out _ (drew_self _)).2 (fun hHeld => ?_)
      refine wpAnyH_take (i := 0) (v := .pointer (some ⟨w.heap.size, 15, none⟩)) rfl (by kernel_rfl) (by kernel_rfl) (by kernel_rfl) (fun _ _ _ h => h) (Or.inl ⟨by rfl, by intro w hSw; clear hSw; go_simp⟩) (by assumption) ?_
      simp only [Act.put, List.setIfInBounds_toArray, List.set_cons_zero, List.set_cons_succ]
      refine wpAnyH_take (i := 1) (v := .slice (some ⟨gs, 0, none⟩) h.s.2.1 c4) rfl (by kernel_rfl) (by kernel_rfl) (by kernel_rfl) (fun _ _ _ h => h) (Or.inl ⟨by rfl, by intro w hSw; obtain ⟨hSw, _⟩ := hSw; go_simp⟩) (by assumption) ?_
      simp only [Act.put, List.setIfInBounds_toArray, List.set_cons_zero, List.set_cons_succ]
      refine wpAnyH_take (i := 2) (v := .int .i64 ↑k) rfl (by kernel_rfl) (by kernel_rfl) (by kernel_rfl) (fun _ _ _ h => h) (Or.inl ⟨by rfl, by intro w hSw; clear hSw; go_simp⟩) (by assumption) ?_
      simp only [Act.put, List.setIfInBounds_toArray, List.set_cons_zero, List.set_cons_succ]
      refine wpAnyH_take (i := 3) (v := .agg (encTx hh).toArray) rfl (by kernel_rfl) (by kernel_rfl) (by kernel_rfl) (fun _ _ _ h => h) (yieldsIf_load_mid (by rfl) 33 _ rfl wr.heap.size 0 rfl (encTx hh) _ (fun _ h => h.2) undTx rfl infTx) (by assumption) ?_
      simp only [Act.put, List.setIfInBounds_toArray, List.set_cons_zero, List.set_cons_succ]
      refine wpAnyH_ready (rs := [4]) (by kernel_rfl) (by simp) (AllReadyH.cons rfl (fun K hK => ?_) AllReadyH.nil)
      go_simp
      refine (HIHk.out _ (HSO.out _ (drew_self _)).1).mono ?_
      rintro e w6 ⟨⟨h6, rfl, ht6⟩, hb6⟩
      dsimp only
      refine hK.out _ _ (HSO.out _ ((drew_self _).trans (hb6.mono (drew_self _).size))).2 (fun hHeld2 => ?_)
      clear hK K
      refine wpAnyH_take (i := 5) (v := .pointer (some ⟨gs, k * 16, none⟩)) rfl (by kernel_rfl) (by kernel_rfl) (by kernel_rfl) (fun _ _ _ h => h) (Or.inl ⟨by rfl, by intro w hSw; clear hSw; go_simp⟩) (by assumption) ?_
      simp only [Act.put, List.setIfInBounds_toArray, List.set_cons_zero, List.set_cons_succ]
      refine wpAnyH_ready (rs := [6]) (by kernel_rfl) (by simp) (AllReadyH.cons rfl (fun K hK => ?_) AllReadyH.nil)
      rw [if_pos (by rfl)]
      have hbA := (HSO.out _ (drew_self _)).1.trans (hb6.mono (HSO.out _ (drew_self _)).1.size)
      have hth := HR.out.r.there_row hlt
      refine wp_store_mid 33 _ _ rfl gs (k * 16) (encTx h6).toArray rfl rfl (there_below hth hbA) infTx (oneTx h6) ?_
      simp only [Act.put, List.setIfInBounds_toArray, List.set_cons_zero, List.set_cons_succ]
      have hFC := fr_setCells w6 gs (k * 16) (encTx h6)
      refine hK.out _ _ ⟨?_, ?_⟩ (fun hHeld3 => ?_)
      · have h1 := HR.out.s.s; have h2 := HGS.out
        exact (hFC.cell (p := ⟨w.heap.size, 15, none⟩) (by have := hbA.size; simp only; omega) (by simp; omega)).trans hHeld2.1
      · have h1 := HHI.out (by omega); have h2 := HR.out.hi
        exact World.rangeAt_setCells_apart hHeld2.2 _ _ _ (.inl (by omega))
      clear hK K
      refine wpAnyH_done (by kernel_rfl) ?_ _
      have HX := Lib.hid (HR.out.step hbA (hh := h6) (TrAt.fr kTxOk ht6 (Fr.refl [] w6) (fun b _ h => ⟨by simp, Nat.le_trans (HSO.out _ (drew_self _)).1.size h⟩)) hlt (HHI.out (by omega)) HGS.out)
      have hlk := HLT.out
      clear hFC hth hbA hHeld3 hHeld2 hHeld HR HSO HR0 ht6 hb6
      (try dsimp only [List.getElem_toArray, List.getElem_cons_succ, List.getElem_cons_zero])
      go_wp2_with fail
      go_roundw
      case rel => exact ⟨k + 1, by go_num, by omega, HX.out⟩
      case measure => show h.s.2.1 - ((↑k + 1 : Int)).toNat < h.s.2.1 - (↑k : Int).toNat; omega
    · have hkn : k = h.s.2.1 := by omega
      subst hkn
      have gC : wr.heap[w.heap.size]? = some (.cells #[.int .i32 h.n.ty, .string h.n.path, .slice A0 h.d.2.1 c0, .slice A1 h.a.2.1 c1, .int .i64 h.n.ow, .int .i32 h.n.ve, .int .i32 h.n.cr, .bool h.n.qh, .int .i64 h.n.qc, .int .i64 h.n.qb, .int .i64 h.n.si, .int .i32 h.n.st, .slice A2 h.i.2.1 c2, .slice A3 h.p.2.1 c3, .int .i32 h.n.co, .slice A4 h.s.2.1 c4] 33 (0, 0)) := hR.s.c
      have gZ := hR.s.z
      have HF := Lib.hid (fr_setRow9 wr (w.heap.size + 1) (encTx ⟨h.n, (A0, h.d.2.1, c0), (A1, h.a.2.1, c1), (A2, h.i.2.1, c2), (A3, h.p.2.1, c3), (A4, h.s.2.1, c4)⟩).toArray)
      have HTH := Lib.hid (hR.r.other kTxOk HF.out (there_fr9 hR.r.th HF.out (by have := HGS.out; simp; omega)) (by have := HGS.out; simp; omega) (fun g hg => by have := HSH.out; simp at hg; omega))
      have HR := Lib.hid hR
      clear hR HR0
      go_wp2_with (first
        | (apply wpList_loadRow 33 33; exact rfl; exact rfl; exact rfl; (first | assumption | (refine heap_under ?_; assumption) | (exact heap_s0 _ _) | (exact heap_s1 _ _ _) | (exact heap_s2 _ _ _ _) | (exact heap_s3 _ _ _ _ _) | (exact heap_under (heap_s0 _ _)) | (exact heap_under (heap_s1 _ _ _)) | (exact heap_under (heap_s2 _ _ _ _)) | (exact heap_under (heap_under (heap_s0 _ _))) | (exact heap_under (heap_under (heap_s1 _ _ _))) | (exact heap_under (heap_under (heap_under (heap_s0 _ _))))); exact undTx; exact rfl; exact infTx)
        | (apply wpList_storeRow 33 33; exact rfl; exact rfl; exact rfl; exact rfl; (first | assumption | (refine heap_under ?_; assumption) | (exact heap_s0 _ _) | (exact heap_s1 _ _ _) | (exact heap_s2 _ _ _ _) | (exact heap_s3 _ _ _ _ _) | (exact heap_under (heap_s0 _ _)) | (exact heap_under (heap_s1 _ _ _)) | (exact heap_under (heap_s2 _ _ _ _)) | (exact heap_under (heap_under (heap_s0 _ _))) | (exact heap_under (heap_under (heap_s1 _ _ _))) | (exact heap_under (heap_under (heap_under (heap_s0 _ _))))); exact infTx; exact rfl; simp [Value.oneCell'])
        | fail)
      have hTR : TxAt (wr.setRow (w.heap.size + 1) (encTx ⟨h.n, (A0, h.d.2.1, c0), (A1, h.a.2.1, c1), (A2, h.i.2.1, c2), (A3, h.p.2.1, c3), (A4, h.s.2.1, c4)⟩).toArray) (w.heap.size ≤ ·) ⟨h.n, (A0, h.d.2.1, c0), (A1, h.a.2.1, c1), (A2, h.i.2.1, c2), (A3, h.p.2.1, c3), (A4, h.s.2.1, c4)⟩ (.mk v subs) :=
        HTH.out.tree kTxOk (kTxOk.loc HR.out.l HF.out (fun b _ h => ⟨by simp; omega, by omega⟩)) HLEN.out rfl ⟨HA.out.1, HA.out.2.1⟩ (fun h0 => ⟨(HA.out.2.2 h0).1, by have := HGS.out; omega⟩) (fun b hb => by have := HSH.out; omega)
      exact bodyPost_cell rfl rfl (setRow_heap _ _ _ _ _ _ gZ) undTx rfl infTx rfl ⟨⟨_, rfl, hTR⟩, below_setRow HR.out.s.b (by omega) _⟩

end Go.Proofs.YthpjneobmmpbnaaGreatDoor
namespace Go.Proofs.YthpjneobmmpbnaaGreatDoor
open Go.RowKit Go.MapKept Go.Maps
/-- a block from B on, of which nothing is frozen -/
def NfR (w : World) (B b : Nat) : Prop := B ≤ b ∧ ∃ cs T, w.heap[b]? = some (.cells cs T (0, 0))
theorem NfR.fr {w w' : World} {B B' b : Nat} {own : List Nat} (H : NfR w B b) (hf : Fr own w w') (hn : b ∉ own) (hB : B' ≤ B) : NfR w' B' b := by
  obtain ⟨h1, cs, T, h2⟩ := H
  exact ⟨Nat.le_trans hB h1, cs, T, (hf.block b (Array.getElem?_eq_some_iff.1 h2).1 hn).trans h2⟩
theorem NfR.below {w w' : World} {B b : Nat} (H : NfR w B b) (hb : Below w.heap.size w w') : NfR w' B b := H.fr (Fr.of_below (own := []) hb) (by simp) (Nat.le_refl _)
theorem NfR.lt {w : World} {B b : Nat} (H : NfR w B b) : b < w.heap.size := by obtain ⟨_, cs, T, h⟩ := H; exact (Array.getElem?_eq_some_iff.1 h).1
theorem NfR.frz {w : World} {B b : Nat} (H : NfR w B b) (o : Nat) : w.frozen? ⟨b, o, none⟩ = false := by obtain ⟨_, cs, T, h⟩ := H; simp [World.frozen?, h]
/-- a block is none of a row -/
def offRow (A : Option Addr) (b : Nat) : Prop := ∀ o, A ≠ some ⟨b, o, none⟩
section
variable {α : Type} [Inhabited α] {w w' : World} {enc : α → List Value} {T : TypeId} {k base n c : Nat} {A : Option Addr} {l : List α}
theorem own_slrN (h : w.ownsRow base T k (.slice A n c) n (l.flatMap enc)) (hk : ∀ x, (enc x).length = k) (hl : l.length = n) : SlR w (NfR w base) enc k (A, n, c) l := by
  have h0 := own_slr h hk hl
  refine ⟨h0.1, h0.2.1, fun hn => ?_⟩
  obtain ⟨b, off, e, hb, hc⟩ := h0.2.2 hn
  rcases h.2 with ⟨e1, _⟩ | ⟨g, cap, cur, e1, h2, h3, _⟩
  · injection e1 with e1; rw [e1] at e; cases e
  · injection e1 with e1 _ _
    rw [e1] at e; injection e with e; injection e with e3 _
    exact ⟨b, off, by rw [e1, ← e3]; simp_all, ⟨hb, cur, T, by rw [← e3]; exact h3⟩, hc⟩
theorem own_mono {base' : Nat} {v : Value} {xs : List Value} (h : w.ownsRow base T k v n xs) (hb : base' ≤ base) : w.ownsRow base' T k v n xs := by
  refine ⟨h.1, ?_⟩
  rcases h.2 with h | ⟨g, cap, cur, e1, h2, h3⟩
  · exact .inl h
  · exact .inr ⟨g, cap, cur, e1, Nat.le_trans hb h2, h3⟩
theorem own_at {xs : List Value} (h : w.ownsRow base T k (.slice A n c) n xs) : (A = none ∧ n = 0 ∧ c = 0) ∨ ∃ g cur, A = some ⟨g, 0, none⟩ ∧ base ≤ g ∧ w.heap[g]? = some (.cells cur T (0, 0)) ∧ n ≤ c ∧ cur.size = c * k := by
  rcases h.2 with ⟨e, e2⟩ | ⟨g, cap, cur, e1, h2, h3, h4, h5, h6, h7⟩
  · injection e with e e3 e4
    exact .inl ⟨e, e2, e4⟩
  · injection e1 with e1 e3 e4
    subst e4
    exact .inr ⟨g, cur, e1, h2, h3, h4, h6⟩
end
/-- where a row lies behind an append -/
def OnT (A A' : Option Addr) (w w' : World) : Prop := (A' = A ∧ ∃ b, A = some ⟨b, 0, none⟩ ∧ Fr [b] w w') ∨ (Below w.heap.size w w' ∧ ∃ b, A' = some ⟨b, 0, none⟩ ∧ w.heap.size ≤ b)
theorem append_two {α : Type} [Inhabited α] {enc : α → List Value} {ST T : TypeId} {k bs : Nat} {z : Value} (E : ElemB enc ST T k bs z) {w : World} {base n c : Nat} {A : Option Addr} {l : List α} (hown : w.ownsRow base T k (.slice A n c) n (l.flatMap enc)) (hl : l.length = n) (ty : TypeId) (x : α) (g : Nat) (hx : w.rangeAt g 0 (enc x)) (hn : n ≤ 1048576) (hbase : base ≤ w.heap.size) :
    ∃ A' c' w', (Builtin.append_ #[ST, ST] ty #[.slice A n c, .slice (some ⟨g, 0, none⟩) 1 1]).run Tryz.prog w = .ok (.slice A' (n + 1) c') w' ∧ w'.ownsRow base T k (.slice A' (n + 1) c') (n + 1) ((l ++ [x]).flatMap enc) ∧ OnT A A' w w' := by
  obtain ⟨i0, hi0, hz0, hz1, hz2⟩ := info_partsI E.info
  have hnews : ∀ (j : Nat) (u : Value), (enc x)[j]? = some u → w.cell? ((⟨g, 0, none⟩ : Addr).add j) = some u := fun j u hu => by rw [Addr.add_lit]; exact hx j u hu
  have h1 : ∀ u ∈ enc x, u.oneCell' = true := E.one x
  have hlx : (enc x).length = 1 * k := by rw [E.len, Nat.one_mul]
  have hsm := E.small
  have hby : (n + 1) * bs ≤ 140737488355328 := by have := Nat.mul_le_mul (show n + 1 ≤ 1048577 by omega) hsm; omega
  have hfl : (l ++ [x]).flatMap enc = l.flatMap enc ++ enc x := by rw [List.flatMap_append, List.flatMap_singleton]
  have grows : ∀ (v' : Value) (w' : World), w'.ownsRow w.heap.size T k v' (n + 1) (l.flatMap enc ++ enc x) → w.grownBy w' none → ∃ A' c', v' = .slice A' (n + 1) c' ∧ w'.ownsRow base T k (.slice A' (n + 1) c') (n + 1) ((l ++ [x]).flatMap enc) ∧ OnT A A' w w' := by
    intro v' w' r1 r2
    obtain ⟨A2, c2, rfl⟩ := own_formI r1
    refine ⟨A2, c2, rfl, ?_, .inr ⟨(Below.refl _ w).grown r2 (Nat.le_refl _) (fun j hj => by cases hj), ?_⟩⟩
    · rw [hfl]; exact own_mono r1 hbase
    · rcases own_at r1 with ⟨_, h, _⟩ | ⟨b, cur, e, hb, _⟩
      · omega
      · exact ⟨b, e, hb⟩
  rcases own_at hown with ⟨rfl, rfl, rfl⟩ | ⟨b, cur, rfl, hb, hcur, hnc, hsz⟩
  · have hl0 : l = [] := List.length_eq_zero_iff.1 hl
    subst hl0
    obtain ⟨v', w', hrun, r1, r2, _⟩ := run_append_own (P := Tryz.prog) w w.heap.size ST ty T i0 z k bs E.under hi0 hz0 hz1 hz2 E.size E.pos (.slice none 0 0) 0 [] (World.ownsRow_nil w _ _ k) ⟨g, 0, none⟩ 1 1 (enc x) hlx hnews h1 (by decide) (by omega) (Nat.le_refl _)
    obtain ⟨A', c', rfl, h2, h3⟩ := grows v' w' r1 r2
    exact ⟨A', c', w', hrun, h2, h3⟩
  · by_cases hr : n + 1 ≤ c
    · have hin : ∀ j, j < (enc x).length → n * k + j < cur.size := fun j hj => by
        have h2 := Nat.mul_le_mul_right k hr
        rw [Nat.add_mul, Nat.one_mul] at h2
        rw [E.len] at hj
        omega
      have hrun2 := run_append_room_cells (P := Tryz.prog) (w := w) ST ty T i0 E.under hi0 b 0 n c ⟨g, 0, none⟩ 1 1 (enc x) (by rw [hz1]; exact hlx) hnews h1 hr
        (fun j hj => by
          rw [hz1, Nat.zero_add]
          have hc : w.cell? ⟨b, n * k + j, none⟩ = cur[n * k + j]? := by simp [World.cell?, hcur]
          rw [hc, Array.getElem?_eq_getElem (hin j hj)]; rfl) (fun j hj => by simp [World.frozen?, hcur])
      obtain ⟨v', w', hrun, r1, r2, _⟩ := run_append_own (P := Tryz.prog) w base ST ty T i0 z k bs E.under hi0 hz0 hz1 hz2 E.size E.pos _ n _ hown ⟨g, 0, none⟩ 1 1 (enc x) hlx hnews h1 (by unfold maxLen; omega) hby hbase
      rw [hrun2] at hrun
      injection hrun with e1 e2
      subst e1 e2
      exact ⟨_, _, _, hrun2, by rw [hfl]; exact r1, .inl ⟨rfl, b, rfl, Fr.of_grown r2 (List.mem_singleton.2 rfl)⟩⟩
    · have hown2 := hown
      obtain ⟨v', w', hrun, r1, r2⟩ := run_append_arg_grows (P := Tryz.prog) (w := w) ST ty T i0 z k bs E.under hi0 hz0 hz1 hz2 E.size E.pos ⟨b, 0, none⟩ n c (l.flatMap enc) (by rw [flat_len E.len, hl])
        (fun j u hu => by
          rw [Addr.add_lit, Nat.zero_add]
          exact hown2.cellAt j (by rw [← hown2.1]; exact (List.getElem?_eq_some_iff.1 hu).1) ▸ hu) ⟨g, 0, none⟩ 1 1 (enc x) hlx hnews (by omega) (by unfold maxLen; omega) hby
      obtain ⟨A', c', rfl, h2, h3⟩ := grows v' w' r1 r2
      exact ⟨A', c', w', hrun, h2, h3⟩
theorem wpList_appT {α : Type} [Inhabited α] {enc : α → List Value} {ST T : TypeId} {k bs : Nat} {z : Value} (E : ElemB enc ST T k bs z) {ops : Array Oper} {rest : List Oper} {o : Oper} {a : Act} {Q : Exit → Act → World → Prop} {w : World} {base n c : Nat} {A : Option Addr} {l : List α} (hown : w.ownsRow base T k (.slice A n c) n (l.flatMap enc)) (hl : l.length = n) (x : α) (g : Nat) (hgd : o.guard = none) (s y : Operand)
    (ho : o.op = .call { callee := .builtin .append, args := #[s, y], argTypes := #[ST, ST] }) (hs : a.eval s = .slice A n c) (hy : a.eval y = .slice (some ⟨g, 0, none⟩) 1 1) (hx : w.rangeAt g 0 (enc x)) (hn : n ≤ 1048576) (hbase : base ≤ w.heap.size)
    (h : ∀ A' c' w', w'.ownsRow base T k (.slice A' (n + 1) c') (n + 1) ((l ++ [x]).flatMap enc) → OnT A A' w w' → wpList Tryz.prog ops Q rest (a.put o.dst (.slice A' (n + 1) c')) w') : wpList Tryz.prog ops Q (o :: rest) a w := by
  obtain ⟨A', c', w', hrun, hp, hor⟩ := append_two E hown hl o.type x g hx hn hbase
  refine wpList_plain hgd fun K hK => ?_
  unfold Oper.wp
  simp [execOp, ho, resolve, invoke, builtin, hs, hy, hrun, Result.andThen]
  exact hK _ _ (h A' c' w' hp hor)
end Go.Proofs.YthpjneobmmpbnaaGreatDoor
namespace Go.Proofs.YthpjneobmmpbnaaGreatDoor
open Go.RowKit Go.MapKept
theorem rangeAt_join {w : World} {b o o' : Nat} {cs cs' : List Value} (h : w.rangeAt b o cs) (h' : w.rangeAt b o' cs') (e : o' = o + cs.length) : w.rangeAt b o (cs ++ cs') := fun j v hv => by
  rw [List.getElem?_append] at hv
  split at hv
  · exact h j v hv
  · rename_i hj
    have := h' _ v hv
    rwa [show o' + (j - cs.length) = o + j by omega] at this
theorem there_heap {w : World} {b : Nat} {C : Array Value} {T : TypeId} (h : w.heap[b]? = some (.cells C T (0, 0))) (o n : Nat) (hn : o + n ≤ C.size) : w.there b o n := fun j hj => by
  have hj' : o + j < C.size := by omega
  refine ⟨?_, by simp [World.frozen?, h]⟩
  rw [cellH h, Array.getElem?_eq_getElem hj']; rfl
end Go.Proofs.YthpjneobmmpbnaaGreatDoor
namespace Go.Proofs.YthpjneobmmpbnaaGreatDoor
open Go.RowKit Go.MapKept Go.Maps
theorem elemBIdx : ElemB encId 26 108 2 32 (.agg #[.string ⟨#[]⟩, .string ⟨#[]⟩]) where
  under := Tryz.underlying26
  info := by kernel_rfl
  size := rfl
  len := fun _ => rfl
  pos := by decide
  one := fun x u hu => by
    simp [encId] at hu
    rcases hu with rfl | rfl <;> rfl
  small := by decide
theorem nth_snoc {α : Type} [Inhabited α] (l : List α) (x : α) (j : Nat) (h : j < l.length) : (l ++ [x])[j]! = l[j]! := by
  rw [getElem!_pos (l ++ [x]) j (by simp; omega), getElem!_pos l j h, List.getElem_append_left h]
theorem nth_last {α : Type} [Inhabited α] (l : List α) (x : α) : (l ++ [x])[l.length]! = x := by
  rw [getElem!_pos (l ++ [x]) l.length (by simp)]; simp
theorem OnT.keep {A A' : Option Addr} {w w' : World} (h : OnT A A' w w') : ∃ own, Fr own w w' ∧ (∀ b, b < w.heap.size → offRow A b → b ∉ own ∧ offRow A' b) ∧ ∀ g ∈ own, A = some ⟨g, 0, none⟩ := by
  rcases h with ⟨rfl, b, rfl, hf⟩ | ⟨hb, b, rfl, hge⟩
  · refine ⟨[b], hf, fun b' _ h => ⟨?_, h⟩, fun g hg => by rw [List.mem_singleton.1 hg]⟩
    rw [List.mem_singleton]
    intro e; subst e; exact h 0 rfl
  · exact ⟨[], Fr.of_below hb, fun b' hlt _ => ⟨by simp, fun o e => by injection e with e; injection e with e1 _; omega⟩, fun g hg => by cases hg⟩
theorem CnSt.fr {w V V' : World} {C Z : Array Value} {T : TypeId} {own : List Nat} (H : CnSt w V C Z T) (hf : Fr own V V') (hn : ∀ g ∈ own, w.heap.size + 2 ≤ g) : CnSt w V' C Z T :=
  ⟨(hf.block _ (by have := H.s; omega) (fun h => by have := hn _ h; omega)).trans H.c, (hf.block _ (by have := H.s; omega) (fun h => by have := hn _ h; omega)).trans H.z, H.b.trans (hf.below H.b.size (fun g hg => by have := hn g hg; omega)), Nat.le_trans H.s hf.size⟩
section
variable {α : Type} [Inhabited α] {w w' : World} {B : Nat} {k : Nat} {enc : α → List Value} {h : SlC} {zs : List α}
theorem SlR.nlater (H : SlR w (NfR w B) enc k h zs) (hb : Below w.heap.size w w') (hk : ∀ x, 0 < (enc x).length) : SlR w' (NfR w' B) enc k h zs :=
  H.fr (Fr.of_below (own := []) hb) (fun b _ h => ⟨by simp, h.below hb⟩) hk
theorem SlR.nput {g : Nat} (H : SlR w (NfR w (g + 2)) enc k h zs) (hk : ∀ x, 0 < (enc x).length) (o : Nat) (v : Value) : SlR (w.setCell ⟨g, o, none⟩ v) (NfR (w.setCell ⟨g, o, none⟩ v) (g + 2)) enc k h zs :=
  H.fr (fr_set w g o v) (fun b _ h => by
    have hn : b ∉ [g] := by have := h.1; simp; omega
    exact ⟨hn, h.fr (fr_set w g o v) hn (Nat.le_refl _)⟩) hk
theorem SlR.nown {T : TypeId} {base n c : Nat} {A : Option Addr} {l : List α} (h : w.ownsRow base T k (.slice A n c) n (l.flatMap enc)) (hk : ∀ x, (enc x).length = k) (hl : l.length = n) (hB : B ≤ base) : SlR w (NfR w B) enc k (A, n, c) l := own_slrN (own_mono h hB) hk hl
end
end Go.Proofs.YthpjneobmmpbnaaGreatDoor
namespace Go.Proofs.YthpjneobmmpbnaaGreatDoor
open Go.RowKit Go.MapKept
/-- where the last '/' of the first k bytes stands; -1: nowhere -/
def lastF (s : ByteArray) : Nat → Int
  | 0 => -1
  | k + 1 => if s.get! k = 47 then (k : Int) else lastF s k
theorem lastF_ge (s : ByteArray) : ∀ k, -1 ≤ lastF s k ∧ lastF s k < k
  | 0 => ⟨by show (-1 : Int) ≤ -1; decide, by show (-1 : Int) < 0; decide⟩
  | k + 1 => by
    have := lastF_ge s k
    unfold lastF
    split
    · constructor <;> omega
    · constructor <;> omega
theorem lastF_pos (s : ByteArray) (h0 : s.get! 0 = 47) : ∀ k, 0 < k → 0 ≤ lastF s k
  | 0, h => absurd h (by decide)
  | 1, _ => by unfold lastF; rw [if_pos h0]; decide
  | k + 2, _ => by
    have := lastF_pos s h0 (k + 1) (by omega)
    unfold lastF
    split
    · omega
    · exact this
/-- a path without its last part -/
def parP (s : ByteArray) : ByteArray := s.extract 0 (max (lastF s s.size) 1).toNat
theorem lastF_step (s : ByteArray) (k : Nat) (hk : k < s.size) : lastF s (k + 1) = if s[k] = 47 then (k : Int) else lastF s k := by
  rw [show lastF s (k + 1) = if s.get! k = 47 then (k : Int) else lastF s k from rfl, get_eq s k hk]
set_option maxHeartbeats 4000000 in
set_option maxRecDepth 100000 in
theorem lastBS_any (s : ByteArray) (hs : s.size < 2147483648) (w : World) : Calls Tryz.prog 132 #[.string s, .int .u8 47] w (fun e w' => e = .returned (.int .i64 (lastF s s.size)) ∧ w' = w) := by
  go_enter Tryz.func132, Tryz.ntmps132
  go_wp2_with fail
  go_loop [5] (fun i => ∃ k : Nat, i = .int .i64 (↑k - 1) ∧ k ≤ s.size ∧ lastF s k = lastF s s.size) (fun i => (RowKit.intOf i + 1).toNat)
  case atStart => exact ⟨s.size, by go_num, Nat.le_refl _, rfl⟩
  case round =>
    obtain ⟨k, rfl, hk, hP⟩ := hrel
    have HP := Lib.hid hP; clear hP
    cases k with
    | zero =>
      have HE := Lib.hid (show lastF s s.size = -1 from HP.out.symm)
      rw [show (((0 : Nat) : Int) - 1) = -1 by rfl]
      go_wp2_with fail
      go_ret
      exact ⟨by rw [HE.out]; rfl, rfl⟩
    | succ p =>
      have hp : p < s.size := hk
      have hb := u8_eq s[p]
      have hstep := lastF_step s p hp
      rw [show ((p + 1 : Nat) : Int) - 1 = (p : Int) by omega]
      by_cases h4 : s[p] = 47
      · have hb1 : ((s[p].toNat : Int) == 47) = true := by rw [h4]; rfl
        have HE := Lib.hid (show lastF s s.size = (p : Int) by rw [← HP.out, hstep, if_pos h4])
        clear hb hstep h4
        go_wp2_with fail
        go_ret
        exact ⟨by rw [HE.out]; rfl, rfl⟩
      · have hb1 : ((s[p].toNat : Int) == 47) = false := by
          rw [decide_eq_false h4] at hb
          exact hb
        have HE := Lib.hid (show lastF s p = lastF s s.size by rw [← HP.out, hstep, if_neg h4])
        clear hb hstep h4
        go_wp2_with fail
        go_round
        case rel => exact ⟨p, by go_num, by omega, HE.out⟩
        case measure => simp [RowKit.intOf] <;> omega
set_option maxHeartbeats 4000000 in
set_option maxRecDepth 100000 in
theorem lastB_any (s : ByteArray) (hs : s.size < 2147483648) (w : World) : Calls Tryz.prog 72 #[.string s, .int .u8 47] w (fun e w' => e = .returned (.int .i64 (lastF s s.size)) ∧ w' = w) := by
  go_enter Tryz.func72, Tryz.ntmps72
  go_wp2_with fail
  refine (lastBS_any s hs w).mono ?_
  rintro e w ⟨rfl, rfl⟩
  go_wp2_with fail
  go_ret
  exact ⟨rfl, rfl⟩
/-- the parent, and the error -/
def ParP (s : ByteArray) (w : World) (e : Ending) (w' : World) : Prop := e = .returned (.tuple #[.string (if validP s && !decide (s = sSlash) then parP s else ⟨#[]⟩), .int .i64 (if validP s && !decide (s = sSlash) then 0 else 30)]) ∧ Below w.heap.size w w'
theorem valid_pos {s : ByteArray} (h : validP s = true) : 0 < s.size ∧ s.get! 0 = 47 := by
  unfold validP at h
  simp only [Bool.and_eq_true, decide_eq_true_eq] at h
  exact ⟨by have := h.1.1.1; omega, h.1.2⟩
theorem slash_is (s : ByteArray) : (s.toList == [47]) = decide (s = sSlash) := by
  rw [Lib.toList_data, Bool.eq_iff_iff, beq_iff_eq, decide_eq_true_eq]
  constructor
  · intro h
    apply ByteArray.ext
    apply Array.ext'
    rw [h]; rfl
  · rintro rfl; rfl
set_option maxHeartbeats 4000000 in
set_option maxRecDepth 100000 in
theorem parent_any (s : ByteArray) (hs : s.size < 2147483648) (w : World) (hE : Env w) : Calls Tryz.prog 30 #[.string s] w (ParP s w) := by
  have HVA := Lib.hid (valid_any s hs w hE)
  go_enter Tryz.func30, Tryz.ntmps30
  go_wp2_with fail
  refine HVA.out.mono ?_
  rintro e w1 ⟨rfl, hb⟩
  have HB := Lib.hid hb
  have hsl := slash_is s
  clear hb HVA
  cases hv : validP s with
  | false =>
    have HVF := Lib.hid hv
    clear hv hsl
    go_wp2_with fail
    go_ret2
    exact ⟨by rw [HVF.out]; rfl, HB.out⟩
  | true =>
  have HP := Lib.hid (valid_pos hv)
  have HVT := Lib.hid hv
  clear hv
  cases hq : decide (s = sSlash) with
  | true =>
    rw [hq] at hsl
    have HQ := Lib.hid hq
    clear hq
    go_wp2_with fail
    go_ret2
    exact ⟨by rw [HVT.out, HQ.out]; rfl, HB.out⟩
  | false =>
    rw [hq] at hsl
    have HQ := Lib.hid hq
    clear hq
    go_wp2_with fail
    refine (lastB_any s hs w1).mono ?_
    rintro e w1 ⟨rfl, rfl⟩
    obtain ⟨k, hk⟩ : ∃ k : Nat, Hid (lastF s s.size = (k : Int)) := ⟨(lastF s s.size).toNat, Lib.hid (by have := lastF_pos s HP.out.2 s.size HP.out.1; omega)⟩
    have hks : k < s.size := by have := (lastF_ge s s.size).2; have := hk.out; omega
    have hs0 := HP.out.1
    have HR := Lib.hid (show parP s = s.extract 0 (max k 1) by unfold parP; rw [hk.out, show (max (k : Int) 1).toNat = max k 1 by omega])
    rw [hk.out]
    rcases Nat.eq_zero_or_pos k with rfl | hk1
    · clear hks
      go_wp2_with fail
      go_ret2
      exact ⟨by rw [HVT.out, HQ.out, HR.out]; rfl, HB.out⟩
    · have hmx : max (k : Int) 1 = (k : Int) := by omega
      go_wp2_with fail
      go_ret2
      exact ⟨by rw [HVT.out, HQ.out, HR.out, show max k 1 = k by omega]; rfl, HB.out⟩
end Go.Proofs.YthpjneobmmpbnaaGreatDoor
