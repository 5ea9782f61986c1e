/- The walk of the program's put, by type, of a transaction without parts. -/
import Derived.Test.YthpjneobmmpbnaaGreatDoorDDltG
import Derived.Test.YthpjneobmmpbnaaGreatDoorDOpenS
import Derived.Test.YthpjneobmmpbnaaGreatDoorDClkE
import Derived.Test.YthpjneobmmpbnaaGreatDoorDRefA6
import Derived.Test.YthpjneobmmpbnaaGreatDoorDJutP
import Derived.Test.YthpjneobmmpbnaaGreatDoorDJutW2
namespace Go.Proofs.YthpjneobmmpbnaaGreatDoor
open Go.RowKit Go.MapKept Go.Maps
theorem flatLen {α : Type} (f : α → Bs) (m : Nat) : ∀ zs : List α, (∀ x ∈ zs, (f x).length ≤ m) → (zs.flatMap f).length ≤ zs.length * m
  | [], _ => by simp
  | x :: r, h => by
    have h1 := h x (List.mem_cons_self ..)
    have h2 := flatLen f m r fun y hy => h y (List.mem_cons_of_mem _ hy)
    rw [List.flatMap_cons, List.length_append, List.length_cons, Nat.succ_mul]; omega
/-- how great a transaction without parts is -/
structure LfSm (v : TxF) : Prop where
  path : v.n.path.size ≤ 1048576
  data : v.data.length ≤ 1048576
  acl : v.acl.length ≤ 16
  acls : ∀ x ∈ v.acl, x.2.1.size ≤ 1048576 ∧ x.2.2.size ≤ 1048576
  ids : v.ids.length ≤ 1048576
  idss : ∀ x ∈ v.ids, x.1.size ≤ 1048576 ∧ x.2.size ≤ 1048576
  paths : v.paths.length ≤ 1024
  pathss : ∀ x ∈ v.paths, x.size ≤ 1048576
theorem LfSm.of {v : TxF} {k : Nat} (h : TxSm 1048576 v k) (hg : greatB v k = false) : LfSm v := by
  unfold greatB at hg
  simp only [Bool.or_eq_false_iff, decide_eq_false_iff_not] at hg
  obtain ⟨-, h1, h2, h3, h4, h5, -, h6, h7, h8⟩ := h
  refine ⟨h1, h2, by omega, fun x hx => ?_, h4, fun x hx => ?_, by omega, fun x hx => ?_⟩
  · obtain ⟨j, hj, rfl⟩ := List.getElem_of_mem hx
    have := h6 j hj; rw [getElem!_pos v.acl j hj] at this; exact this.2
  · obtain ⟨j, hj, rfl⟩ := List.getElem_of_mem hx
    have := h7 j hj; rwa [getElem!_pos v.ids j hj] at this
  · obtain ⟨j, hj, rfl⟩ := List.getElem_of_mem hx
    have := h8 j hj; rwa [getElem!_pos v.paths j hj] at this
theorem bufB_len (d : Bs) : (bufB d).length = 4 + d.length := by rw [bufB, List.length_append, beB_len]
theorem bufB_le {v : TxF} (h : LfSm v) : (bufB v.data).length ≤ 1048580 := by rw [bufB_len]; have := h.data; omega
theorem pathB_len {v : TxF} {n : TxN} (h : LfSm v) (e : v.n = n) : (txtB n.path).length ≤ 1048580 := by rw [← e, txtB_len]; have := h.path; omega
theorem aclsB_len {v : TxF} (h : LfSm v) : (aclsB v.acl).length ≤ 33554964 := by
  have h1 := flatLen aclB 2097164 v.acl fun x hx => by rw [aclB_len]; have := h.acls x hx; omega
  have h2 := h.acl
  rw [aclsB, List.length_append, beB_len]
  have := Nat.mul_le_mul_right 2097164 h2
  omega
theorem idsB_len {v : TxF} (h : LfSm v) : (idsB v.ids).length ≤ 2199031644164 := by
  have h1 := flatLen idB 2097160 v.ids fun x hx => by rw [idB_len]; have := h.idss x hx; omega
  have h2 := h.ids
  rw [idsB, List.length_append, beB_len]
  have := Nat.mul_le_mul_right 2097160 h2
  omega
theorem txtsB_len {v : TxF} (h : LfSm v) : (txtsB v.paths).length ≤ 1073745924 := by
  have h1 := flatLen txtB 1048580 v.paths fun x hx => by rw [txtB_len]; have := h.pathss x hx; omega
  have h2 := h.paths
  rw [txtsB, List.length_append, beB_len]
  have := Nat.mul_le_mul_right 1048580 h2
  omega
/-- where a transaction lies that a Writer's writes leave as it is -/
abbrev PutR (wb base : Nat) : Nat → Prop := fun b => b < base ∧ b ≠ wb
section
variable {w w' : World} {wb base : Nat}
theorem Kw.cellR (hk : Kw wb base w w') (hb : base ≤ w.heap.size) (p : Addr) (hp : PutR wb base p.block) : w'.cell? p = w.cell? p := by
  have := hk.low p.block hp.1 (Nat.lt_of_lt_of_le hp.1 hb) hp.2
  simp only [World.cell?, this]
theorem SlR.putW {α : Type} [Inhabited α] {enc : α → List Value} {k : Nat} {h : SlC} {zs : List α} (H : SlR w (PutR wb base) enc k h zs) : Sl w base enc k h.1 h.2.1 zs ∧ (0 < h.2.1 → ∀ a, h.1 = some a → a.block ≠ wb) := by
  refine ⟨⟨H.1, fun hn => ?_⟩, fun hn a ha => ?_⟩
  · obtain ⟨b, off, e, hb, hc⟩ := H.2.2 hn
    exact ⟨b, off, e, hb.1, hc⟩
  · obtain ⟨b, off, e, hb, hc⟩ := H.2.2 hn
    rw [e] at ha; injection ha with ha; subst ha; exact hb.2
theorem SlR.slK {h : SlC} {zs : Bs} (H : SlR w (PutR wb base) enc8 1 h zs) (hb : base ≤ w.heap.size) : SlK wb base w h.1 h.2.1 zs := fun W hW =>
  (H.keep (w' := W) fun p hp => hW.cellR hb p hp).sl fun _ => by simp [enc8]
theorem locTx.kw {h : TxH} {v : TxF} (H : locTx w (PutR wb base) h v) (hk : Kw wb base w w') (hb : base ≤ w.heap.size) : locTx w' (PutR wb base) h v := locTx.keep (fun p hp => hk.cellR hb p hp) H
theorem TxAt.kw {h : TxH} {t : TxT} (H : TxAt w (PutR wb base) h t) (hk : Kw wb base w w') (hb : base ≤ w.heap.size) : TxAt w' (PutR wb base) h t := TxAt.keep H fun p hp => hk.cellR hb p hp
end
/-- what a step of put wants -/
structure PutS (wb base : Nat) (l : Bs) (h : TxH) (v : TxF) (w : World) : Prop where
  wr : WrB w wb base l
  x : locTx w (PutR wb base) h v
  z : LfSm v
  n : l.length ≤ 8796093022208
section
variable {w : World} {wb base : Nat} {l : Bs} {h : TxH} {v : TxF}
theorem bufC_any (H : PutS wb base l h v w) : Calls Tryz.prog 77 #[.pointer (some ⟨wb, 0, none⟩), .slice h.d.1 h.d.2.1 h.d.2.2] w (WrPost (l ++ bufB v.data) wb base w) := by
  have h1 := H.x.2.1
  have h2 : bufB v.data = beB h.d.2.1 4 ++ v.data := by rw [bufB, h1.len]
  rw [h2]
  exact wBuffer_any wb base l v.data h.d.1 h.d.2.1 h.d.2.2 w H.wr (h1.slK H.wr.size) h1.hd.1 (Nat.le_trans H.n (by decide)) (by rw [← h1.len]; exact Nat.le_trans H.z.data (by decide))
theorem aclC_any (H : PutS wb base l h v w) : Calls Tryz.prog 78 #[.pointer (some ⟨wb, 0, none⟩), .slice h.a.1 h.a.2.1 h.a.2.2] w (WrPost (l ++ aclsB v.acl) wb base w) := by
  have h1 := H.x.2.2.1
  have h2 : aclsB v.acl = beB h.a.2.1 4 ++ v.acl.flatMap aclB := by rw [aclsB, h1.len]
  rw [h2]
  exact aclPut_any wb base l h.a.1 h.a.2.1 h.a.2.2 v.acl w H.wr h1.putW.1 h1.putW.2 H.n (by rw [← h1.len]; exact Nat.le_trans H.z.acl (by decide)) (fun j hj => by rw [← h1.len] at hj; rw [getElem!_pos v.acl j hj]; exact H.z.acls _ (List.getElem_mem hj))
theorem idsC_any (H : PutS wb base l h v w) : Calls Tryz.prog 81 #[.pointer (some ⟨wb, 0, none⟩), .slice h.i.1 h.i.2.1 h.i.2.2] w (WrPost (l ++ idsB v.ids) wb base w) := by
  have h1 := H.x.2.2.2.1
  have h2 : idsB v.ids = beB h.i.2.1 4 ++ v.ids.flatMap idB := by rw [idsB, h1.len]
  rw [h2]
  exact aclPutIds_any wb base l h.i.1 h.i.2.1 h.i.2.2 v.ids w H.wr h1.putW.1 h1.putW.2 H.n (by rw [← h1.len]; exact H.z.ids) (fun j hj => by rw [← h1.len] at hj; rw [getElem!_pos v.ids j hj]; exact H.z.idss _ (List.getElem_mem hj))
end
/-- a list of texts, some of it written -/
def LPS (wb base n : Nat) (l : Bs) (zs : List ByteArray) (w : World) (i : Value) (wr : World) : Prop := ∃ k : Nat, i = .int .i64 ↑k ∧ k ≤ n ∧ WrB wr wb base (l ++ beB n 4 ++ (zs.take k).flatMap txtB) ∧ Kw wb base w wr
set_option maxRecDepth 100000 in
theorem putS_any (wb base : Nat) (l : Bs) (s : ByteArray) (w : World) (h : WrB w wb base l) (hn : l.length ≤ 17592186044416) (hs : s.size ≤ 1048576) :
    Calls Tryz.prog 83 #[.pointer (some ⟨wb, 0, none⟩), .string s] w (WrPost (l ++ txtB s) wb base w) := by
  have HC := Lib.hid (wText_any wb base l s w h (Nat.le_trans hn (by decide)) (Nat.le_trans hs (by decide)))
  clear h
  go_enter Tryz.func83, Tryz.ntmps83
  go_wp2_with fail
  refine HC.out.mono ?_
  rintro e w1 ⟨rfl, hw, hk⟩
  have HW1 := Lib.hid hw; have HK1 := Lib.hid hk
  clear hw hk
  go_wp2_with fail
  refine bodyPost_ret (results_none rfl _ _ _) rfl ?_
  exact ⟨rfl, HW1.out, HK1.out⟩
set_option maxRecDepth 100000 in
theorem listS_any (wb base : Nat) (l : Bs) (A : Option Addr) (n c : Nat) (zs : List ByteArray) (w : World) (h : WrB w wb base l) (hz : Sl w base encStr 1 A n zs) (hA : 0 < n → ∀ a, A = some a → a.block ≠ wb) (hl : l.length ≤ 8796093022208) (hn : n ≤ 1048576) (hs : ∀ j, j < n → zs[j]!.size ≤ 1048576) :
    Calls Tryz.prog 82 #[.pointer (some ⟨wb, 0, none⟩), .slice A n c, .func (.func 83) #[] #[]] w (WrPost (l ++ (beB n 4 ++ zs.flatMap txtB)) wb base w) := by
  have HZ := Lib.hid hz; have HA := Lib.hid hA; have HS := Lib.hid hs
  have HL := Lib.hid hz.len
  have HC := Lib.hid (wCount_any wb base l n w h (by omega) (by omega))
  have HF := Lib.hid (flat_small txtB zs 1048580 (fun j hj => by have h1 := hs j (by rw [hz.len] at hj; exact hj); rw [txtB_len]; omega))
  have hq : ∀ w : World, (binOp .eql 118 (.func (.func 83) #[] #[]) .nilFunc).run Tryz.prog w = .ok (.bool false) w := fun w => by kernel_rfl
  clear h hz hA hs
  go_enter Tryz.func82, Tryz.ntmps82
  go_wp2_with fail
  refine HC.out.mono ?_
  rintro e w1 ⟨rfl, hw, hk⟩
  have HW1 := Lib.hid hw; have HK1 := Lib.hid hk
  clear hw hk
  go_wp2_with fail
  go_loopw [16] (fun i wr => LPS wb base n l zs w i wr) (fun i _ => n - (RowKit.intOf i).toNat)
  case atStart => exact ⟨0, rfl, Nat.zero_le _, by rw [List.take_zero, List.flatMap_nil, List.append_nil]; exact HW1.out, HK1.out⟩
  case round =>
    obtain ⟨k, rfl, hk, hw, hkw⟩ := hrel
    have HW := Lib.hid hw; have HK := Lib.hid hkw
    by_cases hkn : k < n
    · have hkn2 : (k : Int) < (n : Int) := by omega
      obtain ⟨b, off, hA, hb, hc⟩ := (HZ.out.kw hkw HA.out).cells hkn
      have HSJ := Lib.hid (HS.out k hkn)
      have HST := Lib.hid (flat_step txtB zs (k := k) (by rw [HL.out]; exact hkn))
      have hfl := HF.out k (by rw [HL.out]; exact hk)
      have HLN := Lib.hid (show (l ++ beB n 4 ++ (zs.take k).flatMap txtB).length ≤ 17592186044416 by
        rw [List.length_append, List.length_append, beB_len]
        have : k * 1048580 ≤ 1048576 * 1048580 := Nat.mul_le_mul_right _ (by omega)
        omega)
      subst hA
      generalize zs[k]! = z at *
      have c0 : wr.cell? ⟨b, off + k * 1, none⟩ = some (.string z) := hc 0 _ rfl
      rw [Nat.mul_one] at c0
      clear hw hkw hc hb hfl
      go_wp2_with fail
      refine (putS_any wb base _ z wr HW.out HLN.out HSJ.out).mono ?_
      rintro e w3 ⟨rfl, hw, hkw⟩
      have HW3 := Lib.hid (show WrB w3 wb base (l ++ beB n 4 ++ (zs.take (k + 1)).flatMap txtB) by rw [HST.out, ← List.append_assoc]; exact hw)
      have HK3 := Lib.hid (HK.out.trans hkw)
      clear hw hkw
      go_wp2_with fail
      go_roundw
      case rel => exact ⟨k + 1, by go_num, by omega, HW3.out, HK3.out⟩
      case measure => simp [RowKit.intOf]; omega
    · have hkn2 : ¬ (k : Int) < (n : Int) := by omega
      have hkk : k = n := by omega
      subst hkk
      have HW3 := Lib.hid (show WrB wr wb base (l ++ (beB k 4 ++ zs.flatMap txtB)) by
        have h9 := HW.out
        rw [List.take_of_length_le (by rw [HL.out]; exact Nat.le_refl _), List.append_assoc] at h9
        exact h9)
      clear hw hkw
      go_wp2_with fail
      refine bodyPost_ret (results_none rfl _ _ _) rfl ?_
      exact ⟨rfl, HW3.out, HK.out⟩
theorem ptsC_any {w : World} {wb base : Nat} {l : Bs} {h : TxH} {v : TxF} (H : PutS wb base l h v w) : Calls Tryz.prog 82 #[.pointer (some ⟨wb, 0, none⟩), .slice h.p.1 h.p.2.1 h.p.2.2, .func (.func 83) #[] #[]] w (WrPost (l ++ txtsB v.paths) wb base w) := by
  have h1 := H.x.2.2.2.2
  have h2 : txtsB v.paths = beB h.p.2.1 4 ++ v.paths.flatMap txtB := by rw [txtsB, h1.len]
  rw [h2]
  exact listS_any wb base l h.p.1 h.p.2.1 h.p.2.2 v.paths w H.wr h1.putW.1 h1.putW.2 H.n (by rw [← h1.len]; exact Nat.le_trans H.z.paths (by decide)) (fun j hj => by rw [← h1.len] at hj; rw [getElem!_pos v.paths j hj]; exact H.z.pathss _ (List.getElem_mem hj))
set_option linter.unusedSimpArgs false in
set_option maxRecDepth 100000 in
set_option maxHeartbeats 4000000 in
theorem put1_any (wb base : Nat) (l : Bs) (h : TxH) (v : TxF) (w : World) (H : WrB w wb base l) (hx : locTx w (PutR wb base) h v) (hz : LfSm v) (hl : l.length ≤ 4398046511104) (hty : h.n.ty = 1) :
    Calls Tryz.prog 39 #[.pointer (some ⟨wb, 0, none⟩), txV h] w (WrPost (l ++ leafB v) wb base w) := by
  have hb1 : Below w.heap.size w (w.alloc (.cells #[.int .i32 h.n.ty, .string h.n.path, slV h.d, slV h.a, .int .i64 h.n.ow, .int .i32 h.n.ve, .int .i32 h.n.cr, .bool h.n.qh, .int .i64 h.n.qc, .int .i64 h.n.qb, .int .i64 h.n.si, .int .i32 h.n.st, slV h.i, slV h.p, .int .i32 h.n.co, slV h.s] 33)) := (Below.refl _ w).alloc (Nat.le_refl _) _
  have hk1 : Kw wb base w (w.alloc (.cells #[.int .i32 h.n.ty, .string h.n.path, slV h.d, slV h.a, .int .i64 h.n.ow, .int .i32 h.n.ve, .int .i32 h.n.cr, .bool h.n.qh, .int .i64 h.n.qc, .int .i64 h.n.qb, .int .i64 h.n.si, .int .i32 h.n.st, slV h.i, slV h.p, .int .i32 h.n.co, slV h.s] 33)) := Kw.of_below hb1
  have hlt : w.heap.size ≠ wb := by have := H.lt; have := H.size; omega
  have HV := Lib.hid (show leafB v = txtB h.n.path ++ (bufB v.data ++ (aclsB v.acl ++ (beB (m64 h.n.ow) 8 ++ (beB (m32 h.n.cr) 4)))) by
    have e := hx.1
    unfold leafB
    rw [e, hty]
    (try simp [List.append_assoc]))
  have HZ := Lib.hid hz; have HLT := Lib.hid hlt
  have HZ' := Lib.hid (show v.n = h.n from hx.1)
  have HW0 := Lib.hid (H.below hb1); have HK0 := Lib.hid hk1; have HX0 := Lib.hid (hx.kw hk1 H.size)
  have HG0 := Lib.hid (heap_alloc_new w (.cells #[.int .i32 h.n.ty, .string h.n.path, slV h.d, slV h.a, .int .i64 h.n.ow, .int .i32 h.n.ve, .int .i32 h.n.cr, .bool h.n.qh, .int .i64 h.n.qc, .int .i64 h.n.qb, .int .i64 h.n.si, .int .i32 h.n.st, slV h.i, slV h.p, .int .i32 h.n.co, slV h.s] 33))
  have HN0 := Lib.hid hl
  have t1 : (h.n.ty == 1) = true := by rw [hty]; rfl
  have t2 : (h.n.ty == 2) = false := by rw [hty]; rfl
  have t121 : (h.n.ty == 121) = false := by rw [hty]; rfl
  have t5 : (h.n.ty == 5) = false := by rw [hty]; rfl
  have t7 : (h.n.ty == 7) = false := by rw [hty]; rfl
  have t13 : (h.n.ty == 13) = false := by rw [hty]; rfl
  have t120 : (h.n.ty == 120) = false := by rw [hty]; rfl
  have t14 : (h.n.ty == 14) = false := by rw [hty]; rfl
  have tm10 : (h.n.ty == -10) = false := by rw [hty]; rfl
  have tm11 : (h.n.ty == -11) = false := by rw [hty]; rfl
  have tm1 : (h.n.ty == -1) = false := by rw [hty]; rfl
  clear H hx hz hl hb1 hk1 hty hlt
  go_enter Tryz.func39, Tryz.ntmps39
  go_upto_region 1 with fail
  generalize w.alloc (.cells #[.int .i32 h.n.ty, .string h.n.path, slV h.d, slV h.a, .int .i64 h.n.ow, .int .i32 h.n.ve, .int .i32 h.n.cr, .bool h.n.qh, .int .i64 h.n.qc, .int .i64 h.n.qb, .int .i64 h.n.si, .int .i32 h.n.st, slV h.i, slV h.p, .int .i32 h.n.co, slV h.s] 33) = W0 at *
  have x0 : W0.cell? ⟨w.heap.size, 0, none⟩ = some (.int .i32 h.n.ty) := by rw [cellH HG0.out]; rfl
  have y0 : W0.cell? ⟨w.heap.size, 1, none⟩ = some (.string h.n.path) := by rw [cellH HG0.out]; rfl
  go_wp2_with fail
  refine (wText_any wb base l h.n.path W0 HW0.out (Nat.le_trans HN0.out (by decide)) (Nat.le_trans (show h.n.path.size ≤ 1048576 by rw [← HZ'.out]; exact HZ.out.path) (by decide))).mono ?_
  rintro e W1 ⟨rfl, hw, hk⟩
  obtain ⟨L1, hL⟩ : ∃ L1, L1 = l ++ txtB h.n.path := ⟨_, rfl⟩
  have HLE1 := Lib.hid hL
  have HN1 := Lib.hid (show L1.length ≤ 4398047559684 by
    rw [hL, List.length_append]
    have h8 : (txtB h.n.path).length ≤ 1048580 := pathB_len HZ.out HZ'.out
    have := HN0.out; omega)
  have HW1 := Lib.hid (show WrB W1 wb base L1 by rw [hL]; exact hw)
  have HK1 := Lib.hid (HK0.out.trans hk)
  have HX1 := Lib.hid (HX0.out.kw hk HW0.out.size)
  have HG1 := Lib.hid (hk.heap HG0.out (by decide) HLT.out)
  clear hw hk hL y0 x0
  have y1 : W1.cell? ⟨w.heap.size, 2, none⟩ = some (.slice h.d.1 h.d.2.1 h.d.2.2) := by rw [cellH HG1.out]; rfl
  go_wp2_with fail
  refine (bufC_any ⟨HW1.out, HX1.out, HZ.out, Nat.le_trans HN1.out (by decide)⟩).mono ?_
  rintro e W2 ⟨rfl, hw, hk⟩
  obtain ⟨L2, hL⟩ : ∃ L2, L2 = L1 ++ bufB v.data := ⟨_, rfl⟩
  have HLE2 := Lib.hid hL
  have HN2 := Lib.hid (show L2.length ≤ 4398048608264 by
    rw [hL, List.length_append]
    have h8 : (bufB v.data).length ≤ 1048580 := bufB_le HZ.out
    have := HN1.out; omega)
  have HW2 := Lib.hid (show WrB W2 wb base L2 by rw [hL]; exact hw)
  have HK2 := Lib.hid (HK1.out.trans hk)
  have HX2 := Lib.hid (HX1.out.kw hk HW1.out.size)
  have HG2 := Lib.hid (hk.heap HG1.out (by decide) HLT.out)
  clear hw hk hL y1
  have y2 : W2.cell? ⟨w.heap.size, 3, none⟩ = some (.slice h.a.1 h.a.2.1 h.a.2.2) := by rw [cellH HG2.out]; rfl
  go_wp2_with fail
  refine (aclC_any ⟨HW2.out, HX2.out, HZ.out, Nat.le_trans HN2.out (by decide)⟩).mono ?_
  rintro e W3 ⟨rfl, hw, hk⟩
  obtain ⟨L3, hL⟩ : ∃ L3, L3 = L2 ++ aclsB v.acl := ⟨_, rfl⟩
  have HLE3 := Lib.hid hL
  have HN3 := Lib.hid (show L3.length ≤ 4398082163228 by
    rw [hL, List.length_append]
    have h8 : (aclsB v.acl).length ≤ 33554964 := aclsB_len HZ.out
    have := HN2.out; omega)
  have HW3 := Lib.hid (show WrB W3 wb base L3 by rw [hL]; exact hw)
  have HK3 := Lib.hid (HK2.out.trans hk)
  have HX3 := Lib.hid (HX2.out.kw hk HW2.out.size)
  have HG3 := Lib.hid (hk.heap HG2.out (by decide) HLT.out)
  clear hw hk hL y2
  have y3 : W3.cell? ⟨w.heap.size, 4, none⟩ = some (.int .i64 h.n.ow) := by rw [cellH HG3.out]; rfl
  go_wp2_with fail
  refine (wLong_any wb base L3 h.n.ow W3 HW3.out (Nat.le_trans HN3.out (by decide))).mono ?_
  rintro e W4 ⟨rfl, hw, hk⟩
  obtain ⟨L4, hL⟩ : ∃ L4, L4 = L3 ++ beB (m64 h.n.ow) 8 := ⟨_, rfl⟩
  have HLE4 := Lib.hid hL
  have HN4 := Lib.hid (show L4.length ≤ 4398082163236 by
    rw [hL, List.length_append]
    have h8 : (beB (m64 h.n.ow) 8).length ≤ 8 := (by rw [beB_len]; exact Nat.le_refl _)
    have := HN3.out; omega)
  have HW4 := Lib.hid (show WrB W4 wb base L4 by rw [hL]; exact hw)
  have HK4 := Lib.hid (HK3.out.trans hk)
  have HX4 := Lib.hid (HX3.out.kw hk HW3.out.size)
  have HG4 := Lib.hid (hk.heap HG3.out (by decide) HLT.out)
  clear hw hk hL y3
  have y4 : W4.cell? ⟨w.heap.size, 6, none⟩ = some (.int .i32 h.n.cr) := by rw [cellH HG4.out]; rfl
  go_wp2_with fail
  refine (wInt_any wb base L4 h.n.cr W4 HW4.out (Nat.le_trans HN4.out (by decide))).mono ?_
  rintro e W5 ⟨rfl, hw, hk⟩
  obtain ⟨L5, hL⟩ : ∃ L5, L5 = L4 ++ beB (m32 h.n.cr) 4 := ⟨_, rfl⟩
  have HLE5 := Lib.hid hL
  have HN5 := Lib.hid (show L5.length ≤ 4398082163240 by
    rw [hL, List.length_append]
    have h8 : (beB (m32 h.n.cr) 4).length ≤ 4 := (by rw [beB_len]; decide)
    have := HN4.out; omega)
  have HW5 := Lib.hid (show WrB W5 wb base L5 by rw [hL]; exact hw)
  have HK5 := Lib.hid (HK4.out.trans hk)
  have HX5 := Lib.hid (HX4.out.kw hk HW4.out.size)
  have HG5 := Lib.hid (hk.heap HG4.out (by decide) HLT.out)
  clear hw hk hL y4
  go_wp2_with fail
  refine bodyPost_ret (results_none rfl _ _ _) rfl ?_
  have hf : L5 = l ++ leafB v := by rw [HV.out, HLE5.out, HLE4.out, HLE3.out, HLE2.out, HLE1.out]; (try simp [List.append_assoc])
  exact ⟨rfl, hf ▸ HW5.out, HK5.out⟩
set_option linter.unusedSimpArgs false in
set_option maxRecDepth 100000 in
set_option maxHeartbeats 4000000 in
theorem put2_any (wb base : Nat) (l : Bs) (h : TxH) (v : TxF) (w : World) (H : WrB w wb base l) (hx : locTx w (PutR wb base) h v) (hz : LfSm v) (hl : l.length ≤ 4398046511104) (hty : h.n.ty = 2) :
    Calls Tryz.prog 39 #[.pointer (some ⟨wb, 0, none⟩), txV h] w (WrPost (l ++ leafB v) wb base w) := by
  have hb1 : Below w.heap.size w (w.alloc (.cells #[.int .i32 h.n.ty, .string h.n.path, slV h.d, slV h.a, .int .i64 h.n.ow, .int .i32 h.n.ve, .int .i32 h.n.cr, .bool h.n.qh, .int .i64 h.n.qc, .int .i64 h.n.qb, .int .i64 h.n.si, .int .i32 h.n.st, slV h.i, slV h.p, .int .i32 h.n.co, slV h.s] 33)) := (Below.refl _ w).alloc (Nat.le_refl _) _
  have hk1 : Kw wb base w (w.alloc (.cells #[.int .i32 h.n.ty, .string h.n.path, slV h.d, slV h.a, .int .i64 h.n.ow, .int .i32 h.n.ve, .int .i32 h.n.cr, .bool h.n.qh, .int .i64 h.n.qc, .int .i64 h.n.qb, .int .i64 h.n.si, .int .i32 h.n.st, slV h.i, slV h.p, .int .i32 h.n.co, slV h.s] 33)) := Kw.of_below hb1
  have hlt : w.heap.size ≠ wb := by have := H.lt; have := H.size; omega
  have HV := Lib.hid (show leafB v = txtB h.n.path by
    have e := hx.1
    unfold leafB
    rw [e, hty]
    (try simp [List.append_assoc]))
  have HZ := Lib.hid hz; have HLT := Lib.hid hlt
  have HZ' := Lib.hid (show v.n = h.n from hx.1)
  have HW0 := Lib.hid (H.below hb1); have HK0 := Lib.hid hk1; have HX0 := Lib.hid (hx.kw hk1 H.size)
  have HG0 := Lib.hid (heap_alloc_new w (.cells #[.int .i32 h.n.ty, .string h.n.path, slV h.d, slV h.a, .int .i64 h.n.ow, .int .i32 h.n.ve, .int .i32 h.n.cr, .bool h.n.qh, .int .i64 h.n.qc, .int .i64 h.n.qb, .int .i64 h.n.si, .int .i32 h.n.st, slV h.i, slV h.p, .int .i32 h.n.co, slV h.s] 33))
  have HN0 := Lib.hid hl
  have t1 : (h.n.ty == 1) = false := by rw [hty]; rfl
  have t2 : (h.n.ty == 2) = true := by rw [hty]; rfl
  have t121 : (h.n.ty == 121) = false := by rw [hty]; rfl
  have t5 : (h.n.ty == 5) = false := by rw [hty]; rfl
  have t7 : (h.n.ty == 7) = false := by rw [hty]; rfl
  have t13 : (h.n.ty == 13) = false := by rw [hty]; rfl
  have t120 : (h.n.ty == 120) = false := by rw [hty]; rfl
  have t14 : (h.n.ty == 14) = false := by rw [hty]; rfl
  have tm10 : (h.n.ty == -10) = false := by rw [hty]; rfl
  have tm11 : (h.n.ty == -11) = false := by rw [hty]; rfl
  have tm1 : (h.n.ty == -1) = false := by rw [hty]; rfl
  clear H hx hz hl hb1 hk1 hty hlt
  go_enter Tryz.func39, Tryz.ntmps39
  go_upto_region 1 with fail
  generalize w.alloc (.cells #[.int .i32 h.n.ty, .string h.n.path, slV h.d, slV h.a, .int .i64 h.n.ow, .int .i32 h.n.ve, .int .i32 h.n.cr, .bool h.n.qh, .int .i64 h.n.qc, .int .i64 h.n.qb, .int .i64 h.n.si, .int .i32 h.n.st, slV h.i, slV h.p, .int .i32 h.n.co, slV h.s] 33) = W0 at *
  have x0 : W0.cell? ⟨w.heap.size, 0, none⟩ = some (.int .i32 h.n.ty) := by rw [cellH HG0.out]; rfl
  have y0 : W0.cell? ⟨w.heap.size, 1, none⟩ = some (.string h.n.path) := by rw [cellH HG0.out]; rfl
  go_wp2_with fail
  refine (wText_any wb base l h.n.path W0 HW0.out (Nat.le_trans HN0.out (by decide)) (Nat.le_trans (show h.n.path.size ≤ 1048576 by rw [← HZ'.out]; exact HZ.out.path) (by decide))).mono ?_
  rintro e W1 ⟨rfl, hw, hk⟩
  obtain ⟨L1, hL⟩ : ∃ L1, L1 = l ++ txtB h.n.path := ⟨_, rfl⟩
  have HLE1 := Lib.hid hL
  have HN1 := Lib.hid (show L1.length ≤ 4398047559684 by
    rw [hL, List.length_append]
    have h8 : (txtB h.n.path).length ≤ 1048580 := pathB_len HZ.out HZ'.out
    have := HN0.out; omega)
  have HW1 := Lib.hid (show WrB W1 wb base L1 by rw [hL]; exact hw)
  have HK1 := Lib.hid (HK0.out.trans hk)
  have HX1 := Lib.hid (HX0.out.kw hk HW0.out.size)
  have HG1 := Lib.hid (hk.heap HG0.out (by decide) HLT.out)
  clear hw hk hL y0 x0
  go_wp2_with fail
  refine bodyPost_ret (results_none rfl _ _ _) rfl ?_
  have hf : L1 = l ++ leafB v := by rw [HV.out, HLE1.out]; (try simp [List.append_assoc])
  exact ⟨rfl, hf ▸ HW1.out, HK1.out⟩
set_option linter.unusedSimpArgs false in
set_option maxRecDepth 100000 in
set_option maxHeartbeats 4000000 in
theorem put121_any (wb base : Nat) (l : Bs) (h : TxH) (v : TxF) (w : World) (H : WrB w wb base l) (hx : locTx w (PutR wb base) h v) (hz : LfSm v) (hl : l.length ≤ 4398046511104) (hty : h.n.ty = 121) :
    Calls Tryz.prog 39 #[.pointer (some ⟨wb, 0, none⟩), txV h] w (WrPost (l ++ leafB v) wb base w) := by
  have hb1 : Below w.heap.size w (w.alloc (.cells #[.int .i32 h.n.ty, .string h.n.path, slV h.d, slV h.a, .int .i64 h.n.ow, .int .i32 h.n.ve, .int .i32 h.n.cr, .bool h.n.qh, .int .i64 h.n.qc, .int .i64 h.n.qb, .int .i64 h.n.si, .int .i32 h.n.st, slV h.i, slV h.p, .int .i32 h.n.co, slV h.s] 33)) := (Below.refl _ w).alloc (Nat.le_refl _) _
  have hk1 : Kw wb base w (w.alloc (.cells #[.int .i32 h.n.ty, .string h.n.path, slV h.d, slV h.a, .int .i64 h.n.ow, .int .i32 h.n.ve, .int .i32 h.n.cr, .bool h.n.qh, .int .i64 h.n.qc, .int .i64 h.n.qb, .int .i64 h.n.si, .int .i32 h.n.st, slV h.i, slV h.p, .int .i32 h.n.co, slV h.s] 33)) := Kw.of_below hb1
  have hlt : w.heap.size ≠ wb := by have := H.lt; have := H.size; omega
  have HV := Lib.hid (show leafB v = txtB h.n.path by
    have e := hx.1
    unfold leafB
    rw [e, hty]
    (try simp [List.append_assoc]))
  have HZ := Lib.hid hz; have HLT := Lib.hid hlt
  have HZ' := Lib.hid (show v.n = h.n from hx.1)
  have HW0 := Lib.hid (H.below hb1); have HK0 := Lib.hid hk1; have HX0 := Lib.hid (hx.kw hk1 H.size)
  have HG0 := Lib.hid (heap_alloc_new w (.cells #[.int .i32 h.n.ty, .string h.n.path, slV h.d, slV h.a, .int .i64 h.n.ow, .int .i32 h.n.ve, .int .i32 h.n.cr, .bool h.n.qh, .int .i64 h.n.qc, .int .i64 h.n.qb, .int .i64 h.n.si, .int .i32 h.n.st, slV h.i, slV h.p, .int .i32 h.n.co, slV h.s] 33))
  have HN0 := Lib.hid hl
  have t1 : (h.n.ty == 1) = false := by rw [hty]; rfl
  have t2 : (h.n.ty == 2) = false := by rw [hty]; rfl
  have t121 : (h.n.ty == 121) = true := by rw [hty]; rfl
  have t5 : (h.n.ty == 5) = false := by rw [hty]; rfl
  have t7 : (h.n.ty == 7) = false := by rw [hty]; rfl
  have t13 : (h.n.ty == 13) = false := by rw [hty]; rfl
  have t120 : (h.n.ty == 120) = false := by rw [hty]; rfl
  have t14 : (h.n.ty == 14) = false := by rw [hty]; rfl
  have tm10 : (h.n.ty == -10) = false := by rw [hty]; rfl
  have tm11 : (h.n.ty == -11) = false := by rw [hty]; rfl
  have tm1 : (h.n.ty == -1) = false := by rw [hty]; rfl
  clear H hx hz hl hb1 hk1 hty hlt
  go_enter Tryz.func39, Tryz.ntmps39
  go_upto_region 1 with fail
  generalize w.alloc (.cells #[.int .i32 h.n.ty, .string h.n.path, slV h.d, slV h.a, .int .i64 h.n.ow, .int .i32 h.n.ve, .int .i32 h.n.cr, .bool h.n.qh, .int .i64 h.n.qc, .int .i64 h.n.qb, .int .i64 h.n.si, .int .i32 h.n.st, slV h.i, slV h.p, .int .i32 h.n.co, slV h.s] 33) = W0 at *
  have x0 : W0.cell? ⟨w.heap.size, 0, none⟩ = some (.int .i32 h.n.ty) := by rw [cellH HG0.out]; rfl
  have y0 : W0.cell? ⟨w.heap.size, 1, none⟩ = some (.string h.n.path) := by rw [cellH HG0.out]; rfl
  go_wp2_with fail
  refine (wText_any wb base l h.n.path W0 HW0.out (Nat.le_trans HN0.out (by decide)) (Nat.le_trans (show h.n.path.size ≤ 1048576 by rw [← HZ'.out]; exact HZ.out.path) (by decide))).mono ?_
  rintro e W1 ⟨rfl, hw, hk⟩
  obtain ⟨L1, hL⟩ : ∃ L1, L1 = l ++ txtB h.n.path := ⟨_, rfl⟩
  have HLE1 := Lib.hid hL
  have HN1 := Lib.hid (show L1.length ≤ 4398047559684 by
    rw [hL, List.length_append]
    have h8 : (txtB h.n.path).length ≤ 1048580 := pathB_len HZ.out HZ'.out
    have := HN0.out; omega)
  have HW1 := Lib.hid (show WrB W1 wb base L1 by rw [hL]; exact hw)
  have HK1 := Lib.hid (HK0.out.trans hk)
  have HX1 := Lib.hid (HX0.out.kw hk HW0.out.size)
  have HG1 := Lib.hid (hk.heap HG0.out (by decide) HLT.out)
  clear hw hk hL y0 x0
  go_wp2_with fail
  refine bodyPost_ret (results_none rfl _ _ _) rfl ?_
  have hf : L1 = l ++ leafB v := by rw [HV.out, HLE1.out]; (try simp [List.append_assoc])
  exact ⟨rfl, hf ▸ HW1.out, HK1.out⟩
set_option linter.unusedSimpArgs false in
set_option maxRecDepth 100000 in
set_option maxHeartbeats 4000000 in
theorem put5_any (wb base : Nat) (l : Bs) (h : TxH) (v : TxF) (w : World) (H : WrB w wb base l) (hx : locTx w (PutR wb base) h v) (hz : LfSm v) (hl : l.length ≤ 4398046511104) (hty : h.n.ty = 5) :
    Calls Tryz.prog 39 #[.pointer (some ⟨wb, 0, none⟩), txV h] w (WrPost (l ++ leafB v) wb base w) := by
  have hb1 : Below w.heap.size w (w.alloc (.cells #[.int .i32 h.n.ty, .string h.n.path, slV h.d, slV h.a, .int .i64 h.n.ow, .int .i32 h.n.ve, .int .i32 h.n.cr, .bool h.n.qh, .int .i64 h.n.qc, .int .i64 h.n.qb, .int .i64 h.n.si, .int .i32 h.n.st, slV h.i, slV h.p, .int .i32 h.n.co, slV h.s] 33)) := (Below.refl _ w).alloc (Nat.le_refl _) _
  have hk1 : Kw wb base w (w.alloc (.cells #[.int .i32 h.n.ty, .string h.n.path, slV h.d, slV h.a, .int .i64 h.n.ow, .int .i32 h.n.ve, .int .i32 h.n.cr, .bool h.n.qh, .int .i64 h.n.qc, .int .i64 h.n.qb, .int .i64 h.n.si, .int .i32 h.n.st, slV h.i, slV h.p, .int .i32 h.n.co, slV h.s] 33)) := Kw.of_below hb1
  have hlt : w.heap.size ≠ wb := by have := H.lt; have := H.size; omega
  have HV := Lib.hid (show leafB v = txtB h.n.path ++ (bufB v.data ++ (beB (m32 h.n.ve) 4)) by
    have e := hx.1
    unfold leafB
    rw [e, hty]
    (try simp [List.append_assoc]))
  have HZ := Lib.hid hz; have HLT := Lib.hid hlt
  have HZ' := Lib.hid (show v.n = h.n from hx.1)
  have HW0 := Lib.hid (H.below hb1); have HK0 := Lib.hid hk1; have HX0 := Lib.hid (hx.kw hk1 H.size)
  have HG0 := Lib.hid (heap_alloc_new w (.cells #[.int .i32 h.n.ty, .string h.n.path, slV h.d, slV h.a, .int .i64 h.n.ow, .int .i32 h.n.ve, .int .i32 h.n.cr, .bool h.n.qh, .int .i64 h.n.qc, .int .i64 h.n.qb, .int .i64 h.n.si, .int .i32 h.n.st, slV h.i, slV h.p, .int .i32 h.n.co, slV h.s] 33))
  have HN0 := Lib.hid hl
  have t1 : (h.n.ty == 1) = false := by rw [hty]; rfl
  have t2 : (h.n.ty == 2) = false := by rw [hty]; rfl
  have t121 : (h.n.ty == 121) = false := by rw [hty]; rfl
  have t5 : (h.n.ty == 5) = true := by rw [hty]; rfl
  have t7 : (h.n.ty == 7) = false := by rw [hty]; rfl
  have t13 : (h.n.ty == 13) = false := by rw [hty]; rfl
  have t120 : (h.n.ty == 120) = false := by rw [hty]; rfl
  have t14 : (h.n.ty == 14) = false := by rw [hty]; rfl
  have tm10 : (h.n.ty == -10) = false := by rw [hty]; rfl
  have tm11 : (h.n.ty == -11) = false := by rw [hty]; rfl
  have tm1 : (h.n.ty == -1) = false := by rw [hty]; rfl
  clear H hx hz hl hb1 hk1 hty hlt
  go_enter Tryz.func39, Tryz.ntmps39
  go_upto_region 1 with fail
  generalize w.alloc (.cells #[.int .i32 h.n.ty, .string h.n.path, slV h.d, slV h.a, .int .i64 h.n.ow, .int .i32 h.n.ve, .int .i32 h.n.cr, .bool h.n.qh, .int .i64 h.n.qc, .int .i64 h.n.qb, .int .i64 h.n.si, .int .i32 h.n.st, slV h.i, slV h.p, .int .i32 h.n.co, slV h.s] 33) = W0 at *
  have x0 : W0.cell? ⟨w.heap.size, 0, none⟩ = some (.int .i32 h.n.ty) := by rw [cellH HG0.out]; rfl
  have y0 : W0.cell? ⟨w.heap.size, 1, none⟩ = some (.string h.n.path) := by rw [cellH HG0.out]; rfl
  go_wp2_with fail
  refine (wText_any wb base l h.n.path W0 HW0.out (Nat.le_trans HN0.out (by decide)) (Nat.le_trans (show h.n.path.size ≤ 1048576 by rw [← HZ'.out]; exact HZ.out.path) (by decide))).mono ?_
  rintro e W1 ⟨rfl, hw, hk⟩
  obtain ⟨L1, hL⟩ : ∃ L1, L1 = l ++ txtB h.n.path := ⟨_, rfl⟩
  have HLE1 := Lib.hid hL
  have HN1 := Lib.hid (show L1.length ≤ 4398047559684 by
    rw [hL, List.length_append]
    have h8 : (txtB h.n.path).length ≤ 1048580 := pathB_len HZ.out HZ'.out
    have := HN0.out; omega)
  have HW1 := Lib.hid (show WrB W1 wb base L1 by rw [hL]; exact hw)
  have HK1 := Lib.hid (HK0.out.trans hk)
  have HX1 := Lib.hid (HX0.out.kw hk HW0.out.size)
  have HG1 := Lib.hid (hk.heap HG0.out (by decide) HLT.out)
  clear hw hk hL y0 x0
  have y1 : W1.cell? ⟨w.heap.size, 2, none⟩ = some (.slice h.d.1 h.d.2.1 h.d.2.2) := by rw [cellH HG1.out]; rfl
  go_wp2_with fail
  refine (bufC_any ⟨HW1.out, HX1.out, HZ.out, Nat.le_trans HN1.out (by decide)⟩).mono ?_
  rintro e W2 ⟨rfl, hw, hk⟩
  obtain ⟨L2, hL⟩ : ∃ L2, L2 = L1 ++ bufB v.data := ⟨_, rfl⟩
  have HLE2 := Lib.hid hL
  have HN2 := Lib.hid (show L2.length ≤ 4398048608264 by
    rw [hL, List.length_append]
    have h8 : (bufB v.data).length ≤ 1048580 := bufB_le HZ.out
    have := HN1.out; omega)
  have HW2 := Lib.hid (show WrB W2 wb base L2 by rw [hL]; exact hw)
  have HK2 := Lib.hid (HK1.out.trans hk)
  have HX2 := Lib.hid (HX1.out.kw hk HW1.out.size)
  have HG2 := Lib.hid (hk.heap HG1.out (by decide) HLT.out)
  clear hw hk hL y1
  have y2 : W2.cell? ⟨w.heap.size, 5, none⟩ = some (.int .i32 h.n.ve) := by rw [cellH HG2.out]; rfl
  go_wp2_with fail
  refine (wInt_any wb base L2 h.n.ve W2 HW2.out (Nat.le_trans HN2.out (by decide))).mono ?_
  rintro e W3 ⟨rfl, hw, hk⟩
  obtain ⟨L3, hL⟩ : ∃ L3, L3 = L2 ++ beB (m32 h.n.ve) 4 := ⟨_, rfl⟩
  have HLE3 := Lib.hid hL
  have HN3 := Lib.hid (show L3.length ≤ 4398048608268 by
    rw [hL, List.length_append]
    have h8 : (beB (m32 h.n.ve) 4).length ≤ 4 := (by rw [beB_len]; decide)
    have := HN2.out; omega)
  have HW3 := Lib.hid (show WrB W3 wb base L3 by rw [hL]; exact hw)
  have HK3 := Lib.hid (HK2.out.trans hk)
  have HX3 := Lib.hid (HX2.out.kw hk HW2.out.size)
  have HG3 := Lib.hid (hk.heap HG2.out (by decide) HLT.out)
  clear hw hk hL y2
  go_wp2_with fail
  refine bodyPost_ret (results_none rfl _ _ _) rfl ?_
  have hf : L3 = l ++ leafB v := by rw [HV.out, HLE3.out, HLE2.out, HLE1.out]; (try simp [List.append_assoc])
  exact ⟨rfl, hf ▸ HW3.out, HK3.out⟩
set_option linter.unusedSimpArgs false in
set_option maxRecDepth 100000 in
set_option maxHeartbeats 4000000 in
theorem put7_any (wb base : Nat) (l : Bs) (h : TxH) (v : TxF) (w : World) (H : WrB w wb base l) (hx : locTx w (PutR wb base) h v) (hz : LfSm v) (hl : l.length ≤ 4398046511104) (hty : h.n.ty = 7) :
    Calls Tryz.prog 39 #[.pointer (some ⟨wb, 0, none⟩), txV h] w (WrPost (l ++ leafB v) wb base w) := by
  have hb1 : Below w.heap.size w (w.alloc (.cells #[.int .i32 h.n.ty, .string h.n.path, slV h.d, slV h.a, .int .i64 h.n.ow, .int .i32 h.n.ve, .int .i32 h.n.cr, .bool h.n.qh, .int .i64 h.n.qc, .int .i64 h.n.qb, .int .i64 h.n.si, .int .i32 h.n.st, slV h.i, slV h.p, .int .i32 h.n.co, slV h.s] 33)) := (Below.refl _ w).alloc (Nat.le_refl _) _
  have hk1 : Kw wb base w (w.alloc (.cells #[.int .i32 h.n.ty, .string h.n.path, slV h.d, slV h.a, .int .i64 h.n.ow, .int .i32 h.n.ve, .int .i32 h.n.cr, .bool h.n.qh, .int .i64 h.n.qc, .int .i64 h.n.qb, .int .i64 h.n.si, .int .i32 h.n.st, slV h.i, slV h.p, .int .i32 h.n.co, slV h.s] 33)) := Kw.of_below hb1
  have hlt : w.heap.size ≠ wb := by have := H.lt; have := H.size; omega
  have HV := Lib.hid (show leafB v = txtB h.n.path ++ (aclsB v.acl ++ (beB (m32 h.n.ve) 4)) by
    have e := hx.1
    unfold leafB
    rw [e, hty]
    (try simp [List.append_assoc]))
  have HZ := Lib.hid hz; have HLT := Lib.hid hlt
  have HZ' := Lib.hid (show v.n = h.n from hx.1)
  have HW0 := Lib.hid (H.below hb1); have HK0 := Lib.hid hk1; have HX0 := Lib.hid (hx.kw hk1 H.size)
  have HG0 := Lib.hid (heap_alloc_new w (.cells #[.int .i32 h.n.ty, .string h.n.path, slV h.d, slV h.a, .int .i64 h.n.ow, .int .i32 h.n.ve, .int .i32 h.n.cr, .bool h.n.qh, .int .i64 h.n.qc, .int .i64 h.n.qb, .int .i64 h.n.si, .int .i32 h.n.st, slV h.i, slV h.p, .int .i32 h.n.co, slV h.s] 33))
  have HN0 := Lib.hid hl
  have t1 : (h.n.ty == 1) = false := by rw [hty]; rfl
  have t2 : (h.n.ty == 2) = false := by rw [hty]; rfl
  have t121 : (h.n.ty == 121) = false := by rw [hty]; rfl
  have t5 : (h.n.ty == 5) = false := by rw [hty]; rfl
  have t7 : (h.n.ty == 7) = true := by rw [hty]; rfl
  have t13 : (h.n.ty == 13) = false := by rw [hty]; rfl
  have t120 : (h.n.ty == 120) = false := by rw [hty]; rfl
  have t14 : (h.n.ty == 14) = false := by rw [hty]; rfl
  have tm10 : (h.n.ty == -10) = false := by rw [hty]; rfl
  have tm11 : (h.n.ty == -11) = false := by rw [hty]; rfl
  have tm1 : (h.n.ty == -1) = false := by rw [hty]; rfl
  clear H hx hz hl hb1 hk1 hty hlt
  go_enter Tryz.func39, Tryz.ntmps39
  go_upto_region 1 with fail
  generalize w.alloc (.cells #[.int .i32 h.n.ty, .string h.n.path, slV h.d, slV h.a, .int .i64 h.n.ow, .int .i32 h.n.ve, .int .i32 h.n.cr, .bool h.n.qh, .int .i64 h.n.qc, .int .i64 h.n.qb, .int .i64 h.n.si, .int .i32 h.n.st, slV h.i, slV h.p, .int .i32 h.n.co, slV h.s] 33) = W0 at *
  have x0 : W0.cell? ⟨w.heap.size, 0, none⟩ = some (.int .i32 h.n.ty) := by rw [cellH HG0.out]; rfl
  have y0 : W0.cell? ⟨w.heap.size, 1, none⟩ = some (.string h.n.path) := by rw [cellH HG0.out]; rfl
  go_wp2_with fail
  refine (wText_any wb base l h.n.path W0 HW0.out (Nat.le_trans HN0.out (by decide)) (Nat.le_trans (show h.n.path.size ≤ 1048576 by rw [← HZ'.out]; exact HZ.out.path) (by decide))).mono ?_
  rintro e W1 ⟨rfl, hw, hk⟩
  obtain ⟨L1, hL⟩ : ∃ L1, L1 = l ++ txtB h.n.path := ⟨_, rfl⟩
  have HLE1 := Lib.hid hL
  have HN1 := Lib.hid (show L1.length ≤ 4398047559684 by
    rw [hL, List.length_append]
    have h8 : (txtB h.n.path).length ≤ 1048580 := pathB_len HZ.out HZ'.out
    have := HN0.out; omega)
  have HW1 := Lib.hid (show WrB W1 wb base L1 by rw [hL]; exact hw)
  have HK1 := Lib.hid (HK0.out.trans hk)
  have HX1 := Lib.hid (HX0.out.kw hk HW0.out.size)
  have HG1 := Lib.hid (hk.heap HG0.out (by decide) HLT.out)
  clear hw hk hL y0 x0
  have y1 : W1.cell? ⟨w.heap.size, 3, none⟩ = some (.slice h.a.1 h.a.2.1 h.a.2.2) := by rw [cellH HG1.out]; rfl
  go_wp2_with fail
  refine (aclC_any ⟨HW1.out, HX1.out, HZ.out, Nat.le_trans HN1.out (by decide)⟩).mono ?_
  rintro e W2 ⟨rfl, hw, hk⟩
  obtain ⟨L2, hL⟩ : ∃ L2, L2 = L1 ++ aclsB v.acl := ⟨_, rfl⟩
  have HLE2 := Lib.hid hL
  have HN2 := Lib.hid (show L2.length ≤ 4398081114648 by
    rw [hL, List.length_append]
    have h8 : (aclsB v.acl).length ≤ 33554964 := aclsB_len HZ.out
    have := HN1.out; omega)
  have HW2 := Lib.hid (show WrB W2 wb base L2 by rw [hL]; exact hw)
  have HK2 := Lib.hid (HK1.out.trans hk)
  have HX2 := Lib.hid (HX1.out.kw hk HW1.out.size)
  have HG2 := Lib.hid (hk.heap HG1.out (by decide) HLT.out)
  clear hw hk hL y1
  have y2 : W2.cell? ⟨w.heap.size, 5, none⟩ = some (.int .i32 h.n.ve) := by rw [cellH HG2.out]; rfl
  go_wp2_with fail
  refine (wInt_any wb base L2 h.n.ve W2 HW2.out (Nat.le_trans HN2.out (by decide))).mono ?_
  rintro e W3 ⟨rfl, hw, hk⟩
  obtain ⟨L3, hL⟩ : ∃ L3, L3 = L2 ++ beB (m32 h.n.ve) 4 := ⟨_, rfl⟩
  have HLE3 := Lib.hid hL
  have HN3 := Lib.hid (show L3.length ≤ 4398081114652 by
    rw [hL, List.length_append]
    have h8 : (beB (m32 h.n.ve) 4).length ≤ 4 := (by rw [beB_len]; decide)
    have := HN2.out; omega)
  have HW3 := Lib.hid (show WrB W3 wb base L3 by rw [hL]; exact hw)
  have HK3 := Lib.hid (HK2.out.trans hk)
  have HX3 := Lib.hid (HX2.out.kw hk HW2.out.size)
  have HG3 := Lib.hid (hk.heap HG2.out (by decide) HLT.out)
  clear hw hk hL y2
  go_wp2_with fail
  refine bodyPost_ret (results_none rfl _ _ _) rfl ?_
  have hf : L3 = l ++ leafB v := by rw [HV.out, HLE3.out, HLE2.out, HLE1.out]; (try simp [List.append_assoc])
  exact ⟨rfl, hf ▸ HW3.out, HK3.out⟩
set_option linter.unusedSimpArgs false in
set_option maxRecDepth 100000 in
set_option maxHeartbeats 4000000 in
theorem put13_any (wb base : Nat) (l : Bs) (h : TxH) (v : TxF) (w : World) (H : WrB w wb base l) (hx : locTx w (PutR wb base) h v) (hz : LfSm v) (hl : l.length ≤ 4398046511104) (hty : h.n.ty = 13) :
    Calls Tryz.prog 39 #[.pointer (some ⟨wb, 0, none⟩), txV h] w (WrPost (l ++ leafB v) wb base w) := by
  have hb1 : Below w.heap.size w (w.alloc (.cells #[.int .i32 h.n.ty, .string h.n.path, slV h.d, slV h.a, .int .i64 h.n.ow, .int .i32 h.n.ve, .int .i32 h.n.cr, .bool h.n.qh, .int .i64 h.n.qc, .int .i64 h.n.qb, .int .i64 h.n.si, .int .i32 h.n.st, slV h.i, slV h.p, .int .i32 h.n.co, slV h.s] 33)) := (Below.refl _ w).alloc (Nat.le_refl _) _
  have hk1 : Kw wb base w (w.alloc (.cells #[.int .i32 h.n.ty, .string h.n.path, slV h.d, slV h.a, .int .i64 h.n.ow, .int .i32 h.n.ve, .int .i32 h.n.cr, .bool h.n.qh, .int .i64 h.n.qc, .int .i64 h.n.qb, .int .i64 h.n.si, .int .i32 h.n.st, slV h.i, slV h.p, .int .i32 h.n.co, slV h.s] 33)) := Kw.of_below hb1
  have hlt : w.heap.size ≠ wb := by have := H.lt; have := H.size; omega
  have HV := Lib.hid (show leafB v = txtB h.n.path ++ (beB (m32 h.n.ve) 4) by
    have e := hx.1
    unfold leafB
    rw [e, hty]
    (try simp [List.append_assoc]))
  have HZ := Lib.hid hz; have HLT := Lib.hid hlt
  have HZ' := Lib.hid (show v.n = h.n from hx.1)
  have HW0 := Lib.hid (H.below hb1); have HK0 := Lib.hid hk1; have HX0 := Lib.hid (hx.kw hk1 H.size)
  have HG0 := Lib.hid (heap_alloc_new w (.cells #[.int .i32 h.n.ty, .string h.n.path, slV h.d, slV h.a, .int .i64 h.n.ow, .int .i32 h.n.ve, .int .i32 h.n.cr, .bool h.n.qh, .int .i64 h.n.qc, .int .i64 h.n.qb, .int .i64 h.n.si, .int .i32 h.n.st, slV h.i, slV h.p, .int .i32 h.n.co, slV h.s] 33))
  have HN0 := Lib.hid hl
  have t1 : (h.n.ty == 1) = false := by rw [hty]; rfl
  have t2 : (h.n.ty == 2) = false := by rw [hty]; rfl
  have t121 : (h.n.ty == 121) = false := by rw [hty]; rfl
  have t5 : (h.n.ty == 5) = false := by rw [hty]; rfl
  have t7 : (h.n.ty == 7) = false := by rw [hty]; rfl
  have t13 : (h.n.ty == 13) = true := by rw [hty]; rfl
  have t120 : (h.n.ty == 120) = false := by rw [hty]; rfl
  have t14 : (h.n.ty == 14) = false := by rw [hty]; rfl
  have tm10 : (h.n.ty == -10) = false := by rw [hty]; rfl
  have tm11 : (h.n.ty == -11) = false := by rw [hty]; rfl
  have tm1 : (h.n.ty == -1) = false := by rw [hty]; rfl
  clear H hx hz hl hb1 hk1 hty hlt
  go_enter Tryz.func39, Tryz.ntmps39
  go_upto_region 1 with fail
  generalize w.alloc (.cells #[.int .i32 h.n.ty, .string h.n.path, slV h.d, slV h.a, .int .i64 h.n.ow, .int .i32 h.n.ve, .int .i32 h.n.cr, .bool h.n.qh, .int .i64 h.n.qc, .int .i64 h.n.qb, .int .i64 h.n.si, .int .i32 h.n.st, slV h.i, slV h.p, .int .i32 h.n.co, slV h.s] 33) = W0 at *
  have x0 : W0.cell? ⟨w.heap.size, 0, none⟩ = some (.int .i32 h.n.ty) := by rw [cellH HG0.out]; rfl
  have y0 : W0.cell? ⟨w.heap.size, 1, none⟩ = some (.string h.n.path) := by rw [cellH HG0.out]; rfl
  go_wp2_with fail
  refine (wText_any wb base l h.n.path W0 HW0.out (Nat.le_trans HN0.out (by decide)) (Nat.le_trans (show h.n.path.size ≤ 1048576 by rw [← HZ'.out]; exact HZ.out.path) (by decide))).mono ?_
  rintro e W1 ⟨rfl, hw, hk⟩
  obtain ⟨L1, hL⟩ : ∃ L1, L1 = l ++ txtB h.n.path := ⟨_, rfl⟩
  have HLE1 := Lib.hid hL
  have HN1 := Lib.hid (show L1.length ≤ 4398047559684 by
    rw [hL, List.length_append]
    have h8 : (txtB h.n.path).length ≤ 1048580 := pathB_len HZ.out HZ'.out
    have := HN0.out; omega)
  have HW1 := Lib.hid (show WrB W1 wb base L1 by rw [hL]; exact hw)
  have HK1 := Lib.hid (HK0.out.trans hk)
  have HX1 := Lib.hid (HX0.out.kw hk HW0.out.size)
  have HG1 := Lib.hid (hk.heap HG0.out (by decide) HLT.out)
  clear hw hk hL y0 x0
  have y1 : W1.cell? ⟨w.heap.size, 5, none⟩ = some (.int .i32 h.n.ve) := by rw [cellH HG1.out]; rfl
  go_wp2_with fail
  refine (wInt_any wb base L1 h.n.ve W1 HW1.out (Nat.le_trans HN1.out (by decide))).mono ?_
  rintro e W2 ⟨rfl, hw, hk⟩
  obtain ⟨L2, hL⟩ : ∃ L2, L2 = L1 ++ beB (m32 h.n.ve) 4 := ⟨_, rfl⟩
  have HLE2 := Lib.hid hL
  have HN2 := Lib.hid (show L2.length ≤ 4398047559688 by
    rw [hL, List.length_append]
    have h8 : (beB (m32 h.n.ve) 4).length ≤ 4 := (by rw [beB_len]; decide)
    have := HN1.out; omega)
  have HW2 := Lib.hid (show WrB W2 wb base L2 by rw [hL]; exact hw)
  have HK2 := Lib.hid (HK1.out.trans hk)
  have HX2 := Lib.hid (HX1.out.kw hk HW1.out.size)
  have HG2 := Lib.hid (hk.heap HG1.out (by decide) HLT.out)
  clear hw hk hL y1
  go_wp2_with fail
  refine bodyPost_ret (results_none rfl _ _ _) rfl ?_
  have hf : L2 = l ++ leafB v := by rw [HV.out, HLE2.out, HLE1.out]; (try simp [List.append_assoc])
  exact ⟨rfl, hf ▸ HW2.out, HK2.out⟩
set_option linter.unusedSimpArgs false in
set_option maxRecDepth 100000 in
set_option maxHeartbeats 4000000 in
theorem put120_any (wb base : Nat) (l : Bs) (h : TxH) (v : TxF) (w : World) (H : WrB w wb base l) (hx : locTx w (PutR wb base) h v) (hz : LfSm v) (hl : l.length ≤ 4398046511104) (hty : h.n.ty = 120) :
    Calls Tryz.prog 39 #[.pointer (some ⟨wb, 0, none⟩), txV h] w (WrPost (l ++ leafB v) wb base w) := by
  have hb1 : Below w.heap.size w (w.alloc (.cells #[.int .i32 h.n.ty, .string h.n.path, slV h.d, slV h.a, .int .i64 h.n.ow, .int .i32 h.n.ve, .int .i32 h.n.cr, .bool h.n.qh, .int .i64 h.n.qc, .int .i64 h.n.qb, .int .i64 h.n.si, .int .i32 h.n.st, slV h.i, slV h.p, .int .i32 h.n.co, slV h.s] 33)) := (Below.refl _ w).alloc (Nat.le_refl _) _
  have hk1 : Kw wb base w (w.alloc (.cells #[.int .i32 h.n.ty, .string h.n.path, slV h.d, slV h.a, .int .i64 h.n.ow, .int .i32 h.n.ve, .int .i32 h.n.cr, .bool h.n.qh, .int .i64 h.n.qc, .int .i64 h.n.qb, .int .i64 h.n.si, .int .i32 h.n.st, slV h.i, slV h.p, .int .i32 h.n.co, slV h.s] 33)) := Kw.of_below hb1
  have hlt : w.heap.size ≠ wb := by have := H.lt; have := H.size; omega
  have HV := Lib.hid (show leafB v = txtB h.n.path ++ (beB (m64 h.n.qc) 8 ++ (beB (m64 h.n.qb) 8)) by
    have e := hx.1
    unfold leafB
    rw [e, hty]
    (try simp [List.append_assoc]))
  have HZ := Lib.hid hz; have HLT := Lib.hid hlt
  have HZ' := Lib.hid (show v.n = h.n from hx.1)
  have HW0 := Lib.hid (H.below hb1); have HK0 := Lib.hid hk1; have HX0 := Lib.hid (hx.kw hk1 H.size)
  have HG0 := Lib.hid (heap_alloc_new w (.cells #[.int .i32 h.n.ty, .string h.n.path, slV h.d, slV h.a, .int .i64 h.n.ow, .int .i32 h.n.ve, .int .i32 h.n.cr, .bool h.n.qh, .int .i64 h.n.qc, .int .i64 h.n.qb, .int .i64 h.n.si, .int .i32 h.n.st, slV h.i, slV h.p, .int .i32 h.n.co, slV h.s] 33))
  have HN0 := Lib.hid hl
  have t1 : (h.n.ty == 1) = false := by rw [hty]; rfl
  have t2 : (h.n.ty == 2) = false := by rw [hty]; rfl
  have t121 : (h.n.ty == 121) = false := by rw [hty]; rfl
  have t5 : (h.n.ty == 5) = false := by rw [hty]; rfl
  have t7 : (h.n.ty == 7) = false := by rw [hty]; rfl
  have t13 : (h.n.ty == 13) = false := by rw [hty]; rfl
  have t120 : (h.n.ty == 120) = true := by rw [hty]; rfl
  have t14 : (h.n.ty == 14) = false := by rw [hty]; rfl
  have tm10 : (h.n.ty == -10) = false := by rw [hty]; rfl
  have tm11 : (h.n.ty == -11) = false := by rw [hty]; rfl
  have tm1 : (h.n.ty == -1) = false := by rw [hty]; rfl
  clear H hx hz hl hb1 hk1 hty hlt
  go_enter Tryz.func39, Tryz.ntmps39
  go_upto_region 1 with fail
  generalize w.alloc (.cells #[.int .i32 h.n.ty, .string h.n.path, slV h.d, slV h.a, .int .i64 h.n.ow, .int .i32 h.n.ve, .int .i32 h.n.cr, .bool h.n.qh, .int .i64 h.n.qc, .int .i64 h.n.qb, .int .i64 h.n.si, .int .i32 h.n.st, slV h.i, slV h.p, .int .i32 h.n.co, slV h.s] 33) = W0 at *
  have x0 : W0.cell? ⟨w.heap.size, 0, none⟩ = some (.int .i32 h.n.ty) := by rw [cellH HG0.out]; rfl
  have y0 : W0.cell? ⟨w.heap.size, 1, none⟩ = some (.string h.n.path) := by rw [cellH HG0.out]; rfl
  go_wp2_with fail
  refine (wText_any wb base l h.n.path W0 HW0.out (Nat.le_trans HN0.out (by decide)) (Nat.le_trans (show h.n.path.size ≤ 1048576 by rw [← HZ'.out]; exact HZ.out.path) (by decide))).mono ?_
  rintro e W1 ⟨rfl, hw, hk⟩
  obtain ⟨L1, hL⟩ : ∃ L1, L1 = l ++ txtB h.n.path := ⟨_, rfl⟩
  have HLE1 := Lib.hid hL
  have HN1 := Lib.hid (show L1.length ≤ 4398047559684 by
    rw [hL, List.length_append]
    have h8 : (txtB h.n.path).length ≤ 1048580 := pathB_len HZ.out HZ'.out
    have := HN0.out; omega)
  have HW1 := Lib.hid (show WrB W1 wb base L1 by rw [hL]; exact hw)
  have HK1 := Lib.hid (HK0.out.trans hk)
  have HX1 := Lib.hid (HX0.out.kw hk HW0.out.size)
  have HG1 := Lib.hid (hk.heap HG0.out (by decide) HLT.out)
  clear hw hk hL y0 x0
  have y1 : W1.cell? ⟨w.heap.size, 8, none⟩ = some (.int .i64 h.n.qc) := by rw [cellH HG1.out]; rfl
  go_wp2_with fail
  refine (wLong_any wb base L1 h.n.qc W1 HW1.out (Nat.le_trans HN1.out (by decide))).mono ?_
  rintro e W2 ⟨rfl, hw, hk⟩
  obtain ⟨L2, hL⟩ : ∃ L2, L2 = L1 ++ beB (m64 h.n.qc) 8 := ⟨_, rfl⟩
  have HLE2 := Lib.hid hL
  have HN2 := Lib.hid (show L2.length ≤ 4398047559692 by
    rw [hL, List.length_append]
    have h8 : (beB (m64 h.n.qc) 8).length ≤ 8 := (by rw [beB_len]; exact Nat.le_refl _)
    have := HN1.out; omega)
  have HW2 := Lib.hid (show WrB W2 wb base L2 by rw [hL]; exact hw)
  have HK2 := Lib.hid (HK1.out.trans hk)
  have HX2 := Lib.hid (HX1.out.kw hk HW1.out.size)
  have HG2 := Lib.hid (hk.heap HG1.out (by decide) HLT.out)
  clear hw hk hL y1
  have y2 : W2.cell? ⟨w.heap.size, 9, none⟩ = some (.int .i64 h.n.qb) := by rw [cellH HG2.out]; rfl
  go_wp2_with fail
  refine (wLong_any wb base L2 h.n.qb W2 HW2.out (Nat.le_trans HN2.out (by decide))).mono ?_
  rintro e W3 ⟨rfl, hw, hk⟩
  obtain ⟨L3, hL⟩ : ∃ L3, L3 = L2 ++ beB (m64 h.n.qb) 8 := ⟨_, rfl⟩
  have HLE3 := Lib.hid hL
  have HN3 := Lib.hid (show L3.length ≤ 4398047559700 by
    rw [hL, List.length_append]
    have h8 : (beB (m64 h.n.qb) 8).length ≤ 8 := (by rw [beB_len]; exact Nat.le_refl _)
    have := HN2.out; omega)
  have HW3 := Lib.hid (show WrB W3 wb base L3 by rw [hL]; exact hw)
  have HK3 := Lib.hid (HK2.out.trans hk)
  have HX3 := Lib.hid (HX2.out.kw hk HW2.out.size)
  have HG3 := Lib.hid (hk.heap HG2.out (by decide) HLT.out)
  clear hw hk hL y2
  go_wp2_with fail
  refine bodyPost_ret (results_none rfl _ _ _) rfl ?_
  have hf : L3 = l ++ leafB v := by rw [HV.out, HLE3.out, HLE2.out, HLE1.out]; (try simp [List.append_assoc])
  exact ⟨rfl, hf ▸ HW3.out, HK3.out⟩
set_option linter.unusedSimpArgs false in
set_option maxRecDepth 100000 in
set_option maxHeartbeats 4000000 in
theorem putM10_any (wb base : Nat) (l : Bs) (h : TxH) (v : TxF) (w : World) (H : WrB w wb base l) (hx : locTx w (PutR wb base) h v) (hz : LfSm v) (hl : l.length ≤ 4398046511104) (hty : h.n.ty = -10) :
    Calls Tryz.prog 39 #[.pointer (some ⟨wb, 0, none⟩), txV h] w (WrPost (l ++ leafB v) wb base w) := by
  have hb1 : Below w.heap.size w (w.alloc (.cells #[.int .i32 h.n.ty, .string h.n.path, slV h.d, slV h.a, .int .i64 h.n.ow, .int .i32 h.n.ve, .int .i32 h.n.cr, .bool h.n.qh, .int .i64 h.n.qc, .int .i64 h.n.qb, .int .i64 h.n.si, .int .i32 h.n.st, slV h.i, slV h.p, .int .i32 h.n.co, slV h.s] 33)) := (Below.refl _ w).alloc (Nat.le_refl _) _
  have hk1 : Kw wb base w (w.alloc (.cells #[.int .i32 h.n.ty, .string h.n.path, slV h.d, slV h.a, .int .i64 h.n.ow, .int .i32 h.n.ve, .int .i32 h.n.cr, .bool h.n.qh, .int .i64 h.n.qc, .int .i64 h.n.qb, .int .i64 h.n.si, .int .i32 h.n.st, slV h.i, slV h.p, .int .i32 h.n.co, slV h.s] 33)) := Kw.of_below hb1
  have hlt : w.heap.size ≠ wb := by have := H.lt; have := H.size; omega
  have HV := Lib.hid (show leafB v = beB (m32 h.n.st) 4 ++ (idsB v.ids) by
    have e := hx.1
    unfold leafB
    rw [e, hty]
    (try simp [List.append_assoc]))
  have HZ := Lib.hid hz; have HLT := Lib.hid hlt
  have HZ' := Lib.hid (show v.n = h.n from hx.1)
  have HW0 := Lib.hid (H.below hb1); have HK0 := Lib.hid hk1; have HX0 := Lib.hid (hx.kw hk1 H.size)
  have HG0 := Lib.hid (heap_alloc_new w (.cells #[.int .i32 h.n.ty, .string h.n.path, slV h.d, slV h.a, .int .i64 h.n.ow, .int .i32 h.n.ve, .int .i32 h.n.cr, .bool h.n.qh, .int .i64 h.n.qc, .int .i64 h.n.qb, .int .i64 h.n.si, .int .i32 h.n.st, slV h.i, slV h.p, .int .i32 h.n.co, slV h.s] 33))
  have HN0 := Lib.hid hl
  have t1 : (h.n.ty == 1) = false := by rw [hty]; rfl
  have t2 : (h.n.ty == 2) = false := by rw [hty]; rfl
  have t121 : (h.n.ty == 121) = false := by rw [hty]; rfl
  have t5 : (h.n.ty == 5) = false := by rw [hty]; rfl
  have t7 : (h.n.ty == 7) = false := by rw [hty]; rfl
  have t13 : (h.n.ty == 13) = false := by rw [hty]; rfl
  have t120 : (h.n.ty == 120) = false := by rw [hty]; rfl
  have t14 : (h.n.ty == 14) = false := by rw [hty]; rfl
  have tm10 : (h.n.ty == -10) = true := by rw [hty]; rfl
  have tm11 : (h.n.ty == -11) = false := by rw [hty]; rfl
  have tm1 : (h.n.ty == -1) = false := by rw [hty]; rfl
  clear H hx hz hl hb1 hk1 hty hlt
  go_enter Tryz.func39, Tryz.ntmps39
  go_upto_region 1 with fail
  generalize w.alloc (.cells #[.int .i32 h.n.ty, .string h.n.path, slV h.d, slV h.a, .int .i64 h.n.ow, .int .i32 h.n.ve, .int .i32 h.n.cr, .bool h.n.qh, .int .i64 h.n.qc, .int .i64 h.n.qb, .int .i64 h.n.si, .int .i32 h.n.st, slV h.i, slV h.p, .int .i32 h.n.co, slV h.s] 33) = W0 at *
  have x0 : W0.cell? ⟨w.heap.size, 0, none⟩ = some (.int .i32 h.n.ty) := by rw [cellH HG0.out]; rfl
  have y0 : W0.cell? ⟨w.heap.size, 11, none⟩ = some (.int .i32 h.n.st) := by rw [cellH HG0.out]; rfl
  go_wp2_with fail
  refine (wInt_any wb base l h.n.st W0 HW0.out (Nat.le_trans HN0.out (by decide))).mono ?_
  rintro e W1 ⟨rfl, hw, hk⟩
  obtain ⟨L1, hL⟩ : ∃ L1, L1 = l ++ beB (m32 h.n.st) 4 := ⟨_, rfl⟩
  have HLE1 := Lib.hid hL
  have HN1 := Lib.hid (show L1.length ≤ 4398046511108 by
    rw [hL, List.length_append]
    have h8 : (beB (m32 h.n.st) 4).length ≤ 4 := (by rw [beB_len]; decide)
    have := HN0.out; omega)
  have HW1 := Lib.hid (show WrB W1 wb base L1 by rw [hL]; exact hw)
  have HK1 := Lib.hid (HK0.out.trans hk)
  have HX1 := Lib.hid (HX0.out.kw hk HW0.out.size)
  have HG1 := Lib.hid (hk.heap HG0.out (by decide) HLT.out)
  clear hw hk hL y0 x0
  have y1 : W1.cell? ⟨w.heap.size, 12, none⟩ = some (.slice h.i.1 h.i.2.1 h.i.2.2) := by rw [cellH HG1.out]; rfl
  go_wp2_with fail
  refine (idsC_any ⟨HW1.out, HX1.out, HZ.out, Nat.le_trans HN1.out (by decide)⟩).mono ?_
  rintro e W2 ⟨rfl, hw, hk⟩
  obtain ⟨L2, hL⟩ : ∃ L2, L2 = L1 ++ idsB v.ids := ⟨_, rfl⟩
  have HLE2 := Lib.hid hL
  have HN2 := Lib.hid (show L2.length ≤ 6597078155272 by
    rw [hL, List.length_append]
    have h8 : (idsB v.ids).length ≤ 2199031644164 := idsB_len HZ.out
    have := HN1.out; omega)
  have HW2 := Lib.hid (show WrB W2 wb base L2 by rw [hL]; exact hw)
  have HK2 := Lib.hid (HK1.out.trans hk)
  have HX2 := Lib.hid (HX1.out.kw hk HW1.out.size)
  have HG2 := Lib.hid (hk.heap HG1.out (by decide) HLT.out)
  clear hw hk hL y1
  go_wp2_with fail
  refine bodyPost_ret (results_none rfl _ _ _) rfl ?_
  have hf : L2 = l ++ leafB v := by rw [HV.out, HLE2.out, HLE1.out]; (try simp [List.append_assoc])
  exact ⟨rfl, hf ▸ HW2.out, HK2.out⟩
set_option linter.unusedSimpArgs false in
set_option maxRecDepth 100000 in
set_option maxHeartbeats 4000000 in
theorem putM11_any (wb base : Nat) (l : Bs) (h : TxH) (v : TxF) (w : World) (H : WrB w wb base l) (hx : locTx w (PutR wb base) h v) (hz : LfSm v) (hl : l.length ≤ 4398046511104) (hty : h.n.ty = -11) :
    Calls Tryz.prog 39 #[.pointer (some ⟨wb, 0, none⟩), txV h] w (WrPost (l ++ leafB v) wb base w) := by
  have hb1 : Below w.heap.size w (w.alloc (.cells #[.int .i32 h.n.ty, .string h.n.path, slV h.d, slV h.a, .int .i64 h.n.ow, .int .i32 h.n.ve, .int .i32 h.n.cr, .bool h.n.qh, .int .i64 h.n.qc, .int .i64 h.n.qb, .int .i64 h.n.si, .int .i32 h.n.st, slV h.i, slV h.p, .int .i32 h.n.co, slV h.s] 33)) := (Below.refl _ w).alloc (Nat.le_refl _) _
  have hk1 : Kw wb base w (w.alloc (.cells #[.int .i32 h.n.ty, .string h.n.path, slV h.d, slV h.a, .int .i64 h.n.ow, .int .i32 h.n.ve, .int .i32 h.n.cr, .bool h.n.qh, .int .i64 h.n.qc, .int .i64 h.n.qb, .int .i64 h.n.si, .int .i32 h.n.st, slV h.i, slV h.p, .int .i32 h.n.co, slV h.s] 33)) := Kw.of_below hb1
  have hlt : w.heap.size ≠ wb := by have := H.lt; have := H.size; omega
  have HV := Lib.hid (show leafB v = txtsB v.paths by
    have e := hx.1
    unfold leafB
    rw [e, hty]
    (try simp [List.append_assoc]))
  have HZ := Lib.hid hz; have HLT := Lib.hid hlt
  have HZ' := Lib.hid (show v.n = h.n from hx.1)
  have HW0 := Lib.hid (H.below hb1); have HK0 := Lib.hid hk1; have HX0 := Lib.hid (hx.kw hk1 H.size)
  have HG0 := Lib.hid (heap_alloc_new w (.cells #[.int .i32 h.n.ty, .string h.n.path, slV h.d, slV h.a, .int .i64 h.n.ow, .int .i32 h.n.ve, .int .i32 h.n.cr, .bool h.n.qh, .int .i64 h.n.qc, .int .i64 h.n.qb, .int .i64 h.n.si, .int .i32 h.n.st, slV h.i, slV h.p, .int .i32 h.n.co, slV h.s] 33))
  have HN0 := Lib.hid hl
  have t1 : (h.n.ty == 1) = false := by rw [hty]; rfl
  have t2 : (h.n.ty == 2) = false := by rw [hty]; rfl
  have t121 : (h.n.ty == 121) = false := by rw [hty]; rfl
  have t5 : (h.n.ty == 5) = false := by rw [hty]; rfl
  have t7 : (h.n.ty == 7) = false := by rw [hty]; rfl
  have t13 : (h.n.ty == 13) = false := by rw [hty]; rfl
  have t120 : (h.n.ty == 120) = false := by rw [hty]; rfl
  have t14 : (h.n.ty == 14) = false := by rw [hty]; rfl
  have tm10 : (h.n.ty == -10) = false := by rw [hty]; rfl
  have tm11 : (h.n.ty == -11) = true := by rw [hty]; rfl
  have tm1 : (h.n.ty == -1) = false := by rw [hty]; rfl
  clear H hx hz hl hb1 hk1 hty hlt
  go_enter Tryz.func39, Tryz.ntmps39
  go_upto_region 1 with fail
  generalize w.alloc (.cells #[.int .i32 h.n.ty, .string h.n.path, slV h.d, slV h.a, .int .i64 h.n.ow, .int .i32 h.n.ve, .int .i32 h.n.cr, .bool h.n.qh, .int .i64 h.n.qc, .int .i64 h.n.qb, .int .i64 h.n.si, .int .i32 h.n.st, slV h.i, slV h.p, .int .i32 h.n.co, slV h.s] 33) = W0 at *
  have x0 : W0.cell? ⟨w.heap.size, 0, none⟩ = some (.int .i32 h.n.ty) := by rw [cellH HG0.out]; rfl
  have y0 : W0.cell? ⟨w.heap.size, 13, none⟩ = some (.slice h.p.1 h.p.2.1 h.p.2.2) := by rw [cellH HG0.out]; rfl
  go_wp2_with fail
  refine (ptsC_any ⟨HW0.out, HX0.out, HZ.out, Nat.le_trans HN0.out (by decide)⟩).mono ?_
  rintro e W1 ⟨rfl, hw, hk⟩
  obtain ⟨L1, hL⟩ : ∃ L1, L1 = l ++ txtsB v.paths := ⟨_, rfl⟩
  have HLE1 := Lib.hid hL
  have HN1 := Lib.hid (show L1.length ≤ 4399120257028 by
    rw [hL, List.length_append]
    have h8 : (txtsB v.paths).length ≤ 1073745924 := txtsB_len HZ.out
    have := HN0.out; omega)
  have HW1 := Lib.hid (show WrB W1 wb base L1 by rw [hL]; exact hw)
  have HK1 := Lib.hid (HK0.out.trans hk)
  have HX1 := Lib.hid (HX0.out.kw hk HW0.out.size)
  have HG1 := Lib.hid (hk.heap HG0.out (by decide) HLT.out)
  clear hw hk hL y0 x0
  go_wp2_with fail
  refine bodyPost_ret (results_none rfl _ _ _) rfl ?_
  have hf : L1 = l ++ leafB v := by rw [HV.out, HLE1.out]; (try simp [List.append_assoc])
  exact ⟨rfl, hf ▸ HW1.out, HK1.out⟩
set_option linter.unusedSimpArgs false in
set_option maxRecDepth 100000 in
set_option maxHeartbeats 4000000 in
theorem putM1_any (wb base : Nat) (l : Bs) (h : TxH) (v : TxF) (w : World) (H : WrB w wb base l) (hx : locTx w (PutR wb base) h v) (hz : LfSm v) (hl : l.length ≤ 4398046511104) (hty : h.n.ty = -1) :
    Calls Tryz.prog 39 #[.pointer (some ⟨wb, 0, none⟩), txV h] w (WrPost (l ++ leafB v) wb base w) := by
  have hb1 : Below w.heap.size w (w.alloc (.cells #[.int .i32 h.n.ty, .string h.n.path, slV h.d, slV h.a, .int .i64 h.n.ow, .int .i32 h.n.ve, .int .i32 h.n.cr, .bool h.n.qh, .int .i64 h.n.qc, .int .i64 h.n.qb, .int .i64 h.n.si, .int .i32 h.n.st, slV h.i, slV h.p, .int .i32 h.n.co, slV h.s] 33)) := (Below.refl _ w).alloc (Nat.le_refl _) _
  have hk1 : Kw wb base w (w.alloc (.cells #[.int .i32 h.n.ty, .string h.n.path, slV h.d, slV h.a, .int .i64 h.n.ow, .int .i32 h.n.ve, .int .i32 h.n.cr, .bool h.n.qh, .int .i64 h.n.qc, .int .i64 h.n.qb, .int .i64 h.n.si, .int .i32 h.n.st, slV h.i, slV h.p, .int .i32 h.n.co, slV h.s] 33)) := Kw.of_below hb1
  have hlt : w.heap.size ≠ wb := by have := H.lt; have := H.size; omega
  have HV := Lib.hid (show leafB v = beB (m32 h.n.co) 4 by
    have e := hx.1
    unfold leafB
    rw [e, hty]
    (try simp [List.append_assoc]))
  have HZ := Lib.hid hz; have HLT := Lib.hid hlt
  have HZ' := Lib.hid (show v.n = h.n from hx.1)
  have HW0 := Lib.hid (H.below hb1); have HK0 := Lib.hid hk1; have HX0 := Lib.hid (hx.kw hk1 H.size)
  have HG0 := Lib.hid (heap_alloc_new w (.cells #[.int .i32 h.n.ty, .string h.n.path, slV h.d, slV h.a, .int .i64 h.n.ow, .int .i32 h.n.ve, .int .i32 h.n.cr, .bool h.n.qh, .int .i64 h.n.qc, .int .i64 h.n.qb, .int .i64 h.n.si, .int .i32 h.n.st, slV h.i, slV h.p, .int .i32 h.n.co, slV h.s] 33))
  have HN0 := Lib.hid hl
  have t1 : (h.n.ty == 1) = false := by rw [hty]; rfl
  have t2 : (h.n.ty == 2) = false := by rw [hty]; rfl
  have t121 : (h.n.ty == 121) = false := by rw [hty]; rfl
  have t5 : (h.n.ty == 5) = false := by rw [hty]; rfl
  have t7 : (h.n.ty == 7) = false := by rw [hty]; rfl
  have t13 : (h.n.ty == 13) = false := by rw [hty]; rfl
  have t120 : (h.n.ty == 120) = false := by rw [hty]; rfl
  have t14 : (h.n.ty == 14) = false := by rw [hty]; rfl
  have tm10 : (h.n.ty == -10) = false := by rw [hty]; rfl
  have tm11 : (h.n.ty == -11) = false := by rw [hty]; rfl
  have tm1 : (h.n.ty == -1) = true := by rw [hty]; rfl
  clear H hx hz hl hb1 hk1 hty hlt
  go_enter Tryz.func39, Tryz.ntmps39
  go_upto_region 1 with fail
  generalize w.alloc (.cells #[.int .i32 h.n.ty, .string h.n.path, slV h.d, slV h.a, .int .i64 h.n.ow, .int .i32 h.n.ve, .int .i32 h.n.cr, .bool h.n.qh, .int .i64 h.n.qc, .int .i64 h.n.qb, .int .i64 h.n.si, .int .i32 h.n.st, slV h.i, slV h.p, .int .i32 h.n.co, slV h.s] 33) = W0 at *
  have x0 : W0.cell? ⟨w.heap.size, 0, none⟩ = some (.int .i32 h.n.ty) := by rw [cellH HG0.out]; rfl
  have y0 : W0.cell? ⟨w.heap.size, 14, none⟩ = some (.int .i32 h.n.co) := by rw [cellH HG0.out]; rfl
  go_wp2_with fail
  refine (wInt_any wb base l h.n.co W0 HW0.out (Nat.le_trans HN0.out (by decide))).mono ?_
  rintro e W1 ⟨rfl, hw, hk⟩
  obtain ⟨L1, hL⟩ : ∃ L1, L1 = l ++ beB (m32 h.n.co) 4 := ⟨_, rfl⟩
  have HLE1 := Lib.hid hL
  have HN1 := Lib.hid (show L1.length ≤ 4398046511108 by
    rw [hL, List.length_append]
    have h8 : (beB (m32 h.n.co) 4).length ≤ 4 := (by rw [beB_len]; decide)
    have := HN0.out; omega)
  have HW1 := Lib.hid (show WrB W1 wb base L1 by rw [hL]; exact hw)
  have HK1 := Lib.hid (HK0.out.trans hk)
  have HX1 := Lib.hid (HX0.out.kw hk HW0.out.size)
  have HG1 := Lib.hid (hk.heap HG0.out (by decide) HLT.out)
  clear hw hk hL y0 x0
  go_wp2_with fail
  refine bodyPost_ret (results_none rfl _ _ _) rfl ?_
  have hf : L1 = l ++ leafB v := by rw [HV.out, HLE1.out]; (try simp [List.append_assoc])
  exact ⟨rfl, hf ▸ HW1.out, HK1.out⟩
end Go.Proofs.YthpjneobmmpbnaaGreatDoor
namespace Go.Proofs.YthpjneobmmpbnaaGreatDoor
open Go.RowKit Go.MapKept Go.Maps
section
variable {w w' : World} {t e : TypeId} {b : Nat} {l : List (Int × Value)}
end
end Go.Proofs.YthpjneobmmpbnaaGreatDoor
namespace Go.Proofs.YthpjneobmmpbnaaGreatDoor
open Go.RowKit Go.MapKept Go.Maps
theorem take_snoc {α : Type} [Inhabited α] (l : List α) (k : Nat) (h : k < l.length) : l.take (k + 1) = l.take k ++ [l[k]!] := by
  rw [List.take_succ_eq_append_getElem h, getElem!_pos l k h]
end Go.Proofs.YthpjneobmmpbnaaGreatDoor
