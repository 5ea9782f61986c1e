/- The document's comparison of any two transactions: true only of the same. Condition: lists of at most 2^20. -/
import Derived.Test.YthpjneobmmpbnaaGreatDoorGRfD
namespace Go.Proofs.YthpjneobmmpbnaaGreatDoor
open Go.RowKit Go.MapKept Go.Maps
theorem toList_inj {s t : ByteArray} (h : s.toList = t.toList) : s = t := by
  have := beq_dec s t
  rw [h] at this
  simpa using this
theorem str_ne {s t : ByteArray} (h : ¬ s = t) : (s.toList == t.toList) = false := by rw [beq_dec, decide_eq_false h]
theorem str_eq {s t : ByteArray} (h : s = t) : (s.toList == t.toList) = true := by rw [beq_dec, decide_eq_true h]
theorem neId (s t s' t' : ByteArray) (W : World) : (binOp .neq 108 (.agg #[.string s, .string t]) (.agg #[.string s', .string t'])).run Tryz.prog W = .ok (.bool (!decide ((s, t) = (s', t')))) W := by
  go_simp
  by_cases h1 : s = s'
  · subst h1
    by_cases h2 : t = t'
    · subst h2; simp
    · have h3 : ¬ t.toList = t'.toList := fun e => h2 (toList_inj e)
      simp [h2, h3]
  · have h3 : ¬ s.toList = s'.toList := fun e => h1 (toList_inj e)
    simp [h1, h3]
theorem neQuota (a a' : Bool) (b c b' c' : Int) (W : World) : (binOp .neq 25 (.agg #[.bool a, .int .i64 b, .int .i64 c]) (.agg #[.bool a', .int .i64 b', .int .i64 c'])).run Tryz.prog W = .ok (.bool (!decide ((a, b, c) = (a', b', c')))) W := by
  go_simp
  by_cases h1 : a = a' <;> by_cases h2 : b = b' <;> by_cases h3 : c = c' <;> simp [h1, h2, h3]
/-- are two trees the same? -/
noncomputable def sameT (t t' : TxT) : Bool := @decide (t = t') (Classical.propDecidable _)
theorem sameT_eq {t t' : TxT} (h : t = t') : sameT t t' = true := by unfold sameT; simp [h]
theorem sameT_ne {t t' : TxT} (h : t ≠ t') : sameT t t' = false := by unfold sameT; simp [h]
/-- lists of one length that are the same at each place -/
theorem list_same {α : Type} [Inhabited α] {a b : List α} (hl : a.length = b.length) (h : ∀ i, i < a.length → a[i]! = b[i]!) : a = b := by
  apply List.ext_getElem hl
  intro i h1 h2
  have := h i h1
  rwa [getElem!_pos a i h1, getElem!_pos b i h2] at this
set_option linter.unusedSimpArgs false in
set_option maxRecDepth 100000 in
set_option maxHeartbeats 20000000 in
theorem sameTxG : ∀ (t t' : TxT) (ha hb : TxH) (w : World) (Ra Rb : Nat → Prop), TxAt w Ra ha t → TxAt w Rb hb t' → TxOk 1048576 t → TxOk 1048576 t' → Calls Tryz.prog 49 #[txV ha, txV hb] w (RetB w (sameT t t')) := by
  refine Tr.ind ?_
  intro v subs ih t' ha hb w Ra Rb ta tb hok hok'
  obtain ⟨u, subs'⟩ := t'
  have hla := ta.loc; have hlb := tb.loc
  obtain ⟨La, hLa, hsa⟩ := ta.subs_at
  obtain ⟨Lb, hLb, hsb⟩ := tb.subs_at
  have hlena := ta.len; have hlenb := tb.len
  have hsm := hok.top; have hsm' := hok'.top
  have hb0 : Below w.heap.size w ((w.alloc (.cells #[.int .i32 ha.n.ty, .string ha.n.path, slV ha.d, slV ha.a, .int .i64 ha.n.ow, .int .i32 ha.n.ve, .int .i32 ha.n.cr, .bool ha.n.qh, .int .i64 ha.n.qc, .int .i64 ha.n.qb, .int .i64 ha.n.si, .int .i32 ha.n.st, slV ha.i, slV ha.p, .int .i32 ha.n.co, slV ha.s] 33)).alloc (.cells #[.int .i32 hb.n.ty, .string hb.n.path, slV hb.d, slV hb.a, .int .i64 hb.n.ow, .int .i32 hb.n.ve, .int .i32 hb.n.cr, .bool hb.n.qh, .int .i64 hb.n.qc, .int .i64 hb.n.qb, .int .i64 hb.n.si, .int .i32 hb.n.st, slV hb.i, slV hb.p, .int .i32 hb.n.co, slV hb.s] 33)) := ((Below.refl _ w).alloc (Nat.le_refl _) _).alloc (by simp) _
  have HGA := Lib.hid (heap_under (heap_s0 w (.cells #[.int .i32 ha.n.ty, .string ha.n.path, slV ha.d, slV ha.a, .int .i64 ha.n.ow, .int .i32 ha.n.ve, .int .i32 ha.n.cr, .bool ha.n.qh, .int .i64 ha.n.qc, .int .i64 ha.n.qb, .int .i64 ha.n.si, .int .i32 ha.n.st, slV ha.i, slV ha.p, .int .i32 ha.n.co, slV ha.s] 33)) : ((w.alloc (.cells #[.int .i32 ha.n.ty, .string ha.n.path, slV ha.d, slV ha.a, .int .i64 ha.n.ow, .int .i32 ha.n.ve, .int .i32 ha.n.cr, .bool ha.n.qh, .int .i64 ha.n.qc, .int .i64 ha.n.qb, .int .i64 ha.n.si, .int .i32 ha.n.st, slV ha.i, slV ha.p, .int .i32 ha.n.co, slV ha.s] 33)).alloc (.cells #[.int .i32 hb.n.ty, .string hb.n.path, slV hb.d, slV hb.a, .int .i64 hb.n.ow, .int .i32 hb.n.ve, .int .i32 hb.n.cr, .bool hb.n.qh, .int .i64 hb.n.qc, .int .i64 hb.n.qb, .int .i64 hb.n.si, .int .i32 hb.n.st, slV hb.i, slV hb.p, .int .i32 hb.n.co, slV hb.s] 33)).heap[w.heap.size]? = _)
  have HGB := Lib.hid (heap_s1 w (.cells #[.int .i32 ha.n.ty, .string ha.n.path, slV ha.d, slV ha.a, .int .i64 ha.n.ow, .int .i32 ha.n.ve, .int .i32 ha.n.cr, .bool ha.n.qh, .int .i64 ha.n.qc, .int .i64 ha.n.qb, .int .i64 ha.n.si, .int .i32 ha.n.st, slV ha.i, slV ha.p, .int .i32 ha.n.co, slV ha.s] 33) (.cells #[.int .i32 hb.n.ty, .string hb.n.path, slV hb.d, slV hb.a, .int .i64 hb.n.ow, .int .i32 hb.n.ve, .int .i32 hb.n.cr, .bool hb.n.qh, .int .i64 hb.n.qc, .int .i64 hb.n.qb, .int .i64 hb.n.si, .int .i32 hb.n.st, slV hb.i, slV hb.p, .int .i32 hb.n.co, slV hb.s] 33))
  have HSZ := Lib.hid (show w.heap.size + 2 ≤ ((w.alloc (.cells #[.int .i32 ha.n.ty, .string ha.n.path, slV ha.d, slV ha.a, .int .i64 ha.n.ow, .int .i32 ha.n.ve, .int .i32 ha.n.cr, .bool ha.n.qh, .int .i64 ha.n.qc, .int .i64 ha.n.qb, .int .i64 ha.n.si, .int .i32 ha.n.st, slV ha.i, slV ha.p, .int .i32 ha.n.co, slV ha.s] 33)).alloc (.cells #[.int .i32 hb.n.ty, .string hb.n.path, slV hb.d, slV hb.a, .int .i64 hb.n.ow, .int .i32 hb.n.ve, .int .i32 hb.n.cr, .bool hb.n.qh, .int .i64 hb.n.qc, .int .i64 hb.n.qb, .int .i64 hb.n.si, .int .i32 hb.n.st, slV hb.i, slV hb.p, .int .i32 hb.n.co, slV hb.s] 33)).heap.size from by simp)
  have HB := Lib.hid hb0
  have HNA := Lib.hid (show v.n = ha.n from hla.1); have HNB := Lib.hid (show u.n = hb.n from hlb.1)
  have HLi := Lib.hid (show v.ids.length = ha.i.2.1 ∧ u.ids.length = hb.i.2.1 from ⟨hla.2.2.2.1.len, hlb.2.2.2.1.len⟩)
  have HAi := Lib.hid (show Sl _ _ encId 2 ha.i.1 ha.i.2.1 v.ids from (hla.2.2.2.1.sl (fun _ => by simp [encId])).belowMore hb0 hb0.size)
  have HBi := Lib.hid (show Sl _ _ encId 2 hb.i.1 hb.i.2.1 u.ids from (hlb.2.2.2.1.sl (fun _ => by simp [encId])).belowMore hb0 hb0.size)
  have HMi := Lib.hid (show ha.i.2.1 ≤ 1048576 by have h1 := hsm.2.2.2.2.1; have h2 := hla.2.2.2.1.1; simp only [Tr.v, Tr.subs] at *; omega)
  have HLp := Lib.hid (show v.paths.length = ha.p.2.1 ∧ u.paths.length = hb.p.2.1 from ⟨hla.2.2.2.2.len, hlb.2.2.2.2.len⟩)
  have HAp := Lib.hid (show Sl _ _ encStr 1 ha.p.1 ha.p.2.1 v.paths from (hla.2.2.2.2.sl (fun _ => by simp [encStr])).belowMore hb0 hb0.size)
  have HBp := Lib.hid (show Sl _ _ encStr 1 hb.p.1 hb.p.2.1 u.paths from (hlb.2.2.2.2.sl (fun _ => by simp [encStr])).belowMore hb0 hb0.size)
  have HMp := Lib.hid (show ha.p.2.1 ≤ 1048576 by have h1 := hsm.2.2.2.2.2.1; have h2 := hla.2.2.2.2.1; simp only [Tr.v, Tr.subs] at *; omega)
  have HLs := Lib.hid (show subs.length = ha.s.2.1 ∧ subs'.length = hb.s.2.1 from ⟨hlena, hlenb⟩)
  have HMs := Lib.hid (show ha.s.2.1 ≤ 1048576 by have h1 := hsm.2.2.2.2.2.2.1; rw [hlena] at h1; exact h1)
  have HRA := Lib.hid hLa; have HRB := Lib.hid hLb; have HSA := Lib.hid hsa; have HSB := Lib.hid hsb
  have HIH := Lib.hid ih; have HOK := Lib.hid (fun k (hk : k < subs.length) => hok.subAt (j := k) hk); have HOK' := Lib.hid (fun k (hk : k < subs'.length) => hok'.subAt (j := k) hk)
  have hca := fun (W : World) (hW : Below w.heap.size w W) => conv_slR (hla.2.1.fr (R' := fun _ => True) (Fr.of_below (own := []) hW) (fun b _ _ => ⟨by simp, trivial⟩) (fun _ => by simp [enc8]))
  have hcb := fun (W : World) (hW : Below w.heap.size w W) => conv_slR (hlb.2.1.fr (R' := fun _ => True) (Fr.of_below (own := []) hW) (fun b _ _ => ⟨by simp, trivial⟩) (fun _ => by simp [enc8]))
  have hcva := show _ = Result.ok (Value.string ⟨v.data.toArray⟩) _ from hca _ hb0; have hcvb := show _ = Result.ok (Value.string ⟨u.data.toArray⟩) _ from hcb _ hb0
  have HAC := Lib.hid (fun (W : World) (hW : Below w.heap.size w W) => show Calls Tryz.prog 92 #[slV ha.a, slV hb.a] W (QuietB W (decide (v.acl = u.acl))) from refAcls_any ha.a.1 hb.a.1 ha.a.2.1 hb.a.2.1 ha.a.2.2 hb.a.2.2 v.acl u.acl W W.heap.size ((hla.2.2.1.sl (fun _ => by simp [encAcl])).belowMore hW hW.size) ((hlb.2.2.1.sl (fun _ => by simp [encAcl])).belowMore hW hW.size) (by have h1 := hsm.2.2.2.1; have h2 := hla.2.2.1.1; simp only [Tr.v, Tr.subs] at *; omega) (by have h1 := hsm'.2.2.2.1; have h2 := hlb.2.2.1.1; simp only [Tr.v, Tr.subs] at *; omega))
  have HEA := Lib.hid (fun (e : Tr.mk v subs = Tr.mk u subs') => (show v = u ∧ subs = subs' from by injection e with e1 e2; exact ⟨e1, e2⟩))
  clear ta tb hla hlb hLa hLb hsa hsb hlena hlenb hsm hsm' ih hok hok' hca hcb hb0
  go_enter Tryz.func49, Tryz.ntmps49
  go_upto_region 1 with fail
  generalize (w.alloc (.cells #[.int .i32 ha.n.ty, .string ha.n.path, slV ha.d, slV ha.a, .int .i64 ha.n.ow, .int .i32 ha.n.ve, .int .i32 ha.n.cr, .bool ha.n.qh, .int .i64 ha.n.qc, .int .i64 ha.n.qb, .int .i64 ha.n.si, .int .i32 ha.n.st, slV ha.i, slV ha.p, .int .i32 ha.n.co, slV ha.s] 33)).alloc (.cells #[.int .i32 hb.n.ty, .string hb.n.path, slV hb.d, slV hb.a, .int .i64 hb.n.ow, .int .i32 hb.n.ve, .int .i32 hb.n.cr, .bool hb.n.qh, .int .i64 hb.n.qc, .int .i64 hb.n.qb, .int .i64 hb.n.si, .int .i32 hb.n.st, slV hb.i, slV hb.p, .int .i32 hb.n.co, slV hb.s] 33) = W at *
  generalize (Value.agg #[.int .i32 ha.n.ty, .string ha.n.path, slV ha.d, slV ha.a, .int .i64 ha.n.ow, .int .i32 ha.n.ve, .int .i32 ha.n.cr, .bool ha.n.qh, .int .i64 ha.n.qc, .int .i64 ha.n.qb, .int .i64 ha.n.si, .int .i32 ha.n.st, slV ha.i, slV ha.p, .int .i32 ha.n.co, slV ha.s]) = arg0 at *
  generalize (Value.agg #[.int .i32 hb.n.ty, .string hb.n.path, slV hb.d, slV hb.a, .int .i64 hb.n.ow, .int .i32 hb.n.ve, .int .i32 hb.n.cr, .bool hb.n.qh, .int .i64 hb.n.qc, .int .i64 hb.n.qb, .int .i64 hb.n.si, .int .i32 hb.n.st, slV hb.i, slV hb.p, .int .i32 hb.n.co, slV hb.s]) = arg1 at *
  have DA0 := Lib.hid (show ∀ V : World, Below W.heap.size W V → V.cell? ⟨w.heap.size, 0, none⟩ = some (.int .i32 ha.n.ty) from fun V hV => by rw [cellH ((hV.block _ (by have := HSZ.out; omega)).trans HGA.out)]; rfl)
  have DB0 := Lib.hid (show ∀ V : World, Below W.heap.size W V → V.cell? ⟨w.heap.size + 1, 0, none⟩ = some (.int .i32 hb.n.ty) from fun V hV => by rw [cellH ((hV.block _ (by have := HSZ.out; omega)).trans HGB.out)]; rfl)
  have xa0 := DA0.out W (Below.refl _ _); have xb0 := DB0.out W (Below.refl _ _)
  have DA1 := Lib.hid (show ∀ V : World, Below W.heap.size W V → V.cell? ⟨w.heap.size, 1, none⟩ = some (.string ha.n.path) from fun V hV => by rw [cellH ((hV.block _ (by have := HSZ.out; omega)).trans HGA.out)]; rfl)
  have DB1 := Lib.hid (show ∀ V : World, Below W.heap.size W V → V.cell? ⟨w.heap.size + 1, 1, none⟩ = some (.string hb.n.path) from fun V hV => by rw [cellH ((hV.block _ (by have := HSZ.out; omega)).trans HGB.out)]; rfl)
  have xa1 := DA1.out W (Below.refl _ _); have xb1 := DB1.out W (Below.refl _ _)
  have DA2 := Lib.hid (show ∀ V : World, Below W.heap.size W V → V.cell? ⟨w.heap.size, 2, none⟩ = some (slV ha.d) from fun V hV => by rw [cellH ((hV.block _ (by have := HSZ.out; omega)).trans HGA.out)]; rfl)
  have DB2 := Lib.hid (show ∀ V : World, Below W.heap.size W V → V.cell? ⟨w.heap.size + 1, 2, none⟩ = some (slV hb.d) from fun V hV => by rw [cellH ((hV.block _ (by have := HSZ.out; omega)).trans HGB.out)]; rfl)
  have xa2 := DA2.out W (Below.refl _ _); have xb2 := DB2.out W (Below.refl _ _)
  have DA3 := Lib.hid (show ∀ V : World, Below W.heap.size W V → V.cell? ⟨w.heap.size, 3, none⟩ = some (slV ha.a) from fun V hV => by rw [cellH ((hV.block _ (by have := HSZ.out; omega)).trans HGA.out)]; rfl)
  have DB3 := Lib.hid (show ∀ V : World, Below W.heap.size W V → V.cell? ⟨w.heap.size + 1, 3, none⟩ = some (slV hb.a) from fun V hV => by rw [cellH ((hV.block _ (by have := HSZ.out; omega)).trans HGB.out)]; rfl)
  have xa3 := DA3.out W (Below.refl _ _); have xb3 := DB3.out W (Below.refl _ _)
  have DA4 := Lib.hid (show ∀ V : World, Below W.heap.size W V → V.cell? ⟨w.heap.size, 4, none⟩ = some (.int .i64 ha.n.ow) from fun V hV => by rw [cellH ((hV.block _ (by have := HSZ.out; omega)).trans HGA.out)]; rfl)
  have DB4 := Lib.hid (show ∀ V : World, Below W.heap.size W V → V.cell? ⟨w.heap.size + 1, 4, none⟩ = some (.int .i64 hb.n.ow) from fun V hV => by rw [cellH ((hV.block _ (by have := HSZ.out; omega)).trans HGB.out)]; rfl)
  have xa4 := DA4.out W (Below.refl _ _); have xb4 := DB4.out W (Below.refl _ _)
  have DA5 := Lib.hid (show ∀ V : World, Below W.heap.size W V → V.cell? ⟨w.heap.size, 5, none⟩ = some (.int .i32 ha.n.ve) from fun V hV => by rw [cellH ((hV.block _ (by have := HSZ.out; omega)).trans HGA.out)]; rfl)
  have DB5 := Lib.hid (show ∀ V : World, Below W.heap.size W V → V.cell? ⟨w.heap.size + 1, 5, none⟩ = some (.int .i32 hb.n.ve) from fun V hV => by rw [cellH ((hV.block _ (by have := HSZ.out; omega)).trans HGB.out)]; rfl)
  have xa5 := DA5.out W (Below.refl _ _); have xb5 := DB5.out W (Below.refl _ _)
  have DA6 := Lib.hid (show ∀ V : World, Below W.heap.size W V → V.cell? ⟨w.heap.size, 6, none⟩ = some (.int .i32 ha.n.cr) from fun V hV => by rw [cellH ((hV.block _ (by have := HSZ.out; omega)).trans HGA.out)]; rfl)
  have DB6 := Lib.hid (show ∀ V : World, Below W.heap.size W V → V.cell? ⟨w.heap.size + 1, 6, none⟩ = some (.int .i32 hb.n.cr) from fun V hV => by rw [cellH ((hV.block _ (by have := HSZ.out; omega)).trans HGB.out)]; rfl)
  have xa6 := DA6.out W (Below.refl _ _); have xb6 := DB6.out W (Below.refl _ _)
  have DA7 := Lib.hid (show ∀ V : World, Below W.heap.size W V → V.cell? ⟨w.heap.size, 7, none⟩ = some (.bool ha.n.qh) from fun V hV => by rw [cellH ((hV.block _ (by have := HSZ.out; omega)).trans HGA.out)]; rfl)
  have DB7 := Lib.hid (show ∀ V : World, Below W.heap.size W V → V.cell? ⟨w.heap.size + 1, 7, none⟩ = some (.bool hb.n.qh) from fun V hV => by rw [cellH ((hV.block _ (by have := HSZ.out; omega)).trans HGB.out)]; rfl)
  have xa7 := DA7.out W (Below.refl _ _); have xb7 := DB7.out W (Below.refl _ _)
  have DA8 := Lib.hid (show ∀ V : World, Below W.heap.size W V → V.cell? ⟨w.heap.size, 8, none⟩ = some (.int .i64 ha.n.qc) from fun V hV => by rw [cellH ((hV.block _ (by have := HSZ.out; omega)).trans HGA.out)]; rfl)
  have DB8 := Lib.hid (show ∀ V : World, Below W.heap.size W V → V.cell? ⟨w.heap.size + 1, 8, none⟩ = some (.int .i64 hb.n.qc) from fun V hV => by rw [cellH ((hV.block _ (by have := HSZ.out; omega)).trans HGB.out)]; rfl)
  have xa8 := DA8.out W (Below.refl _ _); have xb8 := DB8.out W (Below.refl _ _)
  have DA9 := Lib.hid (show ∀ V : World, Below W.heap.size W V → V.cell? ⟨w.heap.size, 9, none⟩ = some (.int .i64 ha.n.qb) from fun V hV => by rw [cellH ((hV.block _ (by have := HSZ.out; omega)).trans HGA.out)]; rfl)
  have DB9 := Lib.hid (show ∀ V : World, Below W.heap.size W V → V.cell? ⟨w.heap.size + 1, 9, none⟩ = some (.int .i64 hb.n.qb) from fun V hV => by rw [cellH ((hV.block _ (by have := HSZ.out; omega)).trans HGB.out)]; rfl)
  have xa9 := DA9.out W (Below.refl _ _); have xb9 := DB9.out W (Below.refl _ _)
  have DA10 := Lib.hid (show ∀ V : World, Below W.heap.size W V → V.cell? ⟨w.heap.size, 10, none⟩ = some (.int .i64 ha.n.si) from fun V hV => by rw [cellH ((hV.block _ (by have := HSZ.out; omega)).trans HGA.out)]; rfl)
  have DB10 := Lib.hid (show ∀ V : World, Below W.heap.size W V → V.cell? ⟨w.heap.size + 1, 10, none⟩ = some (.int .i64 hb.n.si) from fun V hV => by rw [cellH ((hV.block _ (by have := HSZ.out; omega)).trans HGB.out)]; rfl)
  have xa10 := DA10.out W (Below.refl _ _); have xb10 := DB10.out W (Below.refl _ _)
  have DA11 := Lib.hid (show ∀ V : World, Below W.heap.size W V → V.cell? ⟨w.heap.size, 11, none⟩ = some (.int .i32 ha.n.st) from fun V hV => by rw [cellH ((hV.block _ (by have := HSZ.out; omega)).trans HGA.out)]; rfl)
  have DB11 := Lib.hid (show ∀ V : World, Below W.heap.size W V → V.cell? ⟨w.heap.size + 1, 11, none⟩ = some (.int .i32 hb.n.st) from fun V hV => by rw [cellH ((hV.block _ (by have := HSZ.out; omega)).trans HGB.out)]; rfl)
  have xa11 := DA11.out W (Below.refl _ _); have xb11 := DB11.out W (Below.refl _ _)
  have DA12 := Lib.hid (show ∀ V : World, Below W.heap.size W V → V.cell? ⟨w.heap.size, 12, none⟩ = some (slV ha.i) from fun V hV => by rw [cellH ((hV.block _ (by have := HSZ.out; omega)).trans HGA.out)]; rfl)
  have DB12 := Lib.hid (show ∀ V : World, Below W.heap.size W V → V.cell? ⟨w.heap.size + 1, 12, none⟩ = some (slV hb.i) from fun V hV => by rw [cellH ((hV.block _ (by have := HSZ.out; omega)).trans HGB.out)]; rfl)
  have xa12 := DA12.out W (Below.refl _ _); have xb12 := DB12.out W (Below.refl _ _)
  have DA13 := Lib.hid (show ∀ V : World, Below W.heap.size W V → V.cell? ⟨w.heap.size, 13, none⟩ = some (slV ha.p) from fun V hV => by rw [cellH ((hV.block _ (by have := HSZ.out; omega)).trans HGA.out)]; rfl)
  have DB13 := Lib.hid (show ∀ V : World, Below W.heap.size W V → V.cell? ⟨w.heap.size + 1, 13, none⟩ = some (slV hb.p) from fun V hV => by rw [cellH ((hV.block _ (by have := HSZ.out; omega)).trans HGB.out)]; rfl)
  have xa13 := DA13.out W (Below.refl _ _); have xb13 := DB13.out W (Below.refl _ _)
  have DA14 := Lib.hid (show ∀ V : World, Below W.heap.size W V → V.cell? ⟨w.heap.size, 14, none⟩ = some (.int .i32 ha.n.co) from fun V hV => by rw [cellH ((hV.block _ (by have := HSZ.out; omega)).trans HGA.out)]; rfl)
  have DB14 := Lib.hid (show ∀ V : World, Below W.heap.size W V → V.cell? ⟨w.heap.size + 1, 14, none⟩ = some (.int .i32 hb.n.co) from fun V hV => by rw [cellH ((hV.block _ (by have := HSZ.out; omega)).trans HGB.out)]; rfl)
  have xa14 := DA14.out W (Below.refl _ _); have xb14 := DB14.out W (Below.refl _ _)
  have DA15 := Lib.hid (show ∀ V : World, Below W.heap.size W V → V.cell? ⟨w.heap.size, 15, none⟩ = some (slV ha.s) from fun V hV => by rw [cellH ((hV.block _ (by have := HSZ.out; omega)).trans HGA.out)]; rfl)
  have DB15 := Lib.hid (show ∀ V : World, Below W.heap.size W V → V.cell? ⟨w.heap.size + 1, 15, none⟩ = some (slV hb.s) from fun V hV => by rw [cellH ((hV.block _ (by have := HSZ.out; omega)).trans HGB.out)]; rfl)
  have xa15 := DA15.out W (Below.refl _ _); have xb15 := DB15.out W (Below.refl _ _)
  by_cases h1 : ha.n.ty = hb.n.ty
  rotate_left
  · have b1 : (ha.n.ty != hb.n.ty) = true := by simp [h1]
    go_wp2_with fail
    go_ret
    exact RetB.mk (HB.out) (sameT_ne (fun e => h1 (by have := (HEA.out e).1; have h2 := congrArg TxF.n this; rw [HNA.out, HNB.out] at h2; exact congrArg TxN.ty h2))).symm
  have b1 : (ha.n.ty != hb.n.ty) = false := by simp [h1]
  have E1 := Lib.hid h1
  clear h1
  by_cases h2 : ha.n.path = hb.n.path
  rotate_left
  · have b2 : (ha.n.path.toList == hb.n.path.toList) = false := str_ne h2
    go_wp2_with fail
    go_ret
    exact RetB.mk (HB.out) (sameT_ne (fun e => h2 (by have := (HEA.out e).1; have h2 := congrArg TxF.n this; rw [HNA.out, HNB.out] at h2; exact congrArg TxN.path h2))).symm
  have b2 : (ha.n.path.toList == hb.n.path.toList) = true := str_eq h2
  have E2 := Lib.hid h2
  clear h2
  by_cases h3 : v.data = u.data
  rotate_left
  · have b3 : (v.data == u.data) = false := by simp [h3]
    go_wp2_with fail
    go_ret
    exact RetB.mk (HB.out) (sameT_ne (fun e => h3 (congrArg TxF.data (HEA.out e).1))).symm
  have b3 : (v.data == u.data) = true := by simp [h3]
  have E3 := Lib.hid h3
  clear h3
  go_wp2_with fail
  refine (HAC.out W HB.out).mono ?_
  rintro e w1 ⟨rfl, q1, rfl⟩
  have HV1 := Lib.hid (drewN_self W q1)
  clear xa0 xb0 xa1 xb1 xa2 xb2 xa3 xb3 xa4 xb4 xa5 xb5 xa6 xb6 xa7 xb7 xa8 xb8 xa9 xb9 xa10 xb10 xa11 xb11 xa12 xb12 xa13 xb13 xa14 xb14 xa15 xb15 hcva hcvb
  generalize W.drewN q1 = V1 at *
  have xa0 := DA0.out V1 HV1.out; have xb0 := DB0.out V1 HV1.out
  have xa1 := DA1.out V1 HV1.out; have xb1 := DB1.out V1 HV1.out
  have xa2 := DA2.out V1 HV1.out; have xb2 := DB2.out V1 HV1.out
  have xa3 := DA3.out V1 HV1.out; have xb3 := DB3.out V1 HV1.out
  have xa4 := DA4.out V1 HV1.out; have xb4 := DB4.out V1 HV1.out
  have xa5 := DA5.out V1 HV1.out; have xb5 := DB5.out V1 HV1.out
  have xa6 := DA6.out V1 HV1.out; have xb6 := DB6.out V1 HV1.out
  have xa7 := DA7.out V1 HV1.out; have xb7 := DB7.out V1 HV1.out
  have xa8 := DA8.out V1 HV1.out; have xb8 := DB8.out V1 HV1.out
  have xa9 := DA9.out V1 HV1.out; have xb9 := DB9.out V1 HV1.out
  have xa10 := DA10.out V1 HV1.out; have xb10 := DB10.out V1 HV1.out
  have xa11 := DA11.out V1 HV1.out; have xb11 := DB11.out V1 HV1.out
  have xa12 := DA12.out V1 HV1.out; have xb12 := DB12.out V1 HV1.out
  have xa13 := DA13.out V1 HV1.out; have xb13 := DB13.out V1 HV1.out
  have xa14 := DA14.out V1 HV1.out; have xb14 := DB14.out V1 HV1.out
  have xa15 := DA15.out V1 HV1.out; have xb15 := DB15.out V1 HV1.out
  by_cases h4 : v.acl = u.acl
  rotate_left
  · rw [decide_eq_false h4]
    go_wp2_with fail
    go_ret
    exact RetB.mk (HB.out.trans (HV1.out.mono HB.out.size)) (sameT_ne (fun e => h4 (congrArg TxF.acl (HEA.out e).1))).symm
  rw [decide_eq_true h4]
  have E4 := Lib.hid h4
  clear h4
  by_cases h5 : ha.n.ow = hb.n.ow
  rotate_left
  · have b5 : (ha.n.ow != hb.n.ow) = true := by simp [h5]
    go_wp2_with fail
    go_ret
    exact RetB.mk (HB.out.trans (HV1.out.mono HB.out.size)) (sameT_ne (fun e => h5 (by have := (HEA.out e).1; have h2 := congrArg TxF.n this; rw [HNA.out, HNB.out] at h2; exact congrArg TxN.ow h2))).symm
  have b5 : (ha.n.ow != hb.n.ow) = false := by simp [h5]
  have E5 := Lib.hid h5
  clear h5
  by_cases h6 : ha.n.ve = hb.n.ve
  rotate_left
  · have b6 : (ha.n.ve != hb.n.ve) = true := by simp [h6]
    go_wp2_with fail
    go_ret
    exact RetB.mk (HB.out.trans (HV1.out.mono HB.out.size)) (sameT_ne (fun e => h6 (by have := (HEA.out e).1; have h2 := congrArg TxF.n this; rw [HNA.out, HNB.out] at h2; exact congrArg TxN.ve h2))).symm
  have b6 : (ha.n.ve != hb.n.ve) = false := by simp [h6]
  have E6 := Lib.hid h6
  clear h6
  by_cases h7 : ha.n.cr = hb.n.cr
  rotate_left
  · have b7 : (ha.n.cr != hb.n.cr) = true := by simp [h7]
    go_wp2_with fail
    go_ret
    exact RetB.mk (HB.out.trans (HV1.out.mono HB.out.size)) (sameT_ne (fun e => h7 (by have := (HEA.out e).1; have h2 := congrArg TxF.n this; rw [HNA.out, HNB.out] at h2; exact congrArg TxN.cr h2))).symm
  have b7 : (ha.n.cr != hb.n.cr) = false := by simp [h7]
  have E7 := Lib.hid h7
  clear h7
  have hquo : ∀ W : World, (binOp .neq 25 (.agg #[.bool ha.n.qh, .int .i64 ha.n.qc, .int .i64 ha.n.qb]) (.agg #[.bool hb.n.qh, .int .i64 hb.n.qc, .int .i64 hb.n.qb])).run Tryz.prog W = .ok (.bool (!decide ((ha.n.qh, ha.n.qc, ha.n.qb) = (hb.n.qh, hb.n.qc, hb.n.qb)))) W := neQuota _ _ _ _ _ _
  by_cases h8 : (ha.n.qh, ha.n.qc, ha.n.qb) = (hb.n.qh, hb.n.qc, hb.n.qb)
  rotate_left
  · rw [decide_eq_false h8] at hquo
    go_wp2_with fail
    go_ret
    exact RetB.mk (HB.out.trans (HV1.out.mono HB.out.size)) (sameT_ne (fun e => h8 (by have := (HEA.out e).1; have h2 := congrArg TxF.n this; rw [HNA.out, HNB.out] at h2; rw [h2]))).symm
  rw [decide_eq_true h8] at hquo
  have E8 := Lib.hid h8
  clear h8
  by_cases h9 : ha.n.si = hb.n.si
  rotate_left
  · have b9 : (ha.n.si != hb.n.si) = true := by simp [h9]
    go_wp2_with fail
    go_ret
    exact RetB.mk (HB.out.trans (HV1.out.mono HB.out.size)) (sameT_ne (fun e => h9 (by have := (HEA.out e).1; have h2 := congrArg TxF.n this; rw [HNA.out, HNB.out] at h2; exact congrArg TxN.si h2))).symm
  have b9 : (ha.n.si != hb.n.si) = false := by simp [h9]
  have E9 := Lib.hid h9
  clear h9
  by_cases h10 : ha.n.st = hb.n.st
  rotate_left
  · have b10 : (ha.n.st != hb.n.st) = true := by simp [h10]
    go_wp2_with fail
    go_ret
    exact RetB.mk (HB.out.trans (HV1.out.mono HB.out.size)) (sameT_ne (fun e => h10 (by have := (HEA.out e).1; have h2 := congrArg TxF.n this; rw [HNA.out, HNB.out] at h2; exact congrArg TxN.st h2))).symm
  have b10 : (ha.n.st != hb.n.st) = false := by simp [h10]
  have E10 := Lib.hid h10
  clear h10
  by_cases h11 : ha.i.2.1 = hb.i.2.1
  rotate_left
  · have b11 : (ha.i.2.1 == hb.i.2.1) = false := by simp [h11]
    have c11 : ((ha.i.2.1 : Int) == (hb.i.2.1 : Int)) = false := beq_eq_false_iff_ne.2 (by omega)
    have d11 : ((ha.i.2.1 : Int) != (hb.i.2.1 : Int)) = true := by rw [bne, c11]; rfl
    go_wp2_with fail
    go_ret
    exact RetB.mk (HB.out.trans (HV1.out.mono HB.out.size)) (sameT_ne (fun e => h11 (by rw [← HLi.out.1, ← HLi.out.2, (HEA.out e).1]))).symm
  have b11 : (ha.i.2.1 == hb.i.2.1) = true := by simp [h11]
  have c11 : ((ha.i.2.1 : Int) == (hb.i.2.1 : Int)) = true := by rw [h11]; simp
  have d11 : ((ha.i.2.1 : Int) != (hb.i.2.1 : Int)) = false := by rw [bne, c11]; rfl
  have E11 := Lib.hid h11
  clear h11
  by_cases h12 : ha.p.2.1 = hb.p.2.1
  rotate_left
  · have b12 : (ha.p.2.1 == hb.p.2.1) = false := by simp [h12]
    have c12 : ((ha.p.2.1 : Int) == (hb.p.2.1 : Int)) = false := beq_eq_false_iff_ne.2 (by omega)
    have d12 : ((ha.p.2.1 : Int) != (hb.p.2.1 : Int)) = true := by rw [bne, c12]; rfl
    go_wp2_with fail
    go_ret
    exact RetB.mk (HB.out.trans (HV1.out.mono HB.out.size)) (sameT_ne (fun e => h12 (by rw [← HLp.out.1, ← HLp.out.2, (HEA.out e).1]))).symm
  have b12 : (ha.p.2.1 == hb.p.2.1) = true := by simp [h12]
  have c12 : ((ha.p.2.1 : Int) == (hb.p.2.1 : Int)) = true := by rw [h12]; simp
  have d12 : ((ha.p.2.1 : Int) != (hb.p.2.1 : Int)) = false := by rw [bne, c12]; rfl
  have E12 := Lib.hid h12
  clear h12
  by_cases h13 : ha.n.co = hb.n.co
  rotate_left
  · have b13 : (ha.n.co != hb.n.co) = true := by simp [h13]
    go_wp2_with fail
    go_ret
    exact RetB.mk (HB.out.trans (HV1.out.mono HB.out.size)) (sameT_ne (fun e => h13 (by have := (HEA.out e).1; have h2 := congrArg TxF.n this; rw [HNA.out, HNB.out] at h2; exact congrArg TxN.co h2))).symm
  have b13 : (ha.n.co != hb.n.co) = false := by simp [h13]
  have E13 := Lib.hid h13
  clear h13
  by_cases h14 : ha.s.2.1 = hb.s.2.1
  rotate_left
  · have b14 : (ha.s.2.1 == hb.s.2.1) = false := by simp [h14]
    have c14 : ((ha.s.2.1 : Int) == (hb.s.2.1 : Int)) = false := beq_eq_false_iff_ne.2 (by omega)
    have d14 : ((ha.s.2.1 : Int) != (hb.s.2.1 : Int)) = true := by rw [bne, c14]; rfl
    go_wp2_with fail
    go_ret
    exact RetB.mk (HB.out.trans (HV1.out.mono HB.out.size)) (sameT_ne (fun e => h14 (by rw [← HLs.out.1, ← HLs.out.2, (HEA.out e).2]))).symm
  have b14 : (ha.s.2.1 == hb.s.2.1) = true := by simp [h14]
  have c14 : ((ha.s.2.1 : Int) == (hb.s.2.1 : Int)) = true := by rw [h14]; simp
  have d14 : ((ha.s.2.1 : Int) != (hb.s.2.1 : Int)) = false := by rw [bne, c14]; rfl
  have E14 := Lib.hid h14
  clear h14
  go_upto_region 5 with fail
  clear hquo b1 b2 b3 b5 b6 b7 b9 b10 b11 b12 b13 b14 c11 d11 c12 d12 c14 d14
  clear xa0 xb0 xa1 xb1 xa2 xb2 xa3 xb3 xa4 xb4 xa5 xb5 xa6 xb6 xa7 xb7 xa8 xb8 xa9 xb9 xa10 xb10 xa11 xb11 xa14 xb14
  go_wp2_with fail
  go_loopw [5] (fun i wr => ∃ j q : Nat, i = .int .i64 ↑j ∧ j ≤ ha.i.2.1 ∧ wr = V1.drewN q ∧ ∀ k, k < j → v.ids[k]! = u.ids[k]!) (fun i _ => ha.i.2.1 - (RowKit.intOf i).toNat)
  case atStart => exact ⟨0, 0, rfl, Nat.zero_le _, rfl, fun k hk => absurd hk (by omega)⟩
  case round =>
  obtain ⟨j, q, rfl, hj, rfl, hal⟩ := hrel
  have HALi := Lib.hid hal
  clear hal
  by_cases hlt : j < ha.i.2.1
  · obtain ⟨b, off, ea, _, hca⟩ := HAi.out.cells hlt
    obtain ⟨b2, off2, eb, _, hcb⟩ := HBi.out.cells (show j < hb.i.2.1 by rw [← E11.out]; exact hlt)
    have ca0 : V1.cell? ⟨b, off + j * 2, none⟩ = some (.string v.ids[j]!.1) := by have := keep1 (hca 0 _ rfl) HV1.out; simpa using this
    have cb0 : V1.cell? ⟨b2, off2 + j * 2, none⟩ = some (.string u.ids[j]!.1) := by have := keep1 (hcb 0 _ rfl) HV1.out; simpa using this
    have ca1 : V1.cell? ⟨b, off + j * 2 + 1, none⟩ = some (.string v.ids[j]!.2) := by have := keep1 (hca 1 _ rfl) HV1.out; simpa using this
    have cb1 : V1.cell? ⟨b2, off2 + j * 2 + 1, none⟩ = some (.string u.ids[j]!.2) := by have := keep1 (hcb 1 _ rfl) HV1.out; simpa using this
    have ya : V1.cell? ⟨w.heap.size, 12, none⟩ = some (.slice (some ⟨b, off, none⟩) ha.i.2.1 ha.i.2.2) := by rw [xa12, ← ea]
    have yb : V1.cell? ⟨w.heap.size + 1, 12, none⟩ = some (.slice (some ⟨b2, off2, none⟩) ha.i.2.1 hb.i.2.2) := by rw [xb12, ← eb, E11.out]
    have hji : (j : Int) < (ha.i.2.1 : Int) := by omega
    have hj0 : (0 : Int) ≤ (j : Int) := by omega
    have hmx := HMi.out
    clear hca hcb ea eb xa12 xb12
    have hq : ∀ W : World, (binOp .neq 108 (.agg #[.string v.ids[j]!.1, .string v.ids[j]!.2]) (.agg #[.string u.ids[j]!.1, .string u.ids[j]!.2])).run Tryz.prog W = .ok (.bool (!decide ((v.ids[j]!.1, v.ids[j]!.2) = (u.ids[j]!.1, u.ids[j]!.2)))) W := neId _ _ _ _
    by_cases heq : v.ids[j]! = u.ids[j]!
    rotate_left
    · have HNE := Lib.hid (show ¬ Tr.mk v subs = Tr.mk u subs' from fun e => heq (by rw [(HEA.out e).1]))
      rw [decide_eq_false (show ¬ (v.ids[j]!.1, v.ids[j]!.2) = (u.ids[j]!.1, u.ids[j]!.2) from heq)] at hq
      clear heq
      generalize v.ids[j]!.1 = s0 at *
      generalize u.ids[j]!.1 = r0 at *
      generalize v.ids[j]!.2 = s1 at *
      generalize u.ids[j]!.2 = r1 at *
      go_wp2_with fail
      go_quiet (fail)
      go_wp2_with fail
      go_ret
      exact RetB.mk (HB.out.trans ((drewN_below (drewN_below HV1.out _) _).mono HB.out.size)) (sameT_ne HNE.out).symm
    have HQi := Lib.hid (show ∀ k, k < j + 1 → v.ids[k]! = u.ids[k]! from fun k hk => by
      rcases Nat.lt_succ_iff_lt_or_eq.1 hk with h | rfl
      · exact HALi.out k h
      · exact heq)
    rw [decide_eq_true (show (v.ids[j]!.1, v.ids[j]!.2) = (u.ids[j]!.1, u.ids[j]!.2) from heq)] at hq
    clear heq
    generalize v.ids[j]!.1 = s0 at *
    generalize u.ids[j]!.1 = r0 at *
    generalize v.ids[j]!.2 = s1 at *
    generalize u.ids[j]!.2 = r1 at *
    go_wp2_with fail
    go_quiet (fail)
    go_wp2_with fail
    go_roundw
    case rel => exact ⟨j + 1, _, by go_num, by omega, by (try simp only [World.drewN_drewN]); rfl, HQi.out⟩
    case measure => simp [RowKit.intOf]; omega
  obtain rfl : j = ha.i.2.1 := by omega
  have HZi := Lib.hid (show v.ids = u.ids from list_same (by rw [HLi.out.1, HLi.out.2, E11.out]) (fun k hk => HALi.out k (by rw [← HLi.out.1]; exact hk)))
  clear HALi
  go_upto_region 10 with fail
  go_wp2_with fail
  go_loopw [6] (fun i wr => ∃ j q : Nat, i = .int .i64 ↑j ∧ j ≤ ha.p.2.1 ∧ wr = V1.drewN q ∧ ∀ k, k < j → v.paths[k]! = u.paths[k]!) (fun i _ => ha.p.2.1 - (RowKit.intOf i).toNat)
  case atStart => exact ⟨0, _, rfl, Nat.zero_le _, rfl, fun k hk => absurd hk (by omega)⟩
  case round =>
  obtain ⟨j, q, rfl, hj, rfl, hal⟩ := hrel
  have HALp := Lib.hid hal
  clear hal
  by_cases hlt : j < ha.p.2.1
  · obtain ⟨b, off, ea, _, hca⟩ := HAp.out.cells hlt
    obtain ⟨b2, off2, eb, _, hcb⟩ := HBp.out.cells (show j < hb.p.2.1 by rw [← E12.out]; exact hlt)
    have ca0 : V1.cell? ⟨b, off + j, none⟩ = some (.string v.paths[j]!) := by have := keep1 (hca 0 _ rfl) HV1.out; simpa using this
    have cb0 : V1.cell? ⟨b2, off2 + j, none⟩ = some (.string u.paths[j]!) := by have := keep1 (hcb 0 _ rfl) HV1.out; simpa using this
    have ya : V1.cell? ⟨w.heap.size, 13, none⟩ = some (.slice (some ⟨b, off, none⟩) ha.p.2.1 ha.p.2.2) := by rw [xa13, ← ea]
    have yb : V1.cell? ⟨w.heap.size + 1, 13, none⟩ = some (.slice (some ⟨b2, off2, none⟩) ha.p.2.1 hb.p.2.2) := by rw [xb13, ← eb, E12.out]
    have hji : (j : Int) < (ha.p.2.1 : Int) := by omega
    have hj0 : (0 : Int) ≤ (j : Int) := by omega
    have hmx := HMp.out
    clear hca hcb ea eb xa13 xb13
    by_cases heq : v.paths[j]! = u.paths[j]!
    rotate_left
    · have HNE := Lib.hid (show ¬ Tr.mk v subs = Tr.mk u subs' from fun e => heq (by rw [(HEA.out e).1]))
      have hq : (v.paths[j]!.toList == u.paths[j]!.toList) = false := str_ne heq
      clear heq
      generalize v.paths[j]! = s0 at *
      generalize u.paths[j]! = r0 at *
      go_wp2_with fail
      go_quiet (fail)
      go_wp2_with fail
      go_ret
      exact RetB.mk (HB.out.trans ((drewN_below (drewN_below HV1.out _) _).mono HB.out.size)) (sameT_ne HNE.out).symm
    have HQp := Lib.hid (show ∀ k, k < j + 1 → v.paths[k]! = u.paths[k]! from fun k hk => by
      rcases Nat.lt_succ_iff_lt_or_eq.1 hk with h | rfl
      · exact HALp.out k h
      · exact heq)
    have hq : (v.paths[j]!.toList == u.paths[j]!.toList) = true := str_eq heq
    clear heq
    generalize v.paths[j]! = s0 at *
    generalize u.paths[j]! = r0 at *
    go_wp2_with fail
    go_quiet (fail)
    go_wp2_with fail
    go_roundw
    case rel => exact ⟨j + 1, _, by go_num, by omega, by (try simp only [World.drewN_drewN]); rfl, HQp.out⟩
    case measure => simp [RowKit.intOf]; omega
  obtain rfl : j = ha.p.2.1 := by omega
  have HZp := Lib.hid (show v.paths = u.paths from list_same (by rw [HLp.out.1, HLp.out.2, E12.out]) (fun k hk => HALp.out k (by rw [← HLp.out.1]; exact hk)))
  clear HALp
  go_wp2_with fail
  go_loopw [7] (fun i wr => ∃ j : Nat, i = .int .i64 ↑j ∧ j ≤ ha.s.2.1 ∧ Below W.heap.size W wr ∧ ∀ k, k < j → subs[k]! = subs'[k]!) (fun i _ => ha.s.2.1 - (RowKit.intOf i).toNat)
  case atStart => exact ⟨0, rfl, Nat.zero_le _, drewN_below HV1.out _, fun k hk => absurd hk (by omega)⟩
  case round =>
  clear xa15 xb15
  obtain ⟨j, rfl, hj, hbw, hal⟩ := hrel
  have HBW := Lib.hid hbw; have HALs := Lib.hid hal; clear hbw hal
  have ya := DA15.out wr HBW.out; have yb := DB15.out wr HBW.out
  by_cases hlt : j < ha.s.2.1
  · obtain ⟨b, off, ea, _, hca⟩ := HRA.out.2.2 (show 0 < ha.s.2.1 by omega)
    obtain ⟨b2, off2, eb, _, hcb⟩ := HRB.out.2.2 (show 0 < hb.s.2.1 by rw [← E14.out]; omega)
    have ea : ha.s.1 = some ⟨b, off, none⟩ := ea
    have eb : hb.s.1 = some ⟨b2, off2, none⟩ := eb
    have HBR := Lib.hid (HB.out.trans (HBW.out.mono HB.out.size))
    have hjb : j < hb.s.2.1 := by rw [← E14.out]; exact hlt
    have HXA := Lib.hid (show ∀ V, Below w.heap.size w V → V.rangeAt b (off + j * 16) (encTx La[j]!) from fun V hV i u hu => keep1 (hca j hlt i u hu) hV)
    have HXB := Lib.hid (show ∀ V, Below w.heap.size w V → V.rangeAt b2 (off2 + j * 16) (encTx Lb[j]!) from fun V hV i u hu => keep1 (hcb j hjb i u hu) hV)
    have HCL := Lib.hid (fun V (hV : Below w.heap.size w V) => HIH.out j (by rw [HLs.out.1]; exact hlt) subs'[j]! La[j]! Lb[j]! V _ _ ((HSA.out j hlt).fr kTxOk (R' := fun _ => True) (Fr.of_below (own := []) hV) (fun b _ _ => ⟨by simp, trivial⟩)) ((HSB.out j hjb).fr kTxOk (R' := fun _ => True) (Fr.of_below (own := []) hV) (fun b _ _ => ⟨by simp, trivial⟩)) (HOK.out j (by rw [HLs.out.1]; exact hlt)) (HOK'.out j (by rw [HLs.out.2]; exact hjb)))
    have hji : (j : Int) < (ha.s.2.1 : Int) := by omega
    have hj0 : (0 : Int) ≤ (j : Int) := by omega
    have hmx := HMs.out
    clear hca hcb hjb
    generalize La[j]! = xa at *
    generalize Lb[j]! = xb at *
    have HSS := Lib.hid (fun (V : World) (hV : Below wr.heap.size wr V) => (show V.cell? ⟨w.heap.size, 15, none⟩ = some (.slice (some ⟨b, off, none⟩) ha.s.2.1 ha.s.2.2) ∧ V.cell? ⟨w.heap.size + 1, 15, none⟩ = some (.slice (some ⟨b2, off2, none⟩) ha.s.2.1 hb.s.2.2) ∧ V.rangeAt b (off + j * 16) (encTx xa) ∧ V.rangeAt b2 (off2 + j * 16) (encTx xb) from ⟨by rw [keep1 ya hV, ← ea], by rw [keep1 yb hV, ← eb, E14.out], HXA.out V (HBR.out.trans (hV.mono HBR.out.size)), HXB.out V (HBR.out.trans (hV.mono HBR.out.size))⟩))
    clear HXA HXB
    go_upto_region 18 with fail
    clear ya yb ea eb
    refine wp_region_M (S := fun V => V.cell? ⟨w.heap.size, 15, none⟩ = some (.slice (some ⟨b, off, none⟩) ha.s.2.1 ha.s.2.2) ∧ V.cell? ⟨w.heap.size + 1, 15, none⟩ = some (.slice (some ⟨b2, off2, none⟩) ha.s.2.1 hb.s.2.2) ∧ V.rangeAt b (off + j * 16) (encTx xa) ∧ V.rangeAt b2 (off2 + j * 16) (encTx xb)) 12 (by kernel_rfl) (HSS.out _ (drew_self wr)) (fun hHeld => ?_)
    have HBD := Lib.hid (drew_self wr)
    have HB2 := Lib.hid (HBR.out.trans (HBD.out.mono HBR.out.size))
    have HB3 := Lib.hid (HBW.out.trans (HBD.out.mono HBW.out.size))
    generalize wr.drew = V0 at *
    refine wpAnyM_take (i := 0) (v := .pointer (some ⟨w.heap.size, 15, none⟩)) rfl (by kernel_rfl) (fun _ _ _ h => h) (Or.inl ⟨by rfl, by intro w hSw; clear hSw; go_simp⟩) (by assumption) ?_
    (try simp only [List.getElem_toArray, List.getElem_cons_succ, List.getElem_cons_zero, Act.put, List.setIfInBounds_toArray, List.set_cons_zero, List.set_cons_succ])
    refine wpAnyM_take (i := 1) (v := .slice (some ⟨b, off, none⟩) ha.s.2.1 ha.s.2.2) rfl (by kernel_rfl) (fun _ _ _ h => h) (Or.inl ⟨by rfl, by intro w hSw; have hSx := hSw.1; clear hSw; go_simp⟩) (by assumption) ?_
    (try simp only [List.getElem_toArray, List.getElem_cons_succ, List.getElem_cons_zero, Act.put, List.setIfInBounds_toArray, List.set_cons_zero, List.set_cons_succ])
    refine wpAnyM_take (i := 2) (v := .int .i64 ↑j) rfl (by kernel_rfl) (fun _ _ _ h => h) (Or.inl ⟨by rfl, by intro w hSw; clear hSw; go_simp⟩) (by assumption) ?_
    (try simp only [List.getElem_toArray, List.getElem_cons_succ, List.getElem_cons_zero, Act.put, List.setIfInBounds_toArray, List.set_cons_zero, List.set_cons_succ])
    refine wpAnyM_take (i := 3) (v := .pointer (some ⟨b, off + j * 16, none⟩)) rfl (by kernel_rfl) (fun _ _ _ h => h) (Or.inl ⟨by rfl, by intro w hSw; clear hSw; go_simp⟩) (by assumption) ?_
    (try simp only [List.getElem_toArray, List.getElem_cons_succ, List.getElem_cons_zero, Act.put, List.setIfInBounds_toArray, List.set_cons_zero, List.set_cons_succ])
    refine wpAnyM_take (i := 4) (v := .agg (encTx xa).toArray) rfl (by kernel_rfl) (fun _ _ _ h => h) (yieldsIf_load_mid (by rfl) 33 _ rfl b (off + j * 16) rfl (encTx xa) _ (fun _ h => h.2.2.1) undTx rfl infTx) (by assumption) ?_
    (try simp only [List.getElem_toArray, List.getElem_cons_succ, List.getElem_cons_zero, Act.put, List.setIfInBounds_toArray, List.set_cons_zero, List.set_cons_succ])
    refine wpAnyM_take (i := 5) (v := .pointer (some ⟨w.heap.size + 1, 15, none⟩)) rfl (by kernel_rfl) (fun _ _ _ h => h) (Or.inl ⟨by rfl, by intro w hSw; clear hSw; go_simp⟩) (by assumption) ?_
    (try simp only [List.getElem_toArray, List.getElem_cons_succ, List.getElem_cons_zero, Act.put, List.setIfInBounds_toArray, List.set_cons_zero, List.set_cons_succ])
    refine wpAnyM_take (i := 6) (v := .slice (some ⟨b2, off2, none⟩) ha.s.2.1 hb.s.2.2) rfl (by kernel_rfl) (fun _ _ _ h => h) (Or.inl ⟨by rfl, by intro w hSw; have hSx := hSw.2.1; clear hSw; go_simp⟩) (by assumption) ?_
    (try simp only [List.getElem_toArray, List.getElem_cons_succ, List.getElem_cons_zero, Act.put, List.setIfInBounds_toArray, List.set_cons_zero, List.set_cons_succ])
    refine wpAnyM_take (i := 7) (v := .int .i64 ↑j) rfl (by kernel_rfl) (fun _ _ _ h => h) (Or.inl ⟨by rfl, by intro w hSw; clear hSw; go_simp⟩) (by assumption) ?_
    (try simp only [List.getElem_toArray, List.getElem_cons_succ, List.getElem_cons_zero, Act.put, List.setIfInBounds_toArray, List.set_cons_zero, List.set_cons_succ])
    refine wpAnyM_take (i := 8) (v := .pointer (some ⟨b2, off2 + j * 16, none⟩)) rfl (by kernel_rfl) (fun _ _ _ h => h) (Or.inl ⟨by rfl, by intro w hSw; clear hSw; go_simp⟩) (by assumption) ?_
    (try simp only [List.getElem_toArray, List.getElem_cons_succ, List.getElem_cons_zero, Act.put, List.setIfInBounds_toArray, List.set_cons_zero, List.set_cons_succ])
    refine wpAnyM_take (i := 9) (v := .agg (encTx xb).toArray) rfl (by kernel_rfl) (fun _ _ _ h => h) (yieldsIf_load_mid (by rfl) 33 _ rfl b2 (off2 + j * 16) rfl (encTx xb) _ (fun _ h => h.2.2.2) undTx rfl infTx) (by assumption) ?_
    (try simp only [List.getElem_toArray, List.getElem_cons_succ, List.getElem_cons_zero, Act.put, List.setIfInBounds_toArray, List.set_cons_zero, List.set_cons_succ])
    by_cases heq : subs[j]! = subs'[j]!
    rotate_left
    · have HEQ := Lib.hid (sameT_ne heq)
      have HNE := Lib.hid (show ¬ Tr.mk v subs = Tr.mk u subs' from fun e => heq (by rw [(HEA.out e).2]))
      clear heq
      refine wpAnyM_one (i := 10) rfl (by kernel_rfl) (fun K hK => ?_)
      go_simp
      refine (HCL.out V0 HB2.out).mono ?_
      rintro e w5 ⟨rfl, hb5⟩
      rw [HEQ.out]
      dsimp only
      replace hHeld := HSS.out _ (HBD.out.trans (hb5.mono HBD.out.size))
      refine hK.out _ _ hHeld ?_
      have HB5 := Lib.hid (HB3.out.trans (hb5.mono HB3.out.size))
      clear hK K hb5 HB3 HB2 HBD HCL
      (try simp only [List.getElem_toArray, List.getElem_cons_succ, List.getElem_cons_zero, Act.put, List.setIfInBounds_toArray, List.set_cons_zero, List.set_cons_succ])
      refine wpAnyM_take (i := 11) (v := .bool true) rfl (by kernel_rfl) (fun _ _ _ h => h) (Or.inl ⟨by rfl, by intro w hSw; clear hSw; go_simp⟩) (by assumption) ?_
      (try simp only [List.getElem_toArray, List.getElem_cons_succ, List.getElem_cons_zero, Act.put, List.setIfInBounds_toArray, List.set_cons_zero, List.set_cons_succ])
      clear hHeld HSS
      refine wpAnyM_tail (n := 12) (by kernel_rfl) ?_
      simp only [List.drop_succ_cons, List.drop_zero]
      go_wp2_with fail
      go_ret
      exact RetB.mk (HB.out.trans (HB5.out.mono HB.out.size)) (sameT_ne HNE.out).symm
    have HEQ := Lib.hid (sameT_eq heq)
    have HQs := Lib.hid (show ∀ k, k < j + 1 → subs[k]! = subs'[k]! from fun k hk => by
      rcases Nat.lt_succ_iff_lt_or_eq.1 hk with h | rfl
      · exact HALs.out k h
      · exact heq)
    clear heq
    refine wpAnyM_one (i := 10) rfl (by kernel_rfl) (fun K hK => ?_)
    go_simp
    refine (HCL.out V0 HB2.out).mono ?_
    rintro e w5 ⟨rfl, hb5⟩
    rw [HEQ.out]
    dsimp only
    replace hHeld := HSS.out _ (HBD.out.trans (hb5.mono HBD.out.size))
    refine hK.out _ _ hHeld ?_
    have HB5 := Lib.hid (HB3.out.trans (hb5.mono HB3.out.size))
    clear hK K hb5 HB3 HB2 HBD HCL
    (try simp only [List.getElem_toArray, List.getElem_cons_succ, List.getElem_cons_zero, Act.put, List.setIfInBounds_toArray, List.set_cons_zero, List.set_cons_succ])
    refine wpAnyM_take (i := 11) (v := .bool false) rfl (by kernel_rfl) (fun _ _ _ h => h) (Or.inl ⟨by rfl, by intro w hSw; clear hSw; go_simp⟩) (by assumption) ?_
    (try simp only [List.getElem_toArray, List.getElem_cons_succ, List.getElem_cons_zero, Act.put, List.setIfInBounds_toArray, List.set_cons_zero, List.set_cons_succ])
    clear hHeld HSS
    refine wpAnyM_tail (n := 12) (by kernel_rfl) ?_
    simp only [List.drop_succ_cons, List.drop_zero]
    go_wp2_with fail
    go_roundw
    case rel => exact ⟨j + 1, by go_num, by omega, HB5.out, HQs.out⟩
    case measure => simp [RowKit.intOf]; omega
  obtain rfl : j = ha.s.2.1 := by omega
  have HSM := Lib.hid (show Tr.mk v subs = Tr.mk u subs' from by
    have e1 : subs = subs' := list_same (by rw [HLs.out.1, HLs.out.2, E14.out]) (fun k hk => HALs.out k (by rw [← HLs.out.1]; exact hk))
    have e2 : v = u := by
      have hn : v.n = u.n := by
        rw [HNA.out, HNB.out]
        have e8 := E8.out
        have e := E1.out; have e2 := E2.out; have e5 := E5.out; have e6 := E6.out; have e7 := E7.out; have e9 := E9.out; have e10 := E10.out; have e13 := E13.out
        simp only [Prod.mk.injEq] at e8
        obtain ⟨q1, q2, q3⟩ := e8
        cases hx : ha.n; cases hy : hb.n
        simp only [hx, hy] at *
        simp_all
      have hd : v.data = u.data := E3.out
      have hacl := E4.out; have hi := HZi.out; have hp := HZp.out
      cases v; cases u
      simp_all
    rw [e1, e2])
  go_wp2_with fail
  go_ret
  exact RetB.mk (HB.out.trans (HBW.out.mono HB.out.size)) (sameT_eq HSM.out).symm
end Go.Proofs.YthpjneobmmpbnaaGreatDoor
