/- Two results that are read the same: the document's comparison says so. -/
import Derived.Test.YtbpmmmnphpkdjaaGreatDoorWRfK
import Derived.Test.YtbpmmmnphpkdjaaGreatDoorWRfG
import Derived.Test.YtbpmmmnphpkdjaaGreatDoorWVtr
import Derived.Test.YtbpmmmnphpkdjaaGreatDoorWQueB
namespace Go.Proofs.YtbpmmmnphpkdjaaGreatDoor
set_option linter.unusedSimpArgs false
set_option maxRecDepth 100000
set_option maxHeartbeats 20000000
open Go.RowKit Go.MapKept Go.Maps
theorem qjC : ∀ (t : RsT) (ha hb : RsH) (w : World) (Ra Rb : Nat → Prop), RsAt w Ra ha t → RsAt w Rb hb t → RsOk 1048576 t → Calls Tryz.prog 116 #[rsV ha, rsV hb] w (RetB w true) := by
 refine Tr.ind ?_
 intro v subs ih ha hb w Ra Rb ta tb hok
 have hla := ta.loc; have hlb := tb.loc
 obtain ⟨La, hLa, hsa⟩ := ta.subs_at
 obtain ⟨Lb, hLb, hsb⟩ := tb.subs_at
 have hlena := ta.len; have hlenb := tb.len
 have hsm := hok.top
 have hn : hb.n = ha.n := hlb.1.symm.trans hla.1
 have hb0 : Below w.heap.size w ((w.alloc (.cells (rwRs ha) 59)).alloc (.cells #[.int .i32 ha.n.ty, .int .i32 ha.n.co, .string ha.n.path, .int .i64 ha.n.q.a, .int .i64 ha.n.q.b, .int .i64 ha.n.q.c, .int .i64 ha.n.q.d, .int .i32 ha.n.q.e, .int .i32 ha.n.q.f, .int .i32 ha.n.q.g, .int .i64 ha.n.q.h, .int .i32 ha.n.q.i, .int .i32 ha.n.q.j, .int .i64 ha.n.q.k, slV hb.d, slV hb.a, slV hb.m, .int .i32 ha.n.ct, .int .i64 ha.n.si, .int .i32 ha.n.st, slV hb.i, slV hb.s] 59)) := ((Below.refl _ w).alloc (Nat.le_refl _) _).alloc (by simp) _
 have HGA := Lib.hid (qaa (qab w (.cells (rwRs ha) 59)) : ((w.alloc (.cells (rwRs ha) 59)).alloc (.cells #[.int .i32 ha.n.ty, .int .i32 ha.n.co, .string ha.n.path, .int .i64 ha.n.q.a, .int .i64 ha.n.q.b, .int .i64 ha.n.q.c, .int .i64 ha.n.q.d, .int .i32 ha.n.q.e, .int .i32 ha.n.q.f, .int .i32 ha.n.q.g, .int .i64 ha.n.q.h, .int .i32 ha.n.q.i, .int .i32 ha.n.q.j, .int .i64 ha.n.q.k, slV hb.d, slV hb.a, slV hb.m, .int .i32 ha.n.ct, .int .i64 ha.n.si, .int .i32 ha.n.st, slV hb.i, slV hb.s] 59)).heap[w.heap.size]? = _)
 have HGB := Lib.hid (qae w (.cells (rwRs ha) 59) (.cells #[.int .i32 ha.n.ty, .int .i32 ha.n.co, .string ha.n.path, .int .i64 ha.n.q.a, .int .i64 ha.n.q.b, .int .i64 ha.n.q.c, .int .i64 ha.n.q.d, .int .i32 ha.n.q.e, .int .i32 ha.n.q.f, .int .i32 ha.n.q.g, .int .i64 ha.n.q.h, .int .i32 ha.n.q.i, .int .i32 ha.n.q.j, .int .i64 ha.n.q.k, slV hb.d, slV hb.a, slV hb.m, .int .i32 ha.n.ct, .int .i64 ha.n.si, .int .i32 ha.n.st, slV hb.i, slV hb.s] 59))
 have HSZ := Lib.hid (show w.heap.size + 2 ≤ ((w.alloc (.cells (rwRs ha) 59)).alloc (.cells #[.int .i32 ha.n.ty, .int .i32 ha.n.co, .string ha.n.path, .int .i64 ha.n.q.a, .int .i64 ha.n.q.b, .int .i64 ha.n.q.c, .int .i64 ha.n.q.d, .int .i32 ha.n.q.e, .int .i32 ha.n.q.f, .int .i32 ha.n.q.g, .int .i64 ha.n.q.h, .int .i32 ha.n.q.i, .int .i32 ha.n.q.j, .int .i64 ha.n.q.k, slV hb.d, slV hb.a, slV hb.m, .int .i32 ha.n.ct, .int .i64 ha.n.si, .int .i32 ha.n.st, slV hb.i, slV hb.s] 59)).heap.size from by simp)
 have HB := Lib.hid hb0
 have HEm := Lib.hid (show hb.m.2.1 = ha.m.2.1 from hlb.2.2.2.1.len.symm.trans hla.2.2.2.1.len)
 have HAm := Lib.hid (show Sl _ _ qay 1 ha.m.1 ha.m.2.1 v.names from (hla.2.2.2.1.sl (fun _ => by simp [qay])).belowMore hb0 hb0.size)
 have HBm := Lib.hid (show Sl _ _ qay 1 hb.m.1 hb.m.2.1 v.names from (hlb.2.2.2.1.sl (fun _ => by simp [qay])).belowMore hb0 hb0.size)
 have HMm := Lib.hid (show ha.m.2.1 ≤ 1048576 by have h1 := hsm.2.2.2.2.1; have h2 := hla.2.2.2.1.1; simp only [Tr.v, Tr.subs] at *; omega)
 have HEs := Lib.hid (show hb.s.2.1 = ha.s.2.1 from hlenb.symm.trans hlena)
 have HSL := Lib.hid (show subs.length = ha.s.2.1 from hlena)
 have HMs := Lib.hid (show ha.s.2.1 ≤ 1048576 by have h1 := hsm.2.2.2.2.2.2.1; rw [hlena] at h1; exact h1)
 have HRA := Lib.hid hLa; have HRB := Lib.hid hLb; have HSA := Lib.hid hsa; have HSB := Lib.hid hsb
 have HIH := Lib.hid ih; have HOK := Lib.hid (fun k (hk : k < subs.length) => hok.subAt (j := k) hk)
 have hca := fun (W : World) (hW : Below w.heap.size w W) => qdY (hla.2.1.fr (R' := fun _ => True) (Fr.of_below (own := []) hW) (fun b _ _ => ⟨by simp, trivial⟩) (fun _ => by simp [enc8]))
 have hcb := fun (W : World) (hW : Below w.heap.size w W) => qdY (hlb.2.1.fr (R' := fun _ => True) (Fr.of_below (own := []) hW) (fun b _ _ => ⟨by simp, trivial⟩) (fun _ => by simp [enc8]))
 have hcva := hca _ hb0; have hcvb := hcb _ hb0
 have HAC := Lib.hid (fun (W : World) (hW : Below w.heap.size w W) => show Calls Tryz.prog 146 #[slV ha.a, slV hb.a] W (QuietB W true) from (decide_eq_true (show v.acl = v.acl from rfl)) ▸ qiy ha.a.1 hb.a.1 ha.a.2.1 hb.a.2.1 ha.a.2.2 hb.a.2.2 v.acl v.acl W W.heap.size ((hla.2.2.1.sl (fun _ => by simp [qao])).belowMore hW hW.size) ((hlb.2.2.1.sl (fun _ => by simp [qao])).belowMore hW hW.size) (by have h1 := hsm.2.2.2.1; have h2 := hla.2.2.1.1; simp only [Tr.v, Tr.subs] at *; omega) (by have h1 := hsm.2.2.2.1; have h2 := hlb.2.2.1.1; simp only [Tr.v, Tr.subs] at *; omega))
 have HSE := Lib.hid (fun (W : World) (hW : Below w.heap.size w W) => show Calls Tryz.prog 55 #[.agg #[.int .i64 ha.n.si, .int .i32 ha.n.st, slV ha.i], .agg #[.int .i64 ha.n.si, .int .i32 ha.n.st, slV hb.i]] W (RetB W true) from (decide_eq_true (show (ha.n.si, ha.n.st, v.ids) = (ha.n.si, ha.n.st, v.ids) from rfl)) ▸ qiO ha.n.si ha.n.st ha.i.1 ha.i.2.1 ha.i.2.2 v.ids ha.n.si ha.n.st hb.i.1 hb.i.2.1 hb.i.2.2 v.ids W ((hla.2.2.2.2.sl (fun _ => by simp [qaz])).belowMore hW hW.size) ((hlb.2.2.2.2.sl (fun _ => by simp [qaz])).belowMore hW hW.size) (by have h1 := hsm.2.2.2.2.2.1; have h2 := hla.2.2.2.2.1; simp only [Tr.v, Tr.subs] at *; omega))
 clear ta tb hla hlb hLa hLb hsa hsb hlena hlenb hsm ih hok hca hcb hb0
 unfold rsV
 rw [hn]
 clear hn
 go_enter Tryz.func116, Tryz.ntmps116
 go_upto_region 1 with fail
 generalize (w.alloc (.cells (rwRs ha) 59)).alloc (.cells #[.int .i32 ha.n.ty, .int .i32 ha.n.co, .string ha.n.path, .int .i64 ha.n.q.a, .int .i64 ha.n.q.b, .int .i64 ha.n.q.c, .int .i64 ha.n.q.d, .int .i32 ha.n.q.e, .int .i32 ha.n.q.f, .int .i32 ha.n.q.g, .int .i64 ha.n.q.h, .int .i32 ha.n.q.i, .int .i32 ha.n.q.j, .int .i64 ha.n.q.k, slV hb.d, slV hb.a, slV hb.m, .int .i32 ha.n.ct, .int .i64 ha.n.si, .int .i32 ha.n.st, slV hb.i, slV hb.s] 59) = W at *
 generalize (Value.agg (rwRs ha)) = arg0 at *
 generalize (Value.agg #[.int .i32 ha.n.ty, .int .i32 ha.n.co, .string ha.n.path, .int .i64 ha.n.q.a, .int .i64 ha.n.q.b, .int .i64 ha.n.q.c, .int .i64 ha.n.q.d, .int .i32 ha.n.q.e, .int .i32 ha.n.q.f, .int .i32 ha.n.q.g, .int .i64 ha.n.q.h, .int .i32 ha.n.q.i, .int .i32 ha.n.q.j, .int .i64 ha.n.q.k, slV hb.d, slV hb.a, slV hb.m, .int .i32 ha.n.ct, .int .i64 ha.n.si, .int .i32 ha.n.st, slV hb.i, slV hb.s]) = arg1 at *
 have DA0 := Lib.hid (show ∀ V : World, Below W.heap.size W V → V.cell? ⟨w.heap.size, 0, none⟩ = some (.int .i32 ha.n.ty) from fun V hV => by rw [qaf ((hV.block _ (by have := HSZ.out; omega)).trans HGA.out)]; rfl)
 have DB0 := Lib.hid (show ∀ V : World, Below W.heap.size W V → V.cell? ⟨w.heap.size + 1, 0, none⟩ = some (.int .i32 ha.n.ty) from fun V hV => by rw [qaf ((hV.block _ (by have := HSZ.out; omega)).trans HGB.out)]; rfl)
 have xa0 := DA0.out W (Below.refl _ _); have xb0 := DB0.out W (Below.refl _ _)
 have DA1 := Lib.hid (show ∀ V : World, Below W.heap.size W V → V.cell? ⟨w.heap.size, 1, none⟩ = some (.int .i32 ha.n.co) from fun V hV => by rw [qaf ((hV.block _ (by have := HSZ.out; omega)).trans HGA.out)]; rfl)
 have DB1 := Lib.hid (show ∀ V : World, Below W.heap.size W V → V.cell? ⟨w.heap.size + 1, 1, none⟩ = some (.int .i32 ha.n.co) from fun V hV => by rw [qaf ((hV.block _ (by have := HSZ.out; omega)).trans HGB.out)]; rfl)
 have xa1 := DA1.out W (Below.refl _ _); have xb1 := DB1.out W (Below.refl _ _)
 have DA2 := Lib.hid (show ∀ V : World, Below W.heap.size W V → V.cell? ⟨w.heap.size, 2, none⟩ = some (.string ha.n.path) from fun V hV => by rw [qaf ((hV.block _ (by have := HSZ.out; omega)).trans HGA.out)]; rfl)
 have DB2 := Lib.hid (show ∀ V : World, Below W.heap.size W V → V.cell? ⟨w.heap.size + 1, 2, none⟩ = some (.string ha.n.path) from fun V hV => by rw [qaf ((hV.block _ (by have := HSZ.out; omega)).trans HGB.out)]; rfl)
 have xa2 := DA2.out W (Below.refl _ _); have xb2 := DB2.out W (Below.refl _ _)
 have DA3 := Lib.hid (show ∀ V : World, Below W.heap.size W V → V.cell? ⟨w.heap.size, 3, none⟩ = some (.int .i64 ha.n.q.a) from fun V hV => by rw [qaf ((hV.block _ (by have := HSZ.out; omega)).trans HGA.out)]; rfl)
 have DB3 := Lib.hid (show ∀ V : World, Below W.heap.size W V → V.cell? ⟨w.heap.size + 1, 3, none⟩ = some (.int .i64 ha.n.q.a) from fun V hV => by rw [qaf ((hV.block _ (by have := HSZ.out; omega)).trans HGB.out)]; rfl)
 have xa3 := DA3.out W (Below.refl _ _); have xb3 := DB3.out W (Below.refl _ _)
 have DA4 := Lib.hid (show ∀ V : World, Below W.heap.size W V → V.cell? ⟨w.heap.size, 4, none⟩ = some (.int .i64 ha.n.q.b) from fun V hV => by rw [qaf ((hV.block _ (by have := HSZ.out; omega)).trans HGA.out)]; rfl)
 have DB4 := Lib.hid (show ∀ V : World, Below W.heap.size W V → V.cell? ⟨w.heap.size + 1, 4, none⟩ = some (.int .i64 ha.n.q.b) from fun V hV => by rw [qaf ((hV.block _ (by have := HSZ.out; omega)).trans HGB.out)]; rfl)
 have xa4 := DA4.out W (Below.refl _ _); have xb4 := DB4.out W (Below.refl _ _)
 have DA5 := Lib.hid (show ∀ V : World, Below W.heap.size W V → V.cell? ⟨w.heap.size, 5, none⟩ = some (.int .i64 ha.n.q.c) from fun V hV => by rw [qaf ((hV.block _ (by have := HSZ.out; omega)).trans HGA.out)]; rfl)
 have DB5 := Lib.hid (show ∀ V : World, Below W.heap.size W V → V.cell? ⟨w.heap.size + 1, 5, none⟩ = some (.int .i64 ha.n.q.c) from fun V hV => by rw [qaf ((hV.block _ (by have := HSZ.out; omega)).trans HGB.out)]; rfl)
 have xa5 := DA5.out W (Below.refl _ _); have xb5 := DB5.out W (Below.refl _ _)
 have DA6 := Lib.hid (show ∀ V : World, Below W.heap.size W V → V.cell? ⟨w.heap.size, 6, none⟩ = some (.int .i64 ha.n.q.d) from fun V hV => by rw [qaf ((hV.block _ (by have := HSZ.out; omega)).trans HGA.out)]; rfl)
 have DB6 := Lib.hid (show ∀ V : World, Below W.heap.size W V → V.cell? ⟨w.heap.size + 1, 6, none⟩ = some (.int .i64 ha.n.q.d) from fun V hV => by rw [qaf ((hV.block _ (by have := HSZ.out; omega)).trans HGB.out)]; rfl)
 have xa6 := DA6.out W (Below.refl _ _); have xb6 := DB6.out W (Below.refl _ _)
 have DA7 := Lib.hid (show ∀ V : World, Below W.heap.size W V → V.cell? ⟨w.heap.size, 7, none⟩ = some (.int .i32 ha.n.q.e) from fun V hV => by rw [qaf ((hV.block _ (by have := HSZ.out; omega)).trans HGA.out)]; rfl)
 have DB7 := Lib.hid (show ∀ V : World, Below W.heap.size W V → V.cell? ⟨w.heap.size + 1, 7, none⟩ = some (.int .i32 ha.n.q.e) from fun V hV => by rw [qaf ((hV.block _ (by have := HSZ.out; omega)).trans HGB.out)]; rfl)
 have xa7 := DA7.out W (Below.refl _ _); have xb7 := DB7.out W (Below.refl _ _)
 have DA8 := Lib.hid (show ∀ V : World, Below W.heap.size W V → V.cell? ⟨w.heap.size, 8, none⟩ = some (.int .i32 ha.n.q.f) from fun V hV => by rw [qaf ((hV.block _ (by have := HSZ.out; omega)).trans HGA.out)]; rfl)
 have DB8 := Lib.hid (show ∀ V : World, Below W.heap.size W V → V.cell? ⟨w.heap.size + 1, 8, none⟩ = some (.int .i32 ha.n.q.f) from fun V hV => by rw [qaf ((hV.block _ (by have := HSZ.out; omega)).trans HGB.out)]; rfl)
 have xa8 := DA8.out W (Below.refl _ _); have xb8 := DB8.out W (Below.refl _ _)
 have DA9 := Lib.hid (show ∀ V : World, Below W.heap.size W V → V.cell? ⟨w.heap.size, 9, none⟩ = some (.int .i32 ha.n.q.g) from fun V hV => by rw [qaf ((hV.block _ (by have := HSZ.out; omega)).trans HGA.out)]; rfl)
 have DB9 := Lib.hid (show ∀ V : World, Below W.heap.size W V → V.cell? ⟨w.heap.size + 1, 9, none⟩ = some (.int .i32 ha.n.q.g) from fun V hV => by rw [qaf ((hV.block _ (by have := HSZ.out; omega)).trans HGB.out)]; rfl)
 have xa9 := DA9.out W (Below.refl _ _); have xb9 := DB9.out W (Below.refl _ _)
 have DA10 := Lib.hid (show ∀ V : World, Below W.heap.size W V → V.cell? ⟨w.heap.size, 10, none⟩ = some (.int .i64 ha.n.q.h) from fun V hV => by rw [qaf ((hV.block _ (by have := HSZ.out; omega)).trans HGA.out)]; rfl)
 have DB10 := Lib.hid (show ∀ V : World, Below W.heap.size W V → V.cell? ⟨w.heap.size + 1, 10, none⟩ = some (.int .i64 ha.n.q.h) from fun V hV => by rw [qaf ((hV.block _ (by have := HSZ.out; omega)).trans HGB.out)]; rfl)
 have xa10 := DA10.out W (Below.refl _ _); have xb10 := DB10.out W (Below.refl _ _)
 have DA11 := Lib.hid (show ∀ V : World, Below W.heap.size W V → V.cell? ⟨w.heap.size, 11, none⟩ = some (.int .i32 ha.n.q.i) from fun V hV => by rw [qaf ((hV.block _ (by have := HSZ.out; omega)).trans HGA.out)]; rfl)
 have DB11 := Lib.hid (show ∀ V : World, Below W.heap.size W V → V.cell? ⟨w.heap.size + 1, 11, none⟩ = some (.int .i32 ha.n.q.i) from fun V hV => by rw [qaf ((hV.block _ (by have := HSZ.out; omega)).trans HGB.out)]; rfl)
 have xa11 := DA11.out W (Below.refl _ _); have xb11 := DB11.out W (Below.refl _ _)
 have DA12 := Lib.hid (show ∀ V : World, Below W.heap.size W V → V.cell? ⟨w.heap.size, 12, none⟩ = some (.int .i32 ha.n.q.j) from fun V hV => by rw [qaf ((hV.block _ (by have := HSZ.out; omega)).trans HGA.out)]; rfl)
 have DB12 := Lib.hid (show ∀ V : World, Below W.heap.size W V → V.cell? ⟨w.heap.size + 1, 12, none⟩ = some (.int .i32 ha.n.q.j) from fun V hV => by rw [qaf ((hV.block _ (by have := HSZ.out; omega)).trans HGB.out)]; rfl)
 have xa12 := DA12.out W (Below.refl _ _); have xb12 := DB12.out W (Below.refl _ _)
 have DA13 := Lib.hid (show ∀ V : World, Below W.heap.size W V → V.cell? ⟨w.heap.size, 13, none⟩ = some (.int .i64 ha.n.q.k) from fun V hV => by rw [qaf ((hV.block _ (by have := HSZ.out; omega)).trans HGA.out)]; rfl)
 have DB13 := Lib.hid (show ∀ V : World, Below W.heap.size W V → V.cell? ⟨w.heap.size + 1, 13, none⟩ = some (.int .i64 ha.n.q.k) from fun V hV => by rw [qaf ((hV.block _ (by have := HSZ.out; omega)).trans HGB.out)]; rfl)
 have xa13 := DA13.out W (Below.refl _ _); have xb13 := DB13.out W (Below.refl _ _)
 have DA14 := Lib.hid (show ∀ V : World, Below W.heap.size W V → V.cell? ⟨w.heap.size, 14, none⟩ = some (slV ha.d) from fun V hV => by rw [qaf ((hV.block _ (by have := HSZ.out; omega)).trans HGA.out)]; rfl)
 have DB14 := Lib.hid (show ∀ V : World, Below W.heap.size W V → V.cell? ⟨w.heap.size + 1, 14, none⟩ = some (slV hb.d) from fun V hV => by rw [qaf ((hV.block _ (by have := HSZ.out; omega)).trans HGB.out)]; rfl)
 have xa14 := DA14.out W (Below.refl _ _); have xb14 := DB14.out W (Below.refl _ _)
 have DA15 := Lib.hid (show ∀ V : World, Below W.heap.size W V → V.cell? ⟨w.heap.size, 15, none⟩ = some (slV ha.a) from fun V hV => by rw [qaf ((hV.block _ (by have := HSZ.out; omega)).trans HGA.out)]; rfl)
 have DB15 := Lib.hid (show ∀ V : World, Below W.heap.size W V → V.cell? ⟨w.heap.size + 1, 15, none⟩ = some (slV hb.a) from fun V hV => by rw [qaf ((hV.block _ (by have := HSZ.out; omega)).trans HGB.out)]; rfl)
 have xa15 := DA15.out W (Below.refl _ _); have xb15 := DB15.out W (Below.refl _ _)
 have DA16 := Lib.hid (show ∀ V : World, Below W.heap.size W V → V.cell? ⟨w.heap.size, 16, none⟩ = some (slV ha.m) from fun V hV => by rw [qaf ((hV.block _ (by have := HSZ.out; omega)).trans HGA.out)]; rfl)
 have DB16 := Lib.hid (show ∀ V : World, Below W.heap.size W V → V.cell? ⟨w.heap.size + 1, 16, none⟩ = some (.slice hb.m.1 ha.m.2.1 hb.m.2.2) from fun V hV => by rw [qaf ((hV.block _ (by have := HSZ.out; omega)).trans HGB.out)]; show some (Value.slice hb.m.1 hb.m.2.1 hb.m.2.2) = _; rw [HEm.out])
 have xa16 := DA16.out W (Below.refl _ _); have xb16 := DB16.out W (Below.refl _ _)
 have DA17 := Lib.hid (show ∀ V : World, Below W.heap.size W V → V.cell? ⟨w.heap.size, 17, none⟩ = some (.int .i32 ha.n.ct) from fun V hV => by rw [qaf ((hV.block _ (by have := HSZ.out; omega)).trans HGA.out)]; rfl)
 have DB17 := Lib.hid (show ∀ V : World, Below W.heap.size W V → V.cell? ⟨w.heap.size + 1, 17, none⟩ = some (.int .i32 ha.n.ct) from fun V hV => by rw [qaf ((hV.block _ (by have := HSZ.out; omega)).trans HGB.out)]; rfl)
 have xa17 := DA17.out W (Below.refl _ _); have xb17 := DB17.out W (Below.refl _ _)
 have DA18 := Lib.hid (show ∀ V : World, Below W.heap.size W V → V.cell? ⟨w.heap.size, 18, none⟩ = some (.int .i64 ha.n.si) from fun V hV => by rw [qaf ((hV.block _ (by have := HSZ.out; omega)).trans HGA.out)]; rfl)
 have DB18 := Lib.hid (show ∀ V : World, Below W.heap.size W V → V.cell? ⟨w.heap.size + 1, 18, none⟩ = some (.int .i64 ha.n.si) from fun V hV => by rw [qaf ((hV.block _ (by have := HSZ.out; omega)).trans HGB.out)]; rfl)
 have xa18 := DA18.out W (Below.refl _ _); have xb18 := DB18.out W (Below.refl _ _)
 have DA19 := Lib.hid (show ∀ V : World, Below W.heap.size W V → V.cell? ⟨w.heap.size, 19, none⟩ = some (.int .i32 ha.n.st) from fun V hV => by rw [qaf ((hV.block _ (by have := HSZ.out; omega)).trans HGA.out)]; rfl)
 have DB19 := Lib.hid (show ∀ V : World, Below W.heap.size W V → V.cell? ⟨w.heap.size + 1, 19, none⟩ = some (.int .i32 ha.n.st) from fun V hV => by rw [qaf ((hV.block _ (by have := HSZ.out; omega)).trans HGB.out)]; rfl)
 have xa19 := DA19.out W (Below.refl _ _); have xb19 := DB19.out W (Below.refl _ _)
 have DA20 := Lib.hid (show ∀ V : World, Below W.heap.size W V → V.cell? ⟨w.heap.size, 20, none⟩ = some (slV ha.i) from fun V hV => by rw [qaf ((hV.block _ (by have := HSZ.out; omega)).trans HGA.out)]; rfl)
 have DB20 := Lib.hid (show ∀ V : World, Below W.heap.size W V → V.cell? ⟨w.heap.size + 1, 20, none⟩ = some (slV hb.i) from fun V hV => by rw [qaf ((hV.block _ (by have := HSZ.out; omega)).trans HGB.out)]; rfl)
 have xa20 := DA20.out W (Below.refl _ _); have xb20 := DB20.out W (Below.refl _ _)
 have DA21 := Lib.hid (show ∀ V : World, Below W.heap.size W V → V.cell? ⟨w.heap.size, 21, none⟩ = some (slV ha.s) from fun V hV => by rw [qaf ((hV.block _ (by have := HSZ.out; omega)).trans HGA.out)]; rfl)
 have DB21 := Lib.hid (show ∀ V : World, Below W.heap.size W V → V.cell? ⟨w.heap.size + 1, 21, none⟩ = some (.slice hb.s.1 ha.s.2.1 hb.s.2.2) from fun V hV => by rw [qaf ((hV.block _ (by have := HSZ.out; omega)).trans HGB.out)]; show some (Value.slice hb.s.1 hb.s.2.1 hb.s.2.2) = _; rw [HEs.out])
 have xa21 := DA21.out W (Below.refl _ _); have xb21 := DB21.out W (Below.refl _ _)
 go_wp2_with fail
 refine (HAC.out W HB.out).mono ?_
 rintro e w1 ⟨rfl, q1, rfl⟩
 have HV1 := Lib.hid (qbl W q1)
 clear xa0 xb0 xa1 xb1 xa2 xb2 xa3 xb3 xa4 xb4 xa5 xb5 xa6 xb6 xa7 xb7 xa8 xb8 xa9 xb9 xa10 xb10 xa11 xb11 xa12 xb12 xa13 xb13 xa14 xb14 xa15 xb15 xa16 xb16 xa17 xb17 xa18 xb18 xa19 xb19 xa20 xb20 xa21 xb21 hcva hcvb
 generalize W.drewN q1 = V1 at *
 have xa0 := DA0.out V1 HV1.out; have xb0 := DB0.out V1 HV1.out
 have xa1 := DA1.out V1 HV1.out; have xb1 := DB1.out V1 HV1.out
 have xa2 := DA2.out V1 HV1.out; have xb2 := DB2.out V1 HV1.out
 have xa3 := DA3.out V1 HV1.out; have xb3 := DB3.out V1 HV1.out
 have xa4 := DA4.out V1 HV1.out; have xb4 := DB4.out V1 HV1.out
 have xa5 := DA5.out V1 HV1.out; have xb5 := DB5.out V1 HV1.out
 have xa6 := DA6.out V1 HV1.out; have xb6 := DB6.out V1 HV1.out
 have xa7 := DA7.out V1 HV1.out; have xb7 := DB7.out V1 HV1.out
 have xa8 := DA8.out V1 HV1.out; have xb8 := DB8.out V1 HV1.out
 have xa9 := DA9.out V1 HV1.out; have xb9 := DB9.out V1 HV1.out
 have xa10 := DA10.out V1 HV1.out; have xb10 := DB10.out V1 HV1.out
 have xa11 := DA11.out V1 HV1.out; have xb11 := DB11.out V1 HV1.out
 have xa12 := DA12.out V1 HV1.out; have xb12 := DB12.out V1 HV1.out
 have xa13 := DA13.out V1 HV1.out; have xb13 := DB13.out V1 HV1.out
 have xa14 := DA14.out V1 HV1.out; have xb14 := DB14.out V1 HV1.out
 have xa15 := DA15.out V1 HV1.out; have xb15 := DB15.out V1 HV1.out
 have xa16 := DA16.out V1 HV1.out; have xb16 := DB16.out V1 HV1.out
 have xa17 := DA17.out V1 HV1.out; have xb17 := DB17.out V1 HV1.out
 have xa18 := DA18.out V1 HV1.out; have xb18 := DB18.out V1 HV1.out
 have xa19 := DA19.out V1 HV1.out; have xb19 := DB19.out V1 HV1.out
 have xa20 := DA20.out V1 HV1.out; have xb20 := DB20.out V1 HV1.out
 have xa21 := DA21.out V1 HV1.out; have xb21 := DB21.out V1 HV1.out
 go_wp2_with fail
 refine (HSE.out V1 (HB.out.trans (HV1.out.mono HB.out.size))).mono ?_
 rintro e V2 ⟨rfl, hb2⟩
 have HV2 := Lib.hid (HV1.out.trans (hb2.mono HV1.out.size))
 clear hb2 HV1 xa0 xb0 xa1 xb1 xa2 xb2 xa3 xb3 xa4 xb4 xa5 xb5 xa6 xb6 xa7 xb7 xa8 xb8 xa9 xb9 xa10 xb10 xa11 xb11 xa12 xb12 xa13 xb13 xa14 xb14 xa15 xb15 xa16 xb16 xa17 xb17 xa18 xb18 xa19 xb19 xa20 xb20 xa21 xb21
 have xa0 := DA0.out V2 HV2.out; have xb0 := DB0.out V2 HV2.out
 have xa1 := DA1.out V2 HV2.out; have xb1 := DB1.out V2 HV2.out
 have xa2 := DA2.out V2 HV2.out; have xb2 := DB2.out V2 HV2.out
 have xa3 := DA3.out V2 HV2.out; have xb3 := DB3.out V2 HV2.out
 have xa4 := DA4.out V2 HV2.out; have xb4 := DB4.out V2 HV2.out
 have xa5 := DA5.out V2 HV2.out; have xb5 := DB5.out V2 HV2.out
 have xa6 := DA6.out V2 HV2.out; have xb6 := DB6.out V2 HV2.out
 have xa7 := DA7.out V2 HV2.out; have xb7 := DB7.out V2 HV2.out
 have xa8 := DA8.out V2 HV2.out; have xb8 := DB8.out V2 HV2.out
 have xa9 := DA9.out V2 HV2.out; have xb9 := DB9.out V2 HV2.out
 have xa10 := DA10.out V2 HV2.out; have xb10 := DB10.out V2 HV2.out
 have xa11 := DA11.out V2 HV2.out; have xb11 := DB11.out V2 HV2.out
 have xa12 := DA12.out V2 HV2.out; have xb12 := DB12.out V2 HV2.out
 have xa13 := DA13.out V2 HV2.out; have xb13 := DB13.out V2 HV2.out
 have xa14 := DA14.out V2 HV2.out; have xb14 := DB14.out V2 HV2.out
 have xa15 := DA15.out V2 HV2.out; have xb15 := DB15.out V2 HV2.out
 have xa16 := DA16.out V2 HV2.out; have xb16 := DB16.out V2 HV2.out
 have xa17 := DA17.out V2 HV2.out; have xb17 := DB17.out V2 HV2.out
 have xa18 := DA18.out V2 HV2.out; have xb18 := DB18.out V2 HV2.out
 have xa19 := DA19.out V2 HV2.out; have xb19 := DB19.out V2 HV2.out
 have xa20 := DA20.out V2 HV2.out; have xb20 := DB20.out V2 HV2.out
 have xa21 := DA21.out V2 HV2.out; have xb21 := DB21.out V2 HV2.out
 go_upto_region 3 with fail
 clear xa0 xb0 xa1 xb1 xa2 xb2 xa3 xb3 xa4 xb4 xa5 xb5 xa6 xb6 xa7 xb7 xa8 xb8 xa9 xb9 xa10 xb10 xa11 xb11 xa12 xb12 xa13 xb13 xa14 xb14 xa15 xb15 xa17 xb17 xa18 xb18 xa19 xb19 xa20 xb20
 go_wp2_with fail
 go_loopw [5] (fun i wr => ∃ j q : Nat, i = .int .i64 ↑j ∧ j ≤ ha.m.2.1 ∧ wr = V2.drewN q) (fun i _ => ha.m.2.1 - (intOf i).toNat)
 case atStart => exact ⟨0, 0, rfl, Nat.zero_le _, rfl⟩
 case round =>
 obtain ⟨j, q, rfl, hj, rfl⟩ := hrel
 by_cases hlt : j < ha.m.2.1
 ·obtain ⟨b, off, ea, _, hca⟩ := HAm.out.cells hlt
  obtain ⟨b2, off2, eb, _, hcb⟩ := HBm.out.cells (by rw [HEm.out]; exact hlt)
  have ca0 : V2.cell? ⟨b, off + j, none⟩ = some (.string v.names[j]!) := by have := qaC (hca 0 _ rfl) HV2.out; simpa using this
  have cb0 : V2.cell? ⟨b2, off2 + j, none⟩ = some (.string v.names[j]!) := by have := qaC (hcb 0 _ rfl) HV2.out; simpa using this
  have ya : V2.cell? ⟨w.heap.size, 16, none⟩ = some (.slice (some ⟨b, off, none⟩) ha.m.2.1 ha.m.2.2) := by rw [xa16, ← ea]
  have yb : V2.cell? ⟨w.heap.size + 1, 16, none⟩ = some (.slice (some ⟨b2, off2, none⟩) ha.m.2.1 hb.m.2.2) := by rw [xb16, ← eb]
  have hji : (j : Int) < (ha.m.2.1 : Int) := by omega
  have hj0 : (0 : Int) ≤ (j : Int) := by omega
  have hmx := HMm.out
  clear hca hcb ea eb xa16 xb16
  generalize v.names[j]! = s0 at *
  go_wp2_with fail
  go_quiet (fail)
  go_wp2_with fail
  go_roundw
  case rel => exact ⟨j + 1, _, by go_num, by omega, by (try simp only [World.drewN_drewN]); rfl⟩
  case measure => simp [intOf]; omega
 obtain rfl : j = ha.m.2.1 := by omega
 go_wp2_with fail
 go_loopw [6] (fun i wr => ∃ j : Nat, i = .int .i64 ↑j ∧ j ≤ ha.s.2.1 ∧ Below W.heap.size W wr) (fun i _ => ha.s.2.1 - (intOf i).toNat)
 case atStart => exact ⟨0, rfl, Nat.zero_le _, HV2.out.trans (qbl V2 _ |>.mono HV2.out.size)⟩
 case round =>
 clear xa16 xb16 xa21 xb21
 obtain ⟨j, rfl, hj, hbw⟩ := hrel
 have HBW := Lib.hid hbw; clear hbw
 have ya := DA21.out wr HBW.out; have yb := DB21.out wr HBW.out
 by_cases hlt : j < ha.s.2.1
 ·obtain ⟨b, off, ea, _, hca⟩ := HRA.out.2.2 (show 0 < ha.s.2.1 by omega)
  obtain ⟨b2, off2, eb, _, hcb⟩ := HRB.out.2.2 (show 0 < hb.s.2.1 by rw [HEs.out]; omega)
  have HBR := Lib.hid (HB.out.trans (HBW.out.mono HB.out.size))
  have HXA := Lib.hid (show ∀ V, Below w.heap.size w V → V.rangeAt b (off + j * 22) (qax La[j]!) from fun V hV i u hu => qaC (hca j hlt i u hu) hV)
  have HXB := Lib.hid (show ∀ V, Below w.heap.size w V → V.rangeAt b2 (off2 + j * 22) (qax Lb[j]!) from fun V hV i u hu => qaC (hcb j (by show j < hb.s.2.1; rw [HEs.out]; exact hlt) i u hu) hV)
  have HCL := Lib.hid (fun V (hV : Below w.heap.size w V) => HIH.out j (by rw [HSL.out]; exact hlt) La[j]! Lb[j]! V _ _ ((HSA.out j hlt).fr kRsOk (R' := fun _ => True) (Fr.of_below (own := []) hV) (fun b _ _ => ⟨by simp, trivial⟩)) ((HSB.out j (by show j < hb.s.2.1; rw [HEs.out]; exact hlt)).fr kRsOk (R' := fun _ => True) (Fr.of_below (own := []) hV) (fun b _ _ => ⟨by simp, trivial⟩)) (HOK.out j (by rw [HSL.out]; exact hlt)))
  have hji : (j : Int) < (ha.s.2.1 : Int) := by omega
  have hj0 : (0 : Int) ≤ (j : Int) := by omega
  have hmx := HMs.out
  clear hca hcb
  generalize La[j]! = xa at *
  generalize Lb[j]! = xb at *
  have HSS := Lib.hid (fun (V : World) (hV : Below wr.heap.size wr V) => (show V.cell? ⟨w.heap.size, 21, none⟩ = some (.slice (some ⟨b, off, none⟩) ha.s.2.1 ha.s.2.2) ∧ V.cell? ⟨w.heap.size + 1, 21, none⟩ = some (.slice (some ⟨b2, off2, none⟩) ha.s.2.1 hb.s.2.2) ∧ V.rangeAt b (off + j * 22) [.int .i32 xa.n.ty, .int .i32 xa.n.co, .string xa.n.path, .int .i64 xa.n.q.a, .int .i64 xa.n.q.b, .int .i64 xa.n.q.c, .int .i64 xa.n.q.d, .int .i32 xa.n.q.e, .int .i32 xa.n.q.f, .int .i32 xa.n.q.g, .int .i64 xa.n.q.h, .int .i32 xa.n.q.i, .int .i32 xa.n.q.j, .int .i64 xa.n.q.k, slV xa.d, slV xa.a, slV xa.m, .int .i32 xa.n.ct, .int .i64 xa.n.si, .int .i32 xa.n.st, slV xa.i, slV xa.s] ∧ V.rangeAt b2 (off2 + j * 22) [.int .i32 xb.n.ty, .int .i32 xb.n.co, .string xb.n.path, .int .i64 xb.n.q.a, .int .i64 xb.n.q.b, .int .i64 xb.n.q.c, .int .i64 xb.n.q.d, .int .i32 xb.n.q.e, .int .i32 xb.n.q.f, .int .i32 xb.n.q.g, .int .i64 xb.n.q.h, .int .i32 xb.n.q.i, .int .i32 xb.n.q.j, .int .i64 xb.n.q.k, slV xb.d, slV xb.a, slV xb.m, .int .i32 xb.n.ct, .int .i64 xb.n.si, .int .i32 xb.n.st, slV xb.i, slV xb.s] from ⟨by rw [qaC ya hV, ← ea], by rw [qaC yb hV, ← eb], HXA.out V (HBR.out.trans (hV.mono HBR.out.size)), HXB.out V (HBR.out.trans (hV.mono HBR.out.size))⟩))
  clear HXA HXB
  go_upto_region 11 with fail
  clear ya yb ea eb
  refine qaP (S := fun V => V.cell? ⟨w.heap.size, 21, none⟩ = some (.slice (some ⟨b, off, none⟩) ha.s.2.1 ha.s.2.2) ∧ V.cell? ⟨w.heap.size + 1, 21, none⟩ = some (.slice (some ⟨b2, off2, none⟩) ha.s.2.1 hb.s.2.2) ∧ V.rangeAt b (off + j * 22) [.int .i32 xa.n.ty, .int .i32 xa.n.co, .string xa.n.path, .int .i64 xa.n.q.a, .int .i64 xa.n.q.b, .int .i64 xa.n.q.c, .int .i64 xa.n.q.d, .int .i32 xa.n.q.e, .int .i32 xa.n.q.f, .int .i32 xa.n.q.g, .int .i64 xa.n.q.h, .int .i32 xa.n.q.i, .int .i32 xa.n.q.j, .int .i64 xa.n.q.k, slV xa.d, slV xa.a, slV xa.m, .int .i32 xa.n.ct, .int .i64 xa.n.si, .int .i32 xa.n.st, slV xa.i, slV xa.s] ∧ V.rangeAt b2 (off2 + j * 22) [.int .i32 xb.n.ty, .int .i32 xb.n.co, .string xb.n.path, .int .i64 xb.n.q.a, .int .i64 xb.n.q.b, .int .i64 xb.n.q.c, .int .i64 xb.n.q.d, .int .i32 xb.n.q.e, .int .i32 xb.n.q.f, .int .i32 xb.n.q.g, .int .i64 xb.n.q.h, .int .i32 xb.n.q.i, .int .i32 xb.n.q.j, .int .i64 xb.n.q.k, slV xb.d, slV xb.a, slV xb.m, .int .i32 xb.n.ct, .int .i64 xb.n.si, .int .i32 xb.n.st, slV xb.i, slV xb.s]) 12 (by kernel_rfl) (HSS.out _ (qaj wr)) (fun hHeld => ?_)
  have HBD := Lib.hid (qaj wr)
  have HB2 := Lib.hid (HBR.out.trans (HBD.out.mono HBR.out.size))
  have HB3 := Lib.hid (HBW.out.trans (HBD.out.mono HBW.out.size))
  generalize wr.drew = V0 at *
  refine qad (i := 0) (v := .pointer (some ⟨w.heap.size, 21, none⟩)) rfl (by kernel_rfl) (fun _ _ _ h => h) (Or.inl ⟨by rfl, by intro w hSw; clear hSw; go_simp⟩) (by assumption) ?_
  (try simp only [pT])
  refine qad (i := 1) (v := .slice (some ⟨b, off, none⟩) ha.s.2.1 ha.s.2.2) rfl (by kernel_rfl) (fun _ _ _ h => h) (Or.inl ⟨by rfl, by intro w hSw; obtain ⟨hSw, -⟩ := hSw; go_simp⟩) (by assumption) ?_
  (try simp only [pT])
  refine qad (i := 2) (v := .int .i64 ↑j) rfl (by kernel_rfl) (fun _ _ _ h => h) (Or.inl ⟨by rfl, by intro w hSw; clear hSw; go_simp⟩) (by assumption) ?_
  (try simp only [pT])
  refine qad (i := 3) (v := .pointer (some ⟨b, off + j * 22, none⟩)) rfl (by kernel_rfl) (fun _ _ _ h => h) (Or.inl ⟨by rfl, by intro w hSw; clear hSw; go_simp⟩) (by assumption) ?_
  (try simp only [pT])
  refine qad (i := 4) (v := .agg (rwRs xa)) rfl (by kernel_rfl) (fun _ _ _ h => h) (yieldsIf_load_mid (by rfl) 59 _ rfl b (off + j * 22) rfl [.int .i32 xa.n.ty, .int .i32 xa.n.co, .string xa.n.path, .int .i64 xa.n.q.a, .int .i64 xa.n.q.b, .int .i64 xa.n.q.c, .int .i64 xa.n.q.d, .int .i32 xa.n.q.e, .int .i32 xa.n.q.f, .int .i32 xa.n.q.g, .int .i64 xa.n.q.h, .int .i32 xa.n.q.i, .int .i32 xa.n.q.j, .int .i64 xa.n.q.k, slV xa.d, slV xa.a, slV xa.m, .int .i32 xa.n.ct, .int .i64 xa.n.si, .int .i32 xa.n.st, slV xa.i, slV xa.s] _ (fun _ h => h.2.2.1) qbY rfl qbk) (by assumption) ?_
  (try simp only [pT])
  refine qad (i := 5) (v := .pointer (some ⟨w.heap.size + 1, 21, none⟩)) rfl (by kernel_rfl) (fun _ _ _ h => h) (Or.inl ⟨by rfl, by intro w hSw; clear hSw; go_simp⟩) (by assumption) ?_
  (try simp only [pT])
  refine qad (i := 6) (v := .slice (some ⟨b2, off2, none⟩) ha.s.2.1 hb.s.2.2) rfl (by kernel_rfl) (fun _ _ _ h => h) (Or.inl ⟨by rfl, by intro w hSw; obtain ⟨-, hSw, -⟩ := hSw; go_simp⟩) (by assumption) ?_
  (try simp only [pT])
  refine qad (i := 7) (v := .int .i64 ↑j) rfl (by kernel_rfl) (fun _ _ _ h => h) (Or.inl ⟨by rfl, by intro w hSw; clear hSw; go_simp⟩) (by assumption) ?_
  (try simp only [pT])
  refine qad (i := 8) (v := .pointer (some ⟨b2, off2 + j * 22, none⟩)) rfl (by kernel_rfl) (fun _ _ _ h => h) (Or.inl ⟨by rfl, by intro w hSw; clear hSw; go_simp⟩) (by assumption) ?_
  (try simp only [pT])
  refine qad (i := 9) (v := .agg (rwRs xb)) rfl (by kernel_rfl) (fun _ _ _ h => h) (yieldsIf_load_mid (by rfl) 59 _ rfl b2 (off2 + j * 22) rfl [.int .i32 xb.n.ty, .int .i32 xb.n.co, .string xb.n.path, .int .i64 xb.n.q.a, .int .i64 xb.n.q.b, .int .i64 xb.n.q.c, .int .i64 xb.n.q.d, .int .i32 xb.n.q.e, .int .i32 xb.n.q.f, .int .i32 xb.n.q.g, .int .i64 xb.n.q.h, .int .i32 xb.n.q.i, .int .i32 xb.n.q.j, .int .i64 xb.n.q.k, slV xb.d, slV xb.a, slV xb.m, .int .i32 xb.n.ct, .int .i64 xb.n.si, .int .i32 xb.n.st, slV xb.i, slV xb.s] _ (fun _ h => h.2.2.2) qbY rfl qbk) (by assumption) ?_
  (try simp only [pT])
  refine qaq (i := 10) rfl (by kernel_rfl) (fun K hK => ?_)
  go_simp
  refine (HCL.out V0 HB2.out).mono ?_
  rintro e w5 ⟨rfl, hb5⟩
  dsimp only
  have hh2 := HSS.out _ (HBD.out.trans (hb5.mono HBD.out.size))
  refine hK.out _ _ hh2 ?_
  have HB5 := Lib.hid (HB3.out.trans (hb5.mono HB3.out.size))
  clear hK K hb5 HB3 HB2 HBD hHeld HCL HSS
  (try simp only [pT])
  refine qaq (i := 11) rfl (by kernel_rfl) (fun K hK => ?_)
  go_simp
  refine hK.out _ _ hh2 ?_
  clear hK K hh2
  (try simp only [pT])
  refine qaG (n := 12) (by kernel_rfl) ?_
  simp only [List.drop_succ_cons, List.drop_zero]
  go_wp2_with fail
  go_roundw
  case rel => exact ⟨j + 1, by go_num, by omega, HB5.out⟩
  case measure => simp [intOf]; omega
 obtain rfl : j = ha.s.2.1 := by omega
 go_wp2_with fail
 go_ret
 exact RetB.mk (HB.out.trans (HBW.out.mono HB.out.size)) rfl
open Go.RowKit Go.MapKept Go.Maps
/-- a whole struct out of the middle of a block, under a guard that holds -/
theorem qbm {P : Program} {ops : Array Oper} {rest : List Oper} {o : Oper} {a : Act} {w : World} {Q : Exit → Act → World → Prop} (ty : TypeId) {x : Operand} {b q : Nat} {cs : List Value} {d : TypeDesc} (hw : Region.wanted o (yielded ops a.tmps) = true) (ho : o.op = .load ty x) (hx : a.eval x = .pointer (some ⟨b, q, none⟩)) (hc : w.rangeAt b q cs)
  (hu : P.underlying ty = some d) (hd : d.isRow = true) (hi : (P.info? ty).map (·.size) = some cs.length) (h : wpList P ops Q rest (a.put o.dst (.agg cs.toArray)) w) : wpList P ops Q (o :: rest) a w :=
 wpList_step fun K hK => by
  rw [if_pos hw]
  exact wp_load_mid ty x ho b q hx cs d hc hu hd hi (hK _ _ h)
theorem qjk (d : DlT) (ha hb : DlH) (w : World) (Ra Rb : Nat → Prop) (ta : DlAt w Ra ha d) (tb : DlAt w Rb hb d) (hok : DlSm 1048576 d) : Calls Tryz.prog 80 #[dlV ha, dlV hb] w (RetB w true) := by
 have hn : hb.se = ha.se ∧ hb.xi = ha.xi ∧ hb.zx = ha.zx ∧ hb.ti = ha.ti := ⟨tb.1.1.symm.trans ta.1.1, tb.1.2.1.symm.trans ta.1.2.1, tb.1.2.2.1.symm.trans ta.1.2.2.1, tb.1.2.2.2.symm.trans ta.1.2.2.2⟩
 have hb0 : Below w.heap.size w ((w.alloc (.cells (rwDl ha) 54)).alloc (.cells #[.int .i64 ha.se, .int .i32 ha.xi, .int .i64 ha.zx, .int .i64 ha.ti, .int .i32 hb.t.n.ty, .string hb.t.n.path, slV hb.t.d, slV hb.t.a, .int .i64 hb.t.n.ow, .int .i32 hb.t.n.ve, .int .i32 hb.t.n.cr, .bool hb.t.n.qh, .int .i64 hb.t.n.qc, .int .i64 hb.t.n.qb, .int .i64 hb.t.n.si, .int .i32 hb.t.n.st, slV hb.t.i, slV hb.t.p, .int .i32 hb.t.n.co, slV hb.t.s] 54)) := ((Below.refl _ w).alloc (Nat.le_refl _) _).alloc (by simp) _
 have HGA := Lib.hid (qaa (qab w (.cells (rwDl ha) 54)) : ((w.alloc (.cells (rwDl ha) 54)).alloc (.cells #[.int .i64 ha.se, .int .i32 ha.xi, .int .i64 ha.zx, .int .i64 ha.ti, .int .i32 hb.t.n.ty, .string hb.t.n.path, slV hb.t.d, slV hb.t.a, .int .i64 hb.t.n.ow, .int .i32 hb.t.n.ve, .int .i32 hb.t.n.cr, .bool hb.t.n.qh, .int .i64 hb.t.n.qc, .int .i64 hb.t.n.qb, .int .i64 hb.t.n.si, .int .i32 hb.t.n.st, slV hb.t.i, slV hb.t.p, .int .i32 hb.t.n.co, slV hb.t.s] 54)).heap[w.heap.size]? = _)
 have HGB := Lib.hid (qae w (.cells (rwDl ha) 54) (.cells #[.int .i64 ha.se, .int .i32 ha.xi, .int .i64 ha.zx, .int .i64 ha.ti, .int .i32 hb.t.n.ty, .string hb.t.n.path, slV hb.t.d, slV hb.t.a, .int .i64 hb.t.n.ow, .int .i32 hb.t.n.ve, .int .i32 hb.t.n.cr, .bool hb.t.n.qh, .int .i64 hb.t.n.qc, .int .i64 hb.t.n.qb, .int .i64 hb.t.n.si, .int .i32 hb.t.n.st, slV hb.t.i, slV hb.t.p, .int .i32 hb.t.n.co, slV hb.t.s] 54))
 have HB := Lib.hid hb0
 have HCL := Lib.hid (qjN d.t ha.t hb.t _ _ _ (ta.2.fr kTxOk (R' := fun _ => True) (Fr.of_below (own := []) hb0) (fun b _ _ => ⟨by simp, trivial⟩)) (tb.2.fr kTxOk (R' := fun _ => True) (Fr.of_below (own := []) hb0) (fun b _ _ => ⟨by simp, trivial⟩)) hok.2)
 clear ta tb hok hb0
 unfold dlV
 rw [hn.1, hn.2.1, hn.2.2.1, hn.2.2.2]
 clear hn
 go_enter Tryz.func80, Tryz.ntmps80
 go_upto_region 1 with fail
 generalize (w.alloc (.cells (rwDl ha) 54)).alloc (.cells #[.int .i64 ha.se, .int .i32 ha.xi, .int .i64 ha.zx, .int .i64 ha.ti, .int .i32 hb.t.n.ty, .string hb.t.n.path, slV hb.t.d, slV hb.t.a, .int .i64 hb.t.n.ow, .int .i32 hb.t.n.ve, .int .i32 hb.t.n.cr, .bool hb.t.n.qh, .int .i64 hb.t.n.qc, .int .i64 hb.t.n.qb, .int .i64 hb.t.n.si, .int .i32 hb.t.n.st, slV hb.t.i, slV hb.t.p, .int .i32 hb.t.n.co, slV hb.t.s] 54) = W at *
 generalize (Value.agg (rwDl ha)) = arg0 at *
 generalize (Value.agg #[.int .i64 ha.se, .int .i32 ha.xi, .int .i64 ha.zx, .int .i64 ha.ti, .int .i32 hb.t.n.ty, .string hb.t.n.path, slV hb.t.d, slV hb.t.a, .int .i64 hb.t.n.ow, .int .i32 hb.t.n.ve, .int .i32 hb.t.n.cr, .bool hb.t.n.qh, .int .i64 hb.t.n.qc, .int .i64 hb.t.n.qb, .int .i64 hb.t.n.si, .int .i32 hb.t.n.st, slV hb.t.i, slV hb.t.p, .int .i32 hb.t.n.co, slV hb.t.s]) = arg1 at *
 have xa0 : W.cell? ⟨w.heap.size, 0, none⟩ = some (.int .i64 ha.se) := by rw [qaf HGA.out]; rfl
 have xb0 : W.cell? ⟨w.heap.size + 1, 0, none⟩ = some (.int .i64 ha.se) := by rw [qaf HGB.out]; rfl
 have xa1 : W.cell? ⟨w.heap.size, 1, none⟩ = some (.int .i32 ha.xi) := by rw [qaf HGA.out]; rfl
 have xb1 : W.cell? ⟨w.heap.size + 1, 1, none⟩ = some (.int .i32 ha.xi) := by rw [qaf HGB.out]; rfl
 have xa2 : W.cell? ⟨w.heap.size, 2, none⟩ = some (.int .i64 ha.zx) := by rw [qaf HGA.out]; rfl
 have xb2 : W.cell? ⟨w.heap.size + 1, 2, none⟩ = some (.int .i64 ha.zx) := by rw [qaf HGB.out]; rfl
 have xa3 : W.cell? ⟨w.heap.size, 3, none⟩ = some (.int .i64 ha.ti) := by rw [qaf HGA.out]; rfl
 have xb3 : W.cell? ⟨w.heap.size + 1, 3, none⟩ = some (.int .i64 ha.ti) := by rw [qaf HGB.out]; rfl
 have y1 : W.rangeAt (w.heap.size) 4 [.int .i32 ha.t.n.ty, .string ha.t.n.path, slV ha.t.d, slV ha.t.a, .int .i64 ha.t.n.ow, .int .i32 ha.t.n.ve, .int .i32 ha.t.n.cr, .bool ha.t.n.qh, .int .i64 ha.t.n.qc, .int .i64 ha.t.n.qb, .int .i64 ha.t.n.si, .int .i32 ha.t.n.st, slV ha.t.i, slV ha.t.p, .int .i32 ha.t.n.co, slV ha.t.s] := qal (pre := [.int .i64 ha.se, .int .i32 ha.xi, .int .i64 ha.zx, .int .i64 ha.ti]) (mid := [.int .i32 ha.t.n.ty, .string ha.t.n.path, slV ha.t.d, slV ha.t.a, .int .i64 ha.t.n.ow, .int .i32 ha.t.n.ve, .int .i32 ha.t.n.cr, .bool ha.t.n.qh, .int .i64 ha.t.n.qc, .int .i64 ha.t.n.qb, .int .i64 ha.t.n.si, .int .i32 ha.t.n.st, slV ha.t.i, slV ha.t.p, .int .i32 ha.t.n.co, slV ha.t.s]) (post := []) HGA.out rfl rfl
 have y2 : W.rangeAt (w.heap.size + 1) 4 [.int .i32 hb.t.n.ty, .string hb.t.n.path, slV hb.t.d, slV hb.t.a, .int .i64 hb.t.n.ow, .int .i32 hb.t.n.ve, .int .i32 hb.t.n.cr, .bool hb.t.n.qh, .int .i64 hb.t.n.qc, .int .i64 hb.t.n.qb, .int .i64 hb.t.n.si, .int .i32 hb.t.n.st, slV hb.t.i, slV hb.t.p, .int .i32 hb.t.n.co, slV hb.t.s] := qal (pre := [.int .i64 ha.se, .int .i32 ha.xi, .int .i64 ha.zx, .int .i64 ha.ti]) (mid := [.int .i32 hb.t.n.ty, .string hb.t.n.path, slV hb.t.d, slV hb.t.a, .int .i64 hb.t.n.ow, .int .i32 hb.t.n.ve, .int .i32 hb.t.n.cr, .bool hb.t.n.qh, .int .i64 hb.t.n.qc, .int .i64 hb.t.n.qb, .int .i64 hb.t.n.si, .int .i32 hb.t.n.st, slV hb.t.i, slV hb.t.p, .int .i32 hb.t.n.co, slV hb.t.s]) (post := []) HGB.out rfl rfl
 go_wp2_with (first
  | (apply qbm 52; (first | rfl | simp [Region.wanted, yielded]); exact rfl; exact rfl; exact y1; exact qaF; exact rfl; exact qap)
  | (apply qbm 52; (first | rfl | simp [Region.wanted, yielded]); exact rfl; exact rfl; exact y2; exact qaF; exact rfl; exact qap)
  | fail)
 refine HCL.out.mono ?_
 rintro e w1 ⟨rfl, hb1⟩
 have HB1 := Lib.hid (HB.out.trans (hb1.mono HB.out.size)); clear hb1 y1 y2 xa0 xb0 xa1 xb1 xa2 xb2 xa3 xb3
 go_wp2_with fail
 go_ret
 exact RetB.mk HB1.out rfl
theorem qjZ (d : RpT) (ha hb : RpH) (w : World) (Ra Rb : Nat → Prop) (ta : RpAt w Ra ha d) (tb : RpAt w Rb hb d) (hok : RpSm 1048576 d) : Calls Tryz.prog 81 #[rpV ha, rpV hb] w (RetB w true) := by
 have hn : hb.xi = ha.xi ∧ hb.zx = ha.zx ∧ hb.co = ha.co := ⟨tb.1.1.symm.trans ta.1.1, tb.1.2.1.symm.trans ta.1.2.1, tb.1.2.2.symm.trans ta.1.2.2⟩
 have hb0 : Below w.heap.size w ((w.alloc (.cells (rwRp ha) 61)).alloc (.cells #[.int .i32 ha.xi, .int .i64 ha.zx, .int .i32 ha.co, .int .i32 hb.r.n.ty, .int .i32 hb.r.n.co, .string hb.r.n.path, .int .i64 hb.r.n.q.a, .int .i64 hb.r.n.q.b, .int .i64 hb.r.n.q.c, .int .i64 hb.r.n.q.d, .int .i32 hb.r.n.q.e, .int .i32 hb.r.n.q.f, .int .i32 hb.r.n.q.g, .int .i64 hb.r.n.q.h, .int .i32 hb.r.n.q.i, .int .i32 hb.r.n.q.j, .int .i64 hb.r.n.q.k, slV hb.r.d, slV hb.r.a, slV hb.r.m, .int .i32 hb.r.n.ct, .int .i64 hb.r.n.si, .int .i32 hb.r.n.st, slV hb.r.i, slV hb.r.s] 61)) := ((Below.refl _ w).alloc (Nat.le_refl _) _).alloc (by simp) _
 have HGA := Lib.hid (qaa (qab w (.cells (rwRp ha) 61)) : ((w.alloc (.cells (rwRp ha) 61)).alloc (.cells #[.int .i32 ha.xi, .int .i64 ha.zx, .int .i32 ha.co, .int .i32 hb.r.n.ty, .int .i32 hb.r.n.co, .string hb.r.n.path, .int .i64 hb.r.n.q.a, .int .i64 hb.r.n.q.b, .int .i64 hb.r.n.q.c, .int .i64 hb.r.n.q.d, .int .i32 hb.r.n.q.e, .int .i32 hb.r.n.q.f, .int .i32 hb.r.n.q.g, .int .i64 hb.r.n.q.h, .int .i32 hb.r.n.q.i, .int .i32 hb.r.n.q.j, .int .i64 hb.r.n.q.k, slV hb.r.d, slV hb.r.a, slV hb.r.m, .int .i32 hb.r.n.ct, .int .i64 hb.r.n.si, .int .i32 hb.r.n.st, slV hb.r.i, slV hb.r.s] 61)).heap[w.heap.size]? = _)
 have HGB := Lib.hid (qae w (.cells (rwRp ha) 61) (.cells #[.int .i32 ha.xi, .int .i64 ha.zx, .int .i32 ha.co, .int .i32 hb.r.n.ty, .int .i32 hb.r.n.co, .string hb.r.n.path, .int .i64 hb.r.n.q.a, .int .i64 hb.r.n.q.b, .int .i64 hb.r.n.q.c, .int .i64 hb.r.n.q.d, .int .i32 hb.r.n.q.e, .int .i32 hb.r.n.q.f, .int .i32 hb.r.n.q.g, .int .i64 hb.r.n.q.h, .int .i32 hb.r.n.q.i, .int .i32 hb.r.n.q.j, .int .i64 hb.r.n.q.k, slV hb.r.d, slV hb.r.a, slV hb.r.m, .int .i32 hb.r.n.ct, .int .i64 hb.r.n.si, .int .i32 hb.r.n.st, slV hb.r.i, slV hb.r.s] 61))
 have HB := Lib.hid hb0
 have HCL := Lib.hid (qjC d.r ha.r hb.r _ _ _ (ta.2.fr kRsOk (R' := fun _ => True) (Fr.of_below (own := []) hb0) (fun b _ _ => ⟨by simp, trivial⟩)) (tb.2.fr kRsOk (R' := fun _ => True) (Fr.of_below (own := []) hb0) (fun b _ _ => ⟨by simp, trivial⟩)) hok.2)
 clear ta tb hok hb0
 unfold rpV
 rw [hn.1, hn.2.1, hn.2.2]
 clear hn
 go_enter Tryz.func81, Tryz.ntmps81
 go_upto_region 1 with fail
 generalize (w.alloc (.cells (rwRp ha) 61)).alloc (.cells #[.int .i32 ha.xi, .int .i64 ha.zx, .int .i32 ha.co, .int .i32 hb.r.n.ty, .int .i32 hb.r.n.co, .string hb.r.n.path, .int .i64 hb.r.n.q.a, .int .i64 hb.r.n.q.b, .int .i64 hb.r.n.q.c, .int .i64 hb.r.n.q.d, .int .i32 hb.r.n.q.e, .int .i32 hb.r.n.q.f, .int .i32 hb.r.n.q.g, .int .i64 hb.r.n.q.h, .int .i32 hb.r.n.q.i, .int .i32 hb.r.n.q.j, .int .i64 hb.r.n.q.k, slV hb.r.d, slV hb.r.a, slV hb.r.m, .int .i32 hb.r.n.ct, .int .i64 hb.r.n.si, .int .i32 hb.r.n.st, slV hb.r.i, slV hb.r.s] 61) = W at *
 generalize (Value.agg (rwRp ha)) = arg0 at *
 generalize (Value.agg #[.int .i32 ha.xi, .int .i64 ha.zx, .int .i32 ha.co, .int .i32 hb.r.n.ty, .int .i32 hb.r.n.co, .string hb.r.n.path, .int .i64 hb.r.n.q.a, .int .i64 hb.r.n.q.b, .int .i64 hb.r.n.q.c, .int .i64 hb.r.n.q.d, .int .i32 hb.r.n.q.e, .int .i32 hb.r.n.q.f, .int .i32 hb.r.n.q.g, .int .i64 hb.r.n.q.h, .int .i32 hb.r.n.q.i, .int .i32 hb.r.n.q.j, .int .i64 hb.r.n.q.k, slV hb.r.d, slV hb.r.a, slV hb.r.m, .int .i32 hb.r.n.ct, .int .i64 hb.r.n.si, .int .i32 hb.r.n.st, slV hb.r.i, slV hb.r.s]) = arg1 at *
 have xa0 : W.cell? ⟨w.heap.size, 0, none⟩ = some (.int .i32 ha.xi) := by rw [qaf HGA.out]; rfl
 have xb0 : W.cell? ⟨w.heap.size + 1, 0, none⟩ = some (.int .i32 ha.xi) := by rw [qaf HGB.out]; rfl
 have xa1 : W.cell? ⟨w.heap.size, 1, none⟩ = some (.int .i64 ha.zx) := by rw [qaf HGA.out]; rfl
 have xb1 : W.cell? ⟨w.heap.size + 1, 1, none⟩ = some (.int .i64 ha.zx) := by rw [qaf HGB.out]; rfl
 have xa2 : W.cell? ⟨w.heap.size, 2, none⟩ = some (.int .i32 ha.co) := by rw [qaf HGA.out]; rfl
 have xb2 : W.cell? ⟨w.heap.size + 1, 2, none⟩ = some (.int .i32 ha.co) := by rw [qaf HGB.out]; rfl
 have y1 : W.rangeAt (w.heap.size) 3 [.int .i32 ha.r.n.ty, .int .i32 ha.r.n.co, .string ha.r.n.path, .int .i64 ha.r.n.q.a, .int .i64 ha.r.n.q.b, .int .i64 ha.r.n.q.c, .int .i64 ha.r.n.q.d, .int .i32 ha.r.n.q.e, .int .i32 ha.r.n.q.f, .int .i32 ha.r.n.q.g, .int .i64 ha.r.n.q.h, .int .i32 ha.r.n.q.i, .int .i32 ha.r.n.q.j, .int .i64 ha.r.n.q.k, slV ha.r.d, slV ha.r.a, slV ha.r.m, .int .i32 ha.r.n.ct, .int .i64 ha.r.n.si, .int .i32 ha.r.n.st, slV ha.r.i, slV ha.r.s] := qal (pre := [.int .i32 ha.xi, .int .i64 ha.zx, .int .i32 ha.co]) (mid := [.int .i32 ha.r.n.ty, .int .i32 ha.r.n.co, .string ha.r.n.path, .int .i64 ha.r.n.q.a, .int .i64 ha.r.n.q.b, .int .i64 ha.r.n.q.c, .int .i64 ha.r.n.q.d, .int .i32 ha.r.n.q.e, .int .i32 ha.r.n.q.f, .int .i32 ha.r.n.q.g, .int .i64 ha.r.n.q.h, .int .i32 ha.r.n.q.i, .int .i32 ha.r.n.q.j, .int .i64 ha.r.n.q.k, slV ha.r.d, slV ha.r.a, slV ha.r.m, .int .i32 ha.r.n.ct, .int .i64 ha.r.n.si, .int .i32 ha.r.n.st, slV ha.r.i, slV ha.r.s]) (post := []) HGA.out rfl rfl
 have y2 : W.rangeAt (w.heap.size + 1) 3 [.int .i32 hb.r.n.ty, .int .i32 hb.r.n.co, .string hb.r.n.path, .int .i64 hb.r.n.q.a, .int .i64 hb.r.n.q.b, .int .i64 hb.r.n.q.c, .int .i64 hb.r.n.q.d, .int .i32 hb.r.n.q.e, .int .i32 hb.r.n.q.f, .int .i32 hb.r.n.q.g, .int .i64 hb.r.n.q.h, .int .i32 hb.r.n.q.i, .int .i32 hb.r.n.q.j, .int .i64 hb.r.n.q.k, slV hb.r.d, slV hb.r.a, slV hb.r.m, .int .i32 hb.r.n.ct, .int .i64 hb.r.n.si, .int .i32 hb.r.n.st, slV hb.r.i, slV hb.r.s] := qal (pre := [.int .i32 ha.xi, .int .i64 ha.zx, .int .i32 ha.co]) (mid := [.int .i32 hb.r.n.ty, .int .i32 hb.r.n.co, .string hb.r.n.path, .int .i64 hb.r.n.q.a, .int .i64 hb.r.n.q.b, .int .i64 hb.r.n.q.c, .int .i64 hb.r.n.q.d, .int .i32 hb.r.n.q.e, .int .i32 hb.r.n.q.f, .int .i32 hb.r.n.q.g, .int .i64 hb.r.n.q.h, .int .i32 hb.r.n.q.i, .int .i32 hb.r.n.q.j, .int .i64 hb.r.n.q.k, slV hb.r.d, slV hb.r.a, slV hb.r.m, .int .i32 hb.r.n.ct, .int .i64 hb.r.n.si, .int .i32 hb.r.n.st, slV hb.r.i, slV hb.r.s]) (post := []) HGB.out rfl rfl
 go_wp2_with (first
  | (apply qbm 59; (first | rfl | simp [Region.wanted, yielded]); exact rfl; exact rfl; exact y1; exact qbY; exact rfl; exact qbk)
  | (apply qbm 59; (first | rfl | simp [Region.wanted, yielded]); exact rfl; exact rfl; exact y2; exact qbY; exact rfl; exact qbk)
  | fail)
 refine HCL.out.mono ?_
 rintro e w1 ⟨rfl, hb1⟩
 have HB1 := Lib.hid (HB.out.trans (hb1.mono HB.out.size)); clear hb1 y1 y2 xa0 xb0 xa1 xb1 xa2 xb2
 go_wp2_with fail
 go_ret
 exact RetB.mk HB1.out rfl
theorem qdn : Tryz.prog.underlying 94 = some (.struct (Tryz.prog.fieldsOf 94)) := by kernel_rfl
theorem qcu : (Tryz.prog.info? 94).map (·.size) = some 45 := by kernel_rfl
theorem qce (p : PrT) (ha hb : PrH) (w : World) (Ra Rb : Nat → Prop) (ta : PrAt w Ra ha p) (tb : PrAt w Rb hb p) (hok : PrSm 1048576 p) : Calls Tryz.prog 35 #[prV ha, prV hb] w (RetB w true) := by
 have hb0 : Below w.heap.size w ((w.alloc (.cells (rwPr ha) 63)).alloc (.cells (rwPr hb) 94)) := ((Below.refl _ w).alloc (Nat.le_refl _) _).alloc (by simp) _
 have HGA := Lib.hid (qaa (qab w (.cells (rwPr ha) 63)) : ((w.alloc (.cells (rwPr ha) 63)).alloc (.cells (rwPr hb) 94)).heap[w.heap.size]? = _)
 have HGB := Lib.hid (qae w (.cells (rwPr ha) 63) (.cells (rwPr hb) 94))
 have HSZ := Lib.hid (show w.heap.size + 2 ≤ ((w.alloc (.cells (rwPr ha) 63)).alloc (.cells (rwPr hb) 94)).heap.size from by simp)
 have HB := Lib.hid hb0
 have y1 : ((w.alloc (.cells (rwPr ha) 63)).alloc (.cells (rwPr hb) 94)).rangeAt w.heap.size 0 [.int .i64 ha.d.se, .int .i32 ha.d.xi, .int .i64 ha.d.zx, .int .i64 ha.d.ti, .int .i32 ha.d.t.n.ty, .string ha.d.t.n.path, slV ha.d.t.d, slV ha.d.t.a, .int .i64 ha.d.t.n.ow, .int .i32 ha.d.t.n.ve, .int .i32 ha.d.t.n.cr, .bool ha.d.t.n.qh, .int .i64 ha.d.t.n.qc, .int .i64 ha.d.t.n.qb, .int .i64 ha.d.t.n.si, .int .i32 ha.d.t.n.st, slV ha.d.t.i, slV ha.d.t.p, .int .i32 ha.d.t.n.co, slV ha.d.t.s] := qal (pre := []) (mid := [.int .i64 ha.d.se, .int .i32 ha.d.xi, .int .i64 ha.d.zx, .int .i64 ha.d.ti, .int .i32 ha.d.t.n.ty, .string ha.d.t.n.path, slV ha.d.t.d, slV ha.d.t.a, .int .i64 ha.d.t.n.ow, .int .i32 ha.d.t.n.ve, .int .i32 ha.d.t.n.cr, .bool ha.d.t.n.qh, .int .i64 ha.d.t.n.qc, .int .i64 ha.d.t.n.qb, .int .i64 ha.d.t.n.si, .int .i32 ha.d.t.n.st, slV ha.d.t.i, slV ha.d.t.p, .int .i32 ha.d.t.n.co, slV ha.d.t.s]) (post := [.int .i32 ha.r.xi, .int .i64 ha.r.zx, .int .i32 ha.r.co, .int .i32 ha.r.r.n.ty, .int .i32 ha.r.r.n.co, .string ha.r.r.n.path, .int .i64 ha.r.r.n.q.a, .int .i64 ha.r.r.n.q.b, .int .i64 ha.r.r.n.q.c, .int .i64 ha.r.r.n.q.d, .int .i32 ha.r.r.n.q.e, .int .i32 ha.r.r.n.q.f, .int .i32 ha.r.r.n.q.g, .int .i64 ha.r.r.n.q.h, .int .i32 ha.r.r.n.q.i, .int .i32 ha.r.r.n.q.j, .int .i64 ha.r.r.n.q.k, slV ha.r.r.d, slV ha.r.r.a, slV ha.r.r.m, .int .i32 ha.r.r.n.ct, .int .i64 ha.r.r.n.si, .int .i32 ha.r.r.n.st, slV ha.r.r.i, slV ha.r.r.s]) HGA.out rfl rfl
 have y2 : ((w.alloc (.cells (rwPr ha) 63)).alloc (.cells (rwPr hb) 94)).rangeAt (w.heap.size + 1) 0 [.int .i64 hb.d.se, .int .i32 hb.d.xi, .int .i64 hb.d.zx, .int .i64 hb.d.ti, .int .i32 hb.d.t.n.ty, .string hb.d.t.n.path, slV hb.d.t.d, slV hb.d.t.a, .int .i64 hb.d.t.n.ow, .int .i32 hb.d.t.n.ve, .int .i32 hb.d.t.n.cr, .bool hb.d.t.n.qh, .int .i64 hb.d.t.n.qc, .int .i64 hb.d.t.n.qb, .int .i64 hb.d.t.n.si, .int .i32 hb.d.t.n.st, slV hb.d.t.i, slV hb.d.t.p, .int .i32 hb.d.t.n.co, slV hb.d.t.s] := qal (pre := []) (mid := [.int .i64 hb.d.se, .int .i32 hb.d.xi, .int .i64 hb.d.zx, .int .i64 hb.d.ti, .int .i32 hb.d.t.n.ty, .string hb.d.t.n.path, slV hb.d.t.d, slV hb.d.t.a, .int .i64 hb.d.t.n.ow, .int .i32 hb.d.t.n.ve, .int .i32 hb.d.t.n.cr, .bool hb.d.t.n.qh, .int .i64 hb.d.t.n.qc, .int .i64 hb.d.t.n.qb, .int .i64 hb.d.t.n.si, .int .i32 hb.d.t.n.st, slV hb.d.t.i, slV hb.d.t.p, .int .i32 hb.d.t.n.co, slV hb.d.t.s]) (post := [.int .i32 hb.r.xi, .int .i64 hb.r.zx, .int .i32 hb.r.co, .int .i32 hb.r.r.n.ty, .int .i32 hb.r.r.n.co, .string hb.r.r.n.path, .int .i64 hb.r.r.n.q.a, .int .i64 hb.r.r.n.q.b, .int .i64 hb.r.r.n.q.c, .int .i64 hb.r.r.n.q.d, .int .i32 hb.r.r.n.q.e, .int .i32 hb.r.r.n.q.f, .int .i32 hb.r.r.n.q.g, .int .i64 hb.r.r.n.q.h, .int .i32 hb.r.r.n.q.i, .int .i32 hb.r.r.n.q.j, .int .i64 hb.r.r.n.q.k, slV hb.r.r.d, slV hb.r.r.a, slV hb.r.r.m, .int .i32 hb.r.r.n.ct, .int .i64 hb.r.r.n.si, .int .i32 hb.r.r.n.st, slV hb.r.r.i, slV hb.r.r.s]) HGB.out rfl rfl
 have HCD := Lib.hid (qjk p.d ha.d hb.d _ _ _ (ta.1.fr (R' := fun _ => True) (Fr.of_below (own := []) hb0) (fun b _ _ => ⟨by simp, trivial⟩)) (tb.1.fr (R' := fun _ => True) (Fr.of_below (own := []) hb0) (fun b _ _ => ⟨by simp, trivial⟩)) hok.1)
 have HCR := Lib.hid (fun (V : World) (hV : Below w.heap.size w V) => qjZ p.r ha.r hb.r V _ _ (ta.2.fr (R' := fun _ => True) (Fr.of_below (own := []) hV) (fun b _ _ => ⟨by simp, trivial⟩)) (tb.2.fr (R' := fun _ => True) (Fr.of_below (own := []) hV) (fun b _ _ => ⟨by simp, trivial⟩)) hok.2)
 clear ta tb hok hb0
 go_enter Tryz.func35, Tryz.ntmps35
 go_upto_region 1 with fail
 generalize (w.alloc (.cells (rwPr ha) 63)).alloc (.cells (rwPr hb) 94) = W at *
 go_wp2_with (first
  | (apply qau 54; exact rfl; exact rfl; exact rfl; exact y1; exact qcn; exact rfl; exact qbC)
  | (apply qau 54; exact rfl; exact rfl; exact rfl; exact y2; exact qcn; exact rfl; exact qbC)
  | fail)
 refine HCD.out.mono ?_
 rintro e w1 ⟨rfl, hb1⟩
 have HB1 := Lib.hid (HB.out.trans (hb1.mono HB.out.size))
 have hga := (hb1.block _ (by have := HSZ.out; omega)).trans HGA.out
 have hgb := (hb1.block _ (by have := HSZ.out; omega)).trans HGB.out
 clear hb1 y1 y2
 have y3 : w1.rangeAt w.heap.size 20 [.int .i32 ha.r.xi, .int .i64 ha.r.zx, .int .i32 ha.r.co, .int .i32 ha.r.r.n.ty, .int .i32 ha.r.r.n.co, .string ha.r.r.n.path, .int .i64 ha.r.r.n.q.a, .int .i64 ha.r.r.n.q.b, .int .i64 ha.r.r.n.q.c, .int .i64 ha.r.r.n.q.d, .int .i32 ha.r.r.n.q.e, .int .i32 ha.r.r.n.q.f, .int .i32 ha.r.r.n.q.g, .int .i64 ha.r.r.n.q.h, .int .i32 ha.r.r.n.q.i, .int .i32 ha.r.r.n.q.j, .int .i64 ha.r.r.n.q.k, slV ha.r.r.d, slV ha.r.r.a, slV ha.r.r.m, .int .i32 ha.r.r.n.ct, .int .i64 ha.r.r.n.si, .int .i32 ha.r.r.n.st, slV ha.r.r.i, slV ha.r.r.s] := qal (pre := [.int .i64 ha.d.se, .int .i32 ha.d.xi, .int .i64 ha.d.zx, .int .i64 ha.d.ti, .int .i32 ha.d.t.n.ty, .string ha.d.t.n.path, slV ha.d.t.d, slV ha.d.t.a, .int .i64 ha.d.t.n.ow, .int .i32 ha.d.t.n.ve, .int .i32 ha.d.t.n.cr, .bool ha.d.t.n.qh, .int .i64 ha.d.t.n.qc, .int .i64 ha.d.t.n.qb, .int .i64 ha.d.t.n.si, .int .i32 ha.d.t.n.st, slV ha.d.t.i, slV ha.d.t.p, .int .i32 ha.d.t.n.co, slV ha.d.t.s]) (mid := [.int .i32 ha.r.xi, .int .i64 ha.r.zx, .int .i32 ha.r.co, .int .i32 ha.r.r.n.ty, .int .i32 ha.r.r.n.co, .string ha.r.r.n.path, .int .i64 ha.r.r.n.q.a, .int .i64 ha.r.r.n.q.b, .int .i64 ha.r.r.n.q.c, .int .i64 ha.r.r.n.q.d, .int .i32 ha.r.r.n.q.e, .int .i32 ha.r.r.n.q.f, .int .i32 ha.r.r.n.q.g, .int .i64 ha.r.r.n.q.h, .int .i32 ha.r.r.n.q.i, .int .i32 ha.r.r.n.q.j, .int .i64 ha.r.r.n.q.k, slV ha.r.r.d, slV ha.r.r.a, slV ha.r.r.m, .int .i32 ha.r.r.n.ct, .int .i64 ha.r.r.n.si, .int .i32 ha.r.r.n.st, slV ha.r.r.i, slV ha.r.r.s]) (post := []) hga rfl rfl
 have y4 : w1.rangeAt (w.heap.size + 1) 20 [.int .i32 hb.r.xi, .int .i64 hb.r.zx, .int .i32 hb.r.co, .int .i32 hb.r.r.n.ty, .int .i32 hb.r.r.n.co, .string hb.r.r.n.path, .int .i64 hb.r.r.n.q.a, .int .i64 hb.r.r.n.q.b, .int .i64 hb.r.r.n.q.c, .int .i64 hb.r.r.n.q.d, .int .i32 hb.r.r.n.q.e, .int .i32 hb.r.r.n.q.f, .int .i32 hb.r.r.n.q.g, .int .i64 hb.r.r.n.q.h, .int .i32 hb.r.r.n.q.i, .int .i32 hb.r.r.n.q.j, .int .i64 hb.r.r.n.q.k, slV hb.r.r.d, slV hb.r.r.a, slV hb.r.r.m, .int .i32 hb.r.r.n.ct, .int .i64 hb.r.r.n.si, .int .i32 hb.r.r.n.st, slV hb.r.r.i, slV hb.r.r.s] := qal (pre := [.int .i64 hb.d.se, .int .i32 hb.d.xi, .int .i64 hb.d.zx, .int .i64 hb.d.ti, .int .i32 hb.d.t.n.ty, .string hb.d.t.n.path, slV hb.d.t.d, slV hb.d.t.a, .int .i64 hb.d.t.n.ow, .int .i32 hb.d.t.n.ve, .int .i32 hb.d.t.n.cr, .bool hb.d.t.n.qh, .int .i64 hb.d.t.n.qc, .int .i64 hb.d.t.n.qb, .int .i64 hb.d.t.n.si, .int .i32 hb.d.t.n.st, slV hb.d.t.i, slV hb.d.t.p, .int .i32 hb.d.t.n.co, slV hb.d.t.s]) (mid := [.int .i32 hb.r.xi, .int .i64 hb.r.zx, .int .i32 hb.r.co, .int .i32 hb.r.r.n.ty, .int .i32 hb.r.r.n.co, .string hb.r.r.n.path, .int .i64 hb.r.r.n.q.a, .int .i64 hb.r.r.n.q.b, .int .i64 hb.r.r.n.q.c, .int .i64 hb.r.r.n.q.d, .int .i32 hb.r.r.n.q.e, .int .i32 hb.r.r.n.q.f, .int .i32 hb.r.r.n.q.g, .int .i64 hb.r.r.n.q.h, .int .i32 hb.r.r.n.q.i, .int .i32 hb.r.r.n.q.j, .int .i64 hb.r.r.n.q.k, slV hb.r.r.d, slV hb.r.r.a, slV hb.r.r.m, .int .i32 hb.r.r.n.ct, .int .i64 hb.r.r.n.si, .int .i32 hb.r.r.n.st, slV hb.r.r.i, slV hb.r.r.s]) (post := []) hgb rfl rfl
 clear hga hgb
 go_wp2_with (first
  | (apply qbm 61; (first | rfl | simp [Region.wanted, yielded]); exact rfl; exact rfl; exact y3; exact qcA; exact rfl; exact qbM)
  | (apply qbm 61; (first | rfl | simp [Region.wanted, yielded]); exact rfl; exact rfl; exact y4; exact qcA; exact rfl; exact qbM)
  | fail)
 refine (HCR.out w1 HB1.out).mono ?_
 rintro e w2 ⟨rfl, hb2⟩
 have HB2 := Lib.hid (HB1.out.trans (hb2.mono HB1.out.size)); clear hb2 y3 y4
 go_wp2_with fail
 go_ret
 exact RetB.mk HB2.out rfl
end Go.Proofs.YtbpmmmnphpkdjaaGreatDoor
