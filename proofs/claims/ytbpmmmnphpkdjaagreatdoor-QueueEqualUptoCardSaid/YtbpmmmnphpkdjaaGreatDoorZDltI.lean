/- The walk of delta.cloned. Condition: lists of at most 2^20. The walk of arbor/delta.Clone. Condition: lists of at most 2^20. -/
import Derived.Test.YtbpmmmnphpkdjaaGreatDoorZCloR
import Derived.Test.YtbpmmmnphpkdjaaGreatDoorZRowX
import Derived.Test.YtbpmmmnphpkdjaaGreatDoorZDltA
import Derived.Test.YtbpmmmnphpkdjaaGreatDoorZAclF
import Derived.Deep.RegionHeld3
import Derived.Deep.Cut
namespace Go.Proofs.YtbpmmmnphpkdjaaGreatDoor
open Go.RowKit Go.MapKept
theorem kTxOk : KdOk kTx where
  len := fun _ => rfl
  pos := by decide
  one := fun x u hu => by
    simp [encTx] at hu
    rcases hu with rfl | rfl | rfl | rfl | rfl | rfl | rfl | rfl | rfl | rfl | rfl | rfl | rfl | rfl | rfl | rfl <;> rfl
  loc := fun H hf hR => ⟨H.1, H.2.1.fr hf hR (fun _ => by simp [enc8]), H.2.2.1.fr hf hR (fun _ => by simp [encAcl]), H.2.2.2.1.fr hf hR (fun _ => by simp [encId]), H.2.2.2.2.fr hf hR (fun _ => by simp [encStr])⟩
def ClonedP (t : TxT) (w : World) (e : Ending) (w' : World) : Prop := (∃ h', e = .returned (txV h') ∧ TxAt w' (w.heap.size ≤ ·) h' t) ∧ Below w.heap.size w w'
/-- a copy that was made at w0 -/
theorem CloneP.slr {α : Type} [Inhabited α] {T : TypeId} {enc : α → List Value} {k n : Nat} {l : List α} {w w' : World} {A : Option Addr} {c : Nat} (h : w'.ownsRow w.heap.size T k (.slice A n c) n (l.flatMap enc)) (hk : ∀ x, (enc x).length = k) (hl : l.length = n) {g : Nat} (hg : g + 2 ≤ w.heap.size) : SlR w' (g + 2 ≤ ·) enc k (A, n, c) l := by
  have := own_slr h hk hl
  exact ⟨this.1, this.2.1, fun h0 => by
    obtain ⟨b, off, e, hb, hc⟩ := this.2.2 h0
    exact ⟨b, off, e, Nat.le_trans hg hb, hc⟩⟩
theorem idx_row {gs k : Nat} : (⟨gs, 0 + k * 16, none⟩ : Addr) = ⟨gs, k * 16, none⟩ := by rw [Nat.zero_add]
theorem rangeAt_heapC {w : World} {b o : Nat} {cs : Array Value} {T : TypeId} {fr : Nat × Nat} {pre mid post : List Value} (h : w.heap[b]? = some (.cells cs T fr)) (hc : cs.toList = pre ++ (mid ++ post)) (hp : pre.length = o) : w.rangeAt b o mid := fun j v hv => by
  have hj : j < mid.length := (List.getElem?_eq_some_iff.1 hv).1
  rw [cellH h, ← Array.getElem?_toList, hc, ← hp, List.getElem?_append_right (by omega), show pre.length + j - pre.length = j by omega, List.getElem?_append_left hj]
  exact hv
theorem fr_setRow9 (w : World) (g : Nat) (cs : Array Value) : Fr [g] w (w.setRow g cs) :=
  ⟨rfl, rfl, rfl, by simp [World.setRow], fun i _ hn => by simp only [List.mem_singleton] at hn; simp [World.setRow, Array.getElem?_modify, Ne.symm hn]⟩
theorem there_fr9 {w w' : World} {own : List Nat} {b o n : Nat} (h : w.there b o n) (hf : Fr own w w') (hn : b ∉ own) : w'.there b o n := fun j hj => by
  obtain ⟨h1, h2⟩ := h j hj
  obtain ⟨u, hu⟩ := Option.isSome_iff_exists.1 h1
  have hlt : b < w.heap.size := World.block_lt_of_cell? w _ hu
  exact ⟨by rw [hf.cell (p := ⟨b, o + j, none⟩) hlt hn]; exact h1, by rw [World.frozen?_of_block (w := w) (hf.block b hlt hn)]; exact h2⟩
theorem heap_hid {w : World} {g : Nat} {c : Array Value} {T : TypeId} (h : w.heap[g]? = some (.cells c T (0, 0))) : g < w.heap.size := (Array.getElem?_eq_some_iff.1 h).1

/-- the two variables of a copying function: what is copied (C), the result (Z) -/
structure CnSt (w V : World) (C Z : Array Value) (T : TypeId) : Prop where
  c : V.heap[w.heap.size]? = some (.cells C T (0, 0))
  z : V.heap[w.heap.size + 1]? = some (.cells Z T (0, 0))
  b : Below w.heap.size w V
  s : w.heap.size + 2 ≤ V.heap.size
theorem CnSt.call {w V V' : World} {C Z : Array Value} {T : TypeId} (H : CnSt w V C Z T) (hb : Below V.heap.size V V') : CnSt w V' C Z T :=
  ⟨(hb.block _ (by have := H.s; omega)).trans H.c, (hb.block _ (by have := H.s; omega)).trans H.z, H.b.trans (hb.mono H.b.size), Nat.le_trans H.s hb.size⟩
theorem CnSt.set {w V : World} {C Z : Array Value} {T : TypeId} (H : CnSt w V C Z T) (o : Nat) (v : Value) : CnSt w (V.setCell ⟨w.heap.size, o, none⟩ v) (C.setIfInBounds o v) Z T :=
  ⟨heap_setN H.c v, (heap_set_other V w.heap.size o v (by omega)).trans H.z, H.b.setCell (Nat.le_refl _) v, Nat.le_trans H.s (fr_set V w.heap.size o v).size⟩
theorem CnSt.cell {w V : World} {C Z : Array Value} {T : TypeId} (H : CnSt w V C Z T) {i : Nat} {v : Value} (hv : C[i]? = some v) : V.cell? ⟨w.heap.size, i, none⟩ = some v := by rw [cellH H.c]; exact hv
theorem CnSt.frz {w V : World} {C Z : Array Value} {T : TypeId} (H : CnSt w V C Z T) (i : Nat) : V.frozen? ⟨w.heap.size, i, none⟩ = false := by simp [World.frozen?, H.c]
theorem CnSt.start (w : World) (C Z : Array Value) (T : TypeId) : CnSt w ((w.alloc (.cells C T)).alloc (.cells Z T)) C Z T :=
  ⟨heap_under (heap_s0 w _), heap_s1 w _ _, ((Below.refl _ w).alloc (Nat.le_refl _) _).alloc (by simp) _, by simp⟩
/-- a copy stays as it is behind a store into the variable -/
theorem SlR.put {α : Type} [Inhabited α] {w : World} {k : Nat} {enc : α → List Value} {h : SlC} {zs : List α} {g : Nat} (H : SlR w (g + 2 ≤ ·) enc k h zs) (hk : ∀ x, 0 < (enc x).length) (o : Nat) (v : Value) : SlR (w.setCell ⟨g, o, none⟩ v) (g + 2 ≤ ·) enc k h zs :=
  H.fr (fr_set w g o v) (fun b _ h => ⟨by simp; omega, h⟩) hk
theorem SlR.later {α : Type} [Inhabited α] {w w' : World} {R : Nat → Prop} {k : Nat} {enc : α → List Value} {h : SlC} {zs : List α} (H : SlR w R enc k h zs) (hb : Below w.heap.size w w') (hk : ∀ x, 0 < (enc x).length) : SlR w' R enc k h zs :=
  H.fr (Fr.of_below (own := []) hb) (fun b _ h => ⟨by simp, h⟩) hk

/-- the loop's state: k elements are copied -/
structure ClR (w : World) (h' : TxH) (v : TxF) (subs : List TxT) (n gs hi : Nat) (Z : Array Value) (k : Nat) (wr : World) : Prop where
  s : CnSt w wr (encTx h').toArray Z 52
  l : locTx wr (fun b => w.heap.size + 2 ≤ b ∧ b ≠ gs) h' v
  r : ClSt kTx w.heap.size hi gs n subs k wr
  hi : hi ≤ wr.heap.size
theorem ClR.step {w : World} {h' : TxH} {v : TxF} {subs : List TxT} {n gs hi : Nat} {Z : Array Value} {k : Nat} {wr w2 : World} (H : ClR w h' v subs n gs hi Z k wr) (hb : Below wr.heap.size wr w2) {hh : TxH} (ht : TxAt w2 (wr.heap.size ≤ ·) hh subs[k]!) (hk : k < n) (hgs : gs < hi) (hB : w.heap.size + 2 ≤ gs) :
    ClR w h' v subs n gs hi Z (k + 1) (w2.setCells gs (k * 16) (encTx hh)) where
  s := ⟨((fr_setCells w2 gs (k * 16) (encTx hh)).block _ (by have := H.s.s; have := hb.size; omega) (by simp; omega)).trans (H.s.call hb).c, ((fr_setCells w2 gs (k * 16) (encTx hh)).block _ (by have := H.s.s; have := hb.size; omega) (by simp; omega)).trans (H.s.call hb).z, (H.s.call hb).b.trans ((fr_setCells w2 gs (k * 16) (encTx hh)).below (H.s.call hb).b.size (by simp; omega)), Nat.le_trans (H.s.call hb).s (fr_setCells w2 gs (k * 16) (encTx hh)).size⟩
  l := kTxOk.loc (kTxOk.loc (R' := fun b => w.heap.size + 2 ≤ b ∧ b ≠ gs) H.l (Fr.of_below (own := []) hb) (fun b _ h => ⟨by simp, h⟩)) (fr_setCells w2 gs (k * 16) (encTx hh)) (fun b _ h => ⟨by simpa using h.2, h⟩)
  r := H.r.step kTxOk hb ht hk hgs H.hi (by omega)
  hi := Nat.le_trans H.hi (Nat.le_trans hb.size (fr_setCells w2 gs (k * 16) (encTx hh)).size)

set_option linter.unusedSimpArgs false in
set_option maxRecDepth 100000 in
set_option maxHeartbeats 20000000 in
theorem cloned_any : ∀ (t : TxT) (h : TxH) (w : World) (R : Nat → Prop), TxAt w R h t → TxOk 1048576 t → Calls Tryz.prog 140 #[txV h] w (ClonedP t w) := by
  refine Tr.ind ?_
  intro v subs ih h w R ht0 hok
  have ht : TxAt w (· < w.heap.size) h (.mk v subs) := ht0.more (fun b hb _ => hb)
  have hl := ht.loc
  obtain ⟨L, hL, hsub⟩ := ht.subs_at
  have hlen := ht.len
  have hsm := hok.top
  have hb1 : Below w.heap.size w ((w.alloc (.cells #[.int .i32 h.n.ty, .string h.n.path, slV h.d, slV h.a, .int .i64 h.n.ow, .int .i32 h.n.ve, .int .i32 h.n.cr, .bool h.n.qh, .int .i64 h.n.qc, .int .i64 h.n.qb, .int .i64 h.n.si, .int .i32 h.n.st, slV h.i, slV h.p, .int .i32 h.n.co, slV h.s] 52)).alloc (.cells #[.int .i32 0, .string ⟨#[]⟩, .slice none 0 0, .slice none 0 0, .int .i64 0, .int .i32 0, .int .i32 0, .bool false, .int .i64 0, .int .i64 0, .int .i64 0, .int .i32 0, .slice none 0 0, .slice none 0 0, .int .i32 0, .slice none 0 0] 52)) := ((Below.refl _ w).alloc (Nat.le_refl _) _).alloc (by simp) _
  have HS := Lib.hid (CnSt.start w #[.int .i32 h.n.ty, .string h.n.path, slV h.d, slV h.a, .int .i64 h.n.ow, .int .i32 h.n.ve, .int .i32 h.n.cr, .bool h.n.qh, .int .i64 h.n.qc, .int .i64 h.n.qb, .int .i64 h.n.si, .int .i32 h.n.st, slV h.i, slV h.p, .int .i32 h.n.co, slV h.s] #[.int .i32 0, .string ⟨#[]⟩, .slice none 0 0, .slice none 0 0, .int .i64 0, .int .i32 0, .int .i32 0, .bool false, .int .i64 0, .int .i64 0, .int .i64 0, .int .i32 0, .slice none 0 0, .slice none 0 0, .int .i32 0, .slice none 0 0] 52)
  have HCd := Lib.hid (fun (W : World) (hW : Below w.heap.size w W) => cloneByte_any h.d.1 h.d.2.1 h.d.2.2 v.data W ((hl.2.1.sl (fun _ => by simp [enc8])).belowMore hW hW.size) hl.2.1.hd.1 (by have h1 := hsm.2.2.1; have h2 := hl.2.1.1; simp only [Tr.v, Tr.subs] at *; omega))
  have HLd := Lib.hid hl.2.1.len
  have HCa := Lib.hid (fun (W : World) (hW : Below w.heap.size w W) => cloneAcl_any h.a.1 h.a.2.1 h.a.2.2 v.acl W ((hl.2.2.1.sl (fun _ => by simp [encAcl])).belowMore hW hW.size) hl.2.2.1.hd.1 (by have h1 := hsm.2.2.2.1; have h2 := hl.2.2.1.1; simp only [Tr.v, Tr.subs] at *; omega))
  have HLa := Lib.hid hl.2.2.1.len
  have HCi := Lib.hid (fun (W : World) (hW : Below w.heap.size w W) => cloneIds_any h.i.1 h.i.2.1 h.i.2.2 v.ids W ((hl.2.2.2.1.sl (fun _ => by simp [encId])).belowMore hW hW.size) hl.2.2.2.1.hd.1 (by have h1 := hsm.2.2.2.2.1; have h2 := hl.2.2.2.1.1; simp only [Tr.v, Tr.subs] at *; omega))
  have HLi := Lib.hid hl.2.2.2.1.len
  have HCp := Lib.hid (fun (W : World) (hW : Below w.heap.size w W) => cloneStr_any h.p.1 h.p.2.1 h.p.2.2 v.paths W ((hl.2.2.2.2.sl (fun _ => by simp [encStr])).belowMore hW hW.size) hl.2.2.2.2.hd.1 (by have h1 := hsm.2.2.2.2.2.1; have h2 := hl.2.2.2.2.1; simp only [Tr.v, Tr.subs] at *; omega))
  have HLp := Lib.hid hl.2.2.2.2.len
  have HCs := Lib.hid (fun (W : World) (hW : Below w.heap.size w W) => cloneTx_any h.s.1 h.s.2.1 h.s.2.2 L W ((hL.sl (fun _ => by simp [encTx])).belowMore hW hW.size) hL.hd.1 (Nat.le_trans (show h.s.2.1 ≤ 1048576 by have h1 := hsm.2.2.2.2.2.2.1; rw [hlen] at h1; exact h1) (by omega)))
  have HLs := Lib.hid hL.len
  have HSUB := Lib.hid hsub; have HLEN := Lib.hid (show subs.length = h.s.2.1 from hlen); have HN := Lib.hid hl.1
  have HIH := Lib.hid ih; have HOK := Lib.hid (fun k (hk : k < subs.length) => hok.subAt (j := k) hk)
  have HSB := Lib.hid (show h.s.2.1 ≤ 1048576 by have h1 := hsm.2.2.2.2.2.2.1; rw [hlen] at h1; exact h1)
  have HB := Lib.hid hb1
  clear ht0 ht hl hL hsub hlen hsm hb1 ih hok
  go_enter Tryz.func140, Tryz.ntmps140
  go_wp2_with (first
    | (apply wpList_storeTop 52 52; exact rfl; exact rfl; exact rfl; (first | (with_reducible rfl) | (exact sz1 _ _) | (exact sz2 _ _ _) | (exact sz3 _ _ _ _)); exact rfl; exact infTx; exact rfl; simp [Value.oneCell'])
    | fail)
  refine (HCd.out _ HS.out.b).mono ?_
  generalize ((w.alloc (.cells #[.int .i32 h.n.ty, .string h.n.path, slV h.d, slV h.a, .int .i64 h.n.ow, .int .i32 h.n.ve, .int .i32 h.n.cr, .bool h.n.qh, .int .i64 h.n.qc, .int .i64 h.n.qb, .int .i64 h.n.si, .int .i32 h.n.st, slV h.i, slV h.p, .int .i32 h.n.co, slV h.s] 52)).alloc (.cells #[.int .i32 0, .string ⟨#[]⟩, .slice none 0 0, .slice none 0 0, .int .i64 0, .int .i32 0, .int .i32 0, .bool false, .int .i64 0, .int .i64 0, .int .i64 0, .int .i32 0, .slice none 0 0, .slice none 0 0, .int .i32 0, .slice none 0 0] 52)) = V0 at *
  rintro e w0 ⟨⟨A0, c0, rfl, hr⟩, hb⟩
  have HRd := Lib.hid hr; have HSZ0 := Lib.hid (show w.heap.size + 2 ≤ V0.heap.size from HS.out.s); have HBX0 := Lib.hid hb
  replace HRd := Lib.hid (CloneP.slr hr (fun _ => rfl) HLd.out HSZ0.out)
  replace HS := Lib.hid (HS.out.call hb)
  have z0 := HS.out.cell (i := 2) (v := slV h.d) rfl
  have f0 := HS.out.frz 2
  have y0 := HS.out.cell (i := 3) (v := slV h.a) rfl
  clear hr hb
  go_wp2_with fail
  replace HS := Lib.hid (HS.out.set 2 (.slice A0 h.d.2.1 c0))
  replace HS := Lib.hid (show CnSt w (w0.setCell ⟨w.heap.size, 2, none⟩ (.slice A0 h.d.2.1 c0)) #[.int .i32 h.n.ty, .string h.n.path, .slice A0 h.d.2.1 c0, slV h.a, .int .i64 h.n.ow, .int .i32 h.n.ve, .int .i32 h.n.cr, .bool h.n.qh, .int .i64 h.n.qc, .int .i64 h.n.qb, .int .i64 h.n.si, .int .i32 h.n.st, slV h.i, slV h.p, .int .i32 h.n.co, slV h.s] _ _ from HS.out)
  replace HRd := Lib.hid (HRd.out.put (fun _ => by simp [enc8]) 2 (.slice A0 h.d.2.1 c0))
  generalize w0.setCell ⟨w.heap.size, 2, none⟩ (.slice A0 h.d.2.1 c0) = V1 at *
  clear z0 f0 y0 HSZ0 HBX0
  refine (HCa.out _ HS.out.b).mono ?_
  rintro e w1 ⟨⟨A1, c1, rfl, hr⟩, hb⟩
  have HRa := Lib.hid hr; have HSZ1 := Lib.hid (show w.heap.size + 2 ≤ V1.heap.size from HS.out.s); have HBX1 := Lib.hid hb
  replace HRd := Lib.hid (HRd.out.later hb (fun _ => by simp [enc8]))
  replace HRa := Lib.hid (CloneP.slr hr (fun _ => rfl) HLa.out HSZ1.out)
  replace HS := Lib.hid (HS.out.call hb)
  have z1 := HS.out.cell (i := 3) (v := slV h.a) rfl
  have f1 := HS.out.frz 3
  have y1 := HS.out.cell (i := 12) (v := slV h.i) rfl
  clear hr hb
  go_wp2_with fail
  replace HS := Lib.hid (HS.out.set 3 (.slice A1 h.a.2.1 c1))
  replace HS := Lib.hid (show CnSt w (w1.setCell ⟨w.heap.size, 3, none⟩ (.slice A1 h.a.2.1 c1)) #[.int .i32 h.n.ty, .string h.n.path, .slice A0 h.d.2.1 c0, .slice A1 h.a.2.1 c1, .int .i64 h.n.ow, .int .i32 h.n.ve, .int .i32 h.n.cr, .bool h.n.qh, .int .i64 h.n.qc, .int .i64 h.n.qb, .int .i64 h.n.si, .int .i32 h.n.st, slV h.i, slV h.p, .int .i32 h.n.co, slV h.s] _ _ from HS.out)
  replace HRd := Lib.hid (HRd.out.put (fun _ => by simp [enc8]) 3 (.slice A1 h.a.2.1 c1))
  replace HRa := Lib.hid (HRa.out.put (fun _ => by simp [encAcl]) 3 (.slice A1 h.a.2.1 c1))
  generalize w1.setCell ⟨w.heap.size, 3, none⟩ (.slice A1 h.a.2.1 c1) = V2 at *
  clear z1 f1 y1 HSZ1 HBX1
  refine (HCi.out _ HS.out.b).mono ?_
  rintro e w2 ⟨⟨A2, c2, rfl, hr⟩, hb⟩
  have HRi := Lib.hid hr; have HSZ2 := Lib.hid (show w.heap.size + 2 ≤ V2.heap.size from HS.out.s); have HBX2 := Lib.hid hb
  replace HRd := Lib.hid (HRd.out.later hb (fun _ => by simp [enc8]))
  replace HRa := Lib.hid (HRa.out.later hb (fun _ => by simp [encAcl]))
  replace HRi := Lib.hid (CloneP.slr hr (fun _ => rfl) HLi.out HSZ2.out)
  replace HS := Lib.hid (HS.out.call hb)
  have z2 := HS.out.cell (i := 12) (v := slV h.i) rfl
  have f2 := HS.out.frz 12
  have y2 := HS.out.cell (i := 13) (v := slV h.p) rfl
  clear hr hb
  go_wp2_with fail
  replace HS := Lib.hid (HS.out.set 12 (.slice A2 h.i.2.1 c2))
  replace HS := Lib.hid (show CnSt w (w2.setCell ⟨w.heap.size, 12, none⟩ (.slice A2 h.i.2.1 c2)) #[.int .i32 h.n.ty, .string h.n.path, .slice A0 h.d.2.1 c0, .slice A1 h.a.2.1 c1, .int .i64 h.n.ow, .int .i32 h.n.ve, .int .i32 h.n.cr, .bool h.n.qh, .int .i64 h.n.qc, .int .i64 h.n.qb, .int .i64 h.n.si, .int .i32 h.n.st, .slice A2 h.i.2.1 c2, slV h.p, .int .i32 h.n.co, slV h.s] _ _ from HS.out)
  replace HRd := Lib.hid (HRd.out.put (fun _ => by simp [enc8]) 12 (.slice A2 h.i.2.1 c2))
  replace HRa := Lib.hid (HRa.out.put (fun _ => by simp [encAcl]) 12 (.slice A2 h.i.2.1 c2))
  replace HRi := Lib.hid (HRi.out.put (fun _ => by simp [encId]) 12 (.slice A2 h.i.2.1 c2))
  generalize w2.setCell ⟨w.heap.size, 12, none⟩ (.slice A2 h.i.2.1 c2) = V3 at *
  clear z2 f2 y2 HSZ2 HBX2
  refine (HCp.out _ HS.out.b).mono ?_
  rintro e w3 ⟨⟨A3, c3, rfl, hr⟩, hb⟩
  have HRp := Lib.hid hr; have HSZ3 := Lib.hid (show w.heap.size + 2 ≤ V3.heap.size from HS.out.s); have HBX3 := Lib.hid hb
  replace HRd := Lib.hid (HRd.out.later hb (fun _ => by simp [enc8]))
  replace HRa := Lib.hid (HRa.out.later hb (fun _ => by simp [encAcl]))
  replace HRi := Lib.hid (HRi.out.later hb (fun _ => by simp [encId]))
  replace HRp := Lib.hid (CloneP.slr hr (fun _ => rfl) HLp.out HSZ3.out)
  replace HS := Lib.hid (HS.out.call hb)
  have z3 := HS.out.cell (i := 13) (v := slV h.p) rfl
  have f3 := HS.out.frz 13
  have y3 := HS.out.cell (i := 15) (v := slV h.s) rfl
  clear hr hb
  go_wp2_with fail
  replace HS := Lib.hid (HS.out.set 13 (.slice A3 h.p.2.1 c3))
  replace HS := Lib.hid (show CnSt w (w3.setCell ⟨w.heap.size, 13, none⟩ (.slice A3 h.p.2.1 c3)) #[.int .i32 h.n.ty, .string h.n.path, .slice A0 h.d.2.1 c0, .slice A1 h.a.2.1 c1, .int .i64 h.n.ow, .int .i32 h.n.ve, .int .i32 h.n.cr, .bool h.n.qh, .int .i64 h.n.qc, .int .i64 h.n.qb, .int .i64 h.n.si, .int .i32 h.n.st, .slice A2 h.i.2.1 c2, .slice A3 h.p.2.1 c3, .int .i32 h.n.co, slV h.s] _ _ from HS.out)
  replace HRd := Lib.hid (HRd.out.put (fun _ => by simp [enc8]) 13 (.slice A3 h.p.2.1 c3))
  replace HRa := Lib.hid (HRa.out.put (fun _ => by simp [encAcl]) 13 (.slice A3 h.p.2.1 c3))
  replace HRi := Lib.hid (HRi.out.put (fun _ => by simp [encId]) 13 (.slice A3 h.p.2.1 c3))
  replace HRp := Lib.hid (HRp.out.put (fun _ => by simp [encStr]) 13 (.slice A3 h.p.2.1 c3))
  generalize w3.setCell ⟨w.heap.size, 13, none⟩ (.slice A3 h.p.2.1 c3) = V4 at *
  clear z3 f3 y3 HSZ3 HBX3
  refine (HCs.out _ HS.out.b).mono ?_
  rintro e w4 ⟨⟨A4, c4, rfl, hr⟩, hb⟩
  have HRs := Lib.hid hr; have HSZ4 := Lib.hid (show w.heap.size + 2 ≤ V4.heap.size from HS.out.s); have HBX4 := Lib.hid hb
  replace HRd := Lib.hid (HRd.out.fr (R' := fun b => w.heap.size + 2 ≤ b ∧ b < V4.heap.size) (Fr.of_below (own := []) hb) (fun b hlt h => ⟨by simp, h, hlt⟩) (fun _ => by simp [enc8]))
  replace HRa := Lib.hid (HRa.out.fr (R' := fun b => w.heap.size + 2 ≤ b ∧ b < V4.heap.size) (Fr.of_below (own := []) hb) (fun b hlt h => ⟨by simp, h, hlt⟩) (fun _ => by simp [encAcl]))
  replace HRi := Lib.hid (HRi.out.fr (R' := fun b => w.heap.size + 2 ≤ b ∧ b < V4.heap.size) (Fr.of_below (own := []) hb) (fun b hlt h => ⟨by simp, h, hlt⟩) (fun _ => by simp [encId]))
  replace HRp := Lib.hid (HRp.out.fr (R' := fun b => w.heap.size + 2 ≤ b ∧ b < V4.heap.size) (Fr.of_below (own := []) hb) (fun b hlt h => ⟨by simp, h, hlt⟩) (fun _ => by simp [encStr]))
  replace HS := Lib.hid (HS.out.call hb)
  have z4 := HS.out.cell (i := 15) (v := slV h.s) rfl
  have f4 := HS.out.frz 15
  clear hr hb
  go_wp2_with fail
  obtain ⟨hA, hnc, gs, hgs, hgA, hst⟩ := ClSt.start kTxOk (B := w.heap.size) (subs := subs) HRs.out HLs.out (fun j hj => (HSUB.out j hj).fr kTxOk (Fr.of_below (own := []) HS.out.b) (fun b hlt _ => ⟨by simp, hlt⟩))
  have hst' := hst.other kTxOk (fr_set w4 w.heap.size 15 (.slice A4 h.s.2.1 c4)) (World.there_setCells hst.th w.heap.size 15 [.slice A4 h.s.2.1 c4]) (by have := HSZ4.out; simp; omega) (fun g hg => by have := HS.out.s; simp at hg; omega)
  have HR0 := Lib.hid (show ClR w ⟨h.n, (A0, h.d.2.1, c0), (A1, h.a.2.1, c1), (A2, h.i.2.1, c2), (A3, h.p.2.1, c3), (A4, h.s.2.1, c4)⟩ v subs h.s.2.1 gs w4.heap.size _ 0 (w4.setCell ⟨w.heap.size, 15, none⟩ (.slice A4 h.s.2.1 c4)) from
    ⟨HS.out.set 15 _, ⟨HN.out, HRd.out.fr (fr_set _ _ _ _) (fun b _ h => ⟨by simp; omega, h.1, by have := HBX4.out.size; omega⟩) (fun _ => by simp [enc8]), HRa.out.fr (fr_set _ _ _ _) (fun b _ h => ⟨by simp; omega, h.1, by omega⟩) (fun _ => by simp [encAcl]), HRi.out.fr (fr_set _ _ _ _) (fun b _ h => ⟨by simp; omega, h.1, by omega⟩) (fun _ => by simp [encId]), HRp.out.fr (fr_set _ _ _ _) (fun b _ h => ⟨by simp; omega, h.1, by omega⟩) (fun _ => by simp [encStr])⟩, hst', (fr_set w4 w.heap.size 15 _).size⟩)
  have HA := Lib.hid (And.intro hA (And.intro hnc hgA)); have HGS := Lib.hid (show w.heap.size + 2 ≤ gs from Nat.le_trans HSZ4.out hgs); have HHI := Lib.hid (show 0 < h.s.2.1 → gs < w4.heap.size from fun h0 => (hgA h0).2)
  clear hA hnc hgs hgA hst hst' HRd HRa HRi HRp HRs HCd HCa HCi HCp HCs HLd HLa HLi HLp HLs z4 f4 HS HSUB HB
  generalize w4.setCell ⟨w.heap.size, 15, none⟩ (.slice A4 h.s.2.1 c4) = V5 at *
  have HSH := Lib.hid (show w.heap.size + 2 ≤ w4.heap.size from Nat.le_trans HSZ4.out HBX4.out.size)
  clear HBX4 HSZ4
  generalize w4.heap.size = hi at *
  go_loopw [30] (fun i wr => ∃ k : Nat, i = .int .i64 ↑k ∧ k ≤ h.s.2.1 ∧ ClR w ⟨h.n, (A0, h.d.2.1, c0), (A1, h.a.2.1, c1), (A2, h.i.2.1, c2), (A3, h.p.2.1, c3), (A4, h.s.2.1, c4)⟩ v subs h.s.2.1 gs hi #[.int .i32 0, .string ⟨#[]⟩, .slice none 0 0, .slice none 0 0, .int .i64 0, .int .i32 0, .int .i32 0, .bool false, .int .i64 0, .int .i64 0, .int .i64 0, .int .i32 0, .slice none 0 0, .slice none 0 0, .int .i32 0, .slice none 0 0] k wr) (fun i _ => h.s.2.1 - (RowKit.intOf i).toNat)
  case atStart => exact ⟨0, rfl, Nat.zero_le _, HR0.out⟩
  case round =>
    obtain ⟨k, rfl, hk, hR⟩ := hrel
    have hsb := HSB.out
    by_cases hlt : k < h.s.2.1
    · have hA4 := (HA.out.2.2 (by omega)).1
      have hb9 : Below wr.heap.size wr wr := Below.refl _ _
      obtain ⟨hh, hr, htk⟩ := hR.r.old k (Nat.le_refl _) hlt
      have HIHk := Lib.hid (fun (W : World) (hW : Below wr.heap.size wr W) => HIH.out k (by rw [HLEN.out]; exact hlt) hh W _ (htk.fr kTxOk (Fr.of_below (own := []) hW) (fun b hb h => ⟨by simp, h⟩)) (HOK.out k (by rw [HLEN.out]; exact hlt)))
      have HR := Lib.hid hR
      have x15 : wr.cell? ⟨w.heap.size, 15, none⟩ = some (.slice A4 h.s.2.1 c4) := hR.s.cell rfl
      have HLT := Lib.hid hlt
      subst hA4
      obtain ⟨W9, HW9⟩ : ∃ W9 : World, Hid (W9 = wr.alloc (.cells #[.int .i32 hh.n.ty, .string hh.n.path, slV hh.d, slV hh.a, .int .i64 hh.n.ow, .int .i32 hh.n.ve, .int .i32 hh.n.cr, .bool hh.n.qh, .int .i64 hh.n.qc, .int .i64 hh.n.qb, .int .i64 hh.n.si, .int .i32 hh.n.st, slV hh.i, slV hh.p, .int .i32 hh.n.co, slV hh.s] 52)) := ⟨_, Lib.hid rfl⟩
      have hbw : Below wr.heap.size wr W9 := HW9.out ▸ (Below.refl _ wr).alloc (Nat.le_refl _) _
      have hg9 : W9.heap[wr.heap.size]? = some (.cells #[.int .i32 hh.n.ty, .string hh.n.path, slV hh.d, slV hh.a, .int .i64 hh.n.ow, .int .i32 hh.n.ve, .int .i32 hh.n.cr, .bool hh.n.qh, .int .i64 hh.n.qc, .int .i64 hh.n.qb, .int .i64 hh.n.si, .int .i32 hh.n.st, slV hh.i, slV hh.p, .int .i32 hh.n.co, slV hh.s] 52 (0, 0)) := HW9.out ▸ heap_alloc_new wr _
      have HSO := Lib.hid (fun (W : World) (hW : Below W9.heap.size W9 W) => And.intro (hbw.trans (hW.mono hbw.size)) (And.intro (keep1 x15 (hbw.trans (hW.mono hbw.size))) (range_below (rangeAt_heapC (pre := []) (mid := encTx hh) (post := []) hg9 rfl rfl) hW)))
      have S0 := HSO.out W9 (Below.refl _ _)
      clear hR x15 htk hbw hg9
      go_wp2_with (first
        | (apply wpList_loadMid 52; exact rfl; exact rfl; exact rfl; assumption; exact undTx; exact rfl; exact infTx)
        | (apply wpList_storeTop 52 52; exact rfl; exact rfl; exact rfl; (first | (with_reducible rfl) | (exact sz1 _ _) | (exact sz2 _ _ _) | (exact sz3 _ _ _ _)); exact rfl; exact infTx; exact rfl; simp [Value.oneCell'])
        | fail)
      rw [← HW9.out]
      refine wp_region_held_drew (S := fun w' => w'.cell? ⟨w.heap.size, 15, none⟩ = some (.slice (some ⟨gs, 0, none⟩) h.s.2.1 c4) ∧ w'.rangeAt wr.heap.size 0 (encTx hh)) (by kernel_rfl) (HSO.out _ (drew_self _)).2 (fun hHeld => ?_)
      refine wpAnyH_take (i := 0) (v := .pointer (some ⟨w.heap.size, 15, none⟩)) rfl (by kernel_rfl) (by kernel_rfl) (by kernel_rfl) (fun _ _ _ h => h) (Or.inl ⟨by rfl, by intro w hSw; clear hSw; go_simp⟩) (by assumption) ?_
      simp only [Act.put, List.setIfInBounds_toArray, List.set_cons_zero, List.set_cons_succ]
      refine wpAnyH_take (i := 1) (v := .slice (some ⟨gs, 0, none⟩) h.s.2.1 c4) rfl (by kernel_rfl) (by kernel_rfl) (by kernel_rfl) (fun _ _ _ h => h) (Or.inl ⟨by rfl, by intro w hSw; obtain ⟨hSw, _⟩ := hSw; go_simp⟩) (by assumption) ?_
      simp only [Act.put, List.setIfInBounds_toArray, List.set_cons_zero, List.set_cons_succ]
      refine wpAnyH_take (i := 2) (v := .int .i64 ↑k) rfl (by kernel_rfl) (by kernel_rfl) (by kernel_rfl) (fun _ _ _ h => h) (Or.inl ⟨by rfl, by intro w hSw; clear hSw; go_simp⟩) (by assumption) ?_
      simp only [Act.put, List.setIfInBounds_toArray, List.set_cons_zero, List.set_cons_succ]
      refine wpAnyH_take (i := 3) (v := .agg (encTx hh).toArray) rfl (by kernel_rfl) (by kernel_rfl) (by kernel_rfl) (fun _ _ _ h => h) (yieldsIf_load_mid (by rfl) 52 _ rfl wr.heap.size 0 rfl (encTx hh) _ (fun _ h => h.2) undTx rfl infTx) (by assumption) ?_
      simp only [Act.put, List.setIfInBounds_toArray, List.set_cons_zero, List.set_cons_succ]
      refine wpAnyH_ready (rs := [4]) (by kernel_rfl) (by simp) (AllReadyH.cons rfl (fun K hK => ?_) AllReadyH.nil)
      go_simp
      refine (HIHk.out _ (HSO.out _ (drew_self _)).1).mono ?_
      rintro e w6 ⟨⟨h6, rfl, ht6⟩, hb6⟩
      dsimp only
      refine hK.out _ _ (HSO.out _ ((drew_self _).trans (hb6.mono (drew_self _).size))).2 (fun hHeld2 => ?_)
      clear hK K
      refine wpAnyH_take (i := 5) (v := .pointer (some ⟨gs, k * 16, none⟩)) rfl (by kernel_rfl) (by kernel_rfl) (by kernel_rfl) (fun _ _ _ h => h) (Or.inl ⟨by rfl, by intro w hSw; clear hSw; go_simp⟩) (by assumption) ?_
      simp only [Act.put, List.setIfInBounds_toArray, List.set_cons_zero, List.set_cons_succ]
      refine wpAnyH_ready (rs := [6]) (by kernel_rfl) (by simp) (AllReadyH.cons rfl (fun K hK => ?_) AllReadyH.nil)
      rw [if_pos (by rfl)]
      have hbA := (HSO.out _ (drew_self _)).1.trans (hb6.mono (HSO.out _ (drew_self _)).1.size)
      have hth := HR.out.r.there_row hlt
      refine wp_store_mid 52 _ _ rfl gs (k * 16) (encTx h6).toArray rfl rfl (there_below hth hbA) infTx (oneTx h6) ?_
      simp only [Act.put, List.setIfInBounds_toArray, List.set_cons_zero, List.set_cons_succ]
      have hFC := fr_setCells w6 gs (k * 16) (encTx h6)
      refine hK.out _ _ ⟨?_, ?_⟩ (fun hHeld3 => ?_)
      · have h1 := HR.out.s.s; have h2 := HGS.out
        exact (hFC.cell (p := ⟨w.heap.size, 15, none⟩) (by have := hbA.size; simp only; omega) (by simp; omega)).trans hHeld2.1
      · have h1 := HHI.out (by omega); have h2 := HR.out.hi
        exact World.rangeAt_setCells_apart hHeld2.2 _ _ _ (.inl (by omega))
      clear hK K
      refine wpAnyH_done (by kernel_rfl) ?_ _
      have HX := Lib.hid (HR.out.step hbA (hh := h6) (TrAt.fr kTxOk ht6 (Fr.refl [] w6) (fun b _ h => ⟨by simp, Nat.le_trans (HSO.out _ (drew_self _)).1.size h⟩)) hlt (HHI.out (by omega)) HGS.out)
      have hlk := HLT.out
      clear hFC hth hbA hHeld3 hHeld2 hHeld HR HSO HR0 ht6 hb6
      (try dsimp only [List.getElem_toArray, List.getElem_cons_succ, List.getElem_cons_zero])
      go_wp2_with fail
      go_roundw
      case rel => exact ⟨k + 1, by go_num, by omega, HX.out⟩
      case measure => show h.s.2.1 - ((↑k + 1 : Int)).toNat < h.s.2.1 - (↑k : Int).toNat; omega
    · have hkn : k = h.s.2.1 := by omega
      subst hkn
      have gC : wr.heap[w.heap.size]? = some (.cells #[.int .i32 h.n.ty, .string h.n.path, .slice A0 h.d.2.1 c0, .slice A1 h.a.2.1 c1, .int .i64 h.n.ow, .int .i32 h.n.ve, .int .i32 h.n.cr, .bool h.n.qh, .int .i64 h.n.qc, .int .i64 h.n.qb, .int .i64 h.n.si, .int .i32 h.n.st, .slice A2 h.i.2.1 c2, .slice A3 h.p.2.1 c3, .int .i32 h.n.co, .slice A4 h.s.2.1 c4] 52 (0, 0)) := hR.s.c
      have gZ := hR.s.z
      have HF := Lib.hid (fr_setRow9 wr (w.heap.size + 1) (encTx ⟨h.n, (A0, h.d.2.1, c0), (A1, h.a.2.1, c1), (A2, h.i.2.1, c2), (A3, h.p.2.1, c3), (A4, h.s.2.1, c4)⟩).toArray)
      have HTH := Lib.hid (hR.r.other kTxOk HF.out (there_fr9 hR.r.th HF.out (by have := HGS.out; simp; omega)) (by have := HGS.out; simp; omega) (fun g hg => by have := HSH.out; simp at hg; omega))
      have HR := Lib.hid hR
      clear hR HR0
      go_wp2_with (first
        | (apply wpList_loadRow 52 52; exact rfl; exact rfl; exact rfl; (first | assumption | (refine heap_under ?_; assumption) | (exact heap_s0 _ _) | (exact heap_s1 _ _ _) | (exact heap_s2 _ _ _ _) | (exact heap_s3 _ _ _ _ _) | (exact heap_under (heap_s0 _ _)) | (exact heap_under (heap_s1 _ _ _)) | (exact heap_under (heap_s2 _ _ _ _)) | (exact heap_under (heap_under (heap_s0 _ _))) | (exact heap_under (heap_under (heap_s1 _ _ _))) | (exact heap_under (heap_under (heap_under (heap_s0 _ _))))); exact undTx; exact rfl; exact infTx)
        | (apply wpList_storeRow 52 52; exact rfl; exact rfl; exact rfl; exact rfl; (first | assumption | (refine heap_under ?_; assumption) | (exact heap_s0 _ _) | (exact heap_s1 _ _ _) | (exact heap_s2 _ _ _ _) | (exact heap_s3 _ _ _ _ _) | (exact heap_under (heap_s0 _ _)) | (exact heap_under (heap_s1 _ _ _)) | (exact heap_under (heap_s2 _ _ _ _)) | (exact heap_under (heap_under (heap_s0 _ _))) | (exact heap_under (heap_under (heap_s1 _ _ _))) | (exact heap_under (heap_under (heap_under (heap_s0 _ _))))); exact infTx; exact rfl; simp [Value.oneCell'])
        | fail)
      have hTR : TxAt (wr.setRow (w.heap.size + 1) (encTx ⟨h.n, (A0, h.d.2.1, c0), (A1, h.a.2.1, c1), (A2, h.i.2.1, c2), (A3, h.p.2.1, c3), (A4, h.s.2.1, c4)⟩).toArray) (w.heap.size ≤ ·) ⟨h.n, (A0, h.d.2.1, c0), (A1, h.a.2.1, c1), (A2, h.i.2.1, c2), (A3, h.p.2.1, c3), (A4, h.s.2.1, c4)⟩ (.mk v subs) :=
        HTH.out.tree kTxOk (kTxOk.loc HR.out.l HF.out (fun b _ h => ⟨by simp; omega, by omega⟩)) HLEN.out rfl ⟨HA.out.1, HA.out.2.1⟩ (fun h0 => ⟨(HA.out.2.2 h0).1, by have := HGS.out; omega⟩) (fun b hb => by have := HSH.out; omega)
      exact bodyPost_cell rfl rfl (setRow_heap _ _ _ _ _ _ gZ) undTx rfl infTx rfl ⟨⟨_, rfl, hTR⟩, below_setRow HR.out.s.b (by omega) _⟩

end Go.Proofs.YtbpmmmnphpkdjaaGreatDoor
namespace Go.Proofs.YtbpmmmnphpkdjaaGreatDoor
open Go.RowKit Go.MapKept
def CloneDlP (t : DlT) (w : World) (e : Ending) (w' : World) : Prop := (∃ h', e = .returned (dlV h') ∧ DlAt w' (w.heap.size ≤ ·) h' t) ∧ Below w.heap.size w w'
theorem rangeAt_join {w : World} {b o o' : Nat} {cs cs' : List Value} (h : w.rangeAt b o cs) (h' : w.rangeAt b o' cs') (e : o' = o + cs.length) : w.rangeAt b o (cs ++ cs') := fun j v hv => by
  rw [List.getElem?_append] at hv
  split at hv
  · exact h j v hv
  · rename_i hj
    have := h' _ v hv
    rwa [show o' + (j - cs.length) = o + j by omega] at this
theorem there_heap {w : World} {b : Nat} {C : Array Value} {T : TypeId} (h : w.heap[b]? = some (.cells C T (0, 0))) (o n : Nat) (hn : o + n ≤ C.size) : w.there b o n := fun j hj => by
  have hj' : o + j < C.size := by omega
  refine ⟨?_, by simp [World.frozen?, h]⟩
  rw [cellH h, Array.getElem?_eq_getElem hj']; rfl
set_option maxRecDepth 100000 in
set_option maxHeartbeats 20000000 in
theorem cloneDl_any (h : DlH) (t : DlT) (w : World) (R : Nat → Prop) (ht : DlAt w R h t) (hok : DlSm 1048576 t) : Calls Tryz.prog 109 #[dlV h] w (CloneDlP t w) := by
  have HS := Lib.hid (CnSt.start w #[.int .i64 h.se, .int .i32 h.xi, .int .i64 h.zx, .int .i64 h.ti, .int .i32 h.t.n.ty, .string h.t.n.path, slV h.t.d, slV h.t.a, .int .i64 h.t.n.ow, .int .i32 h.t.n.ve, .int .i32 h.t.n.cr, .bool h.t.n.qh, .int .i64 h.t.n.qc, .int .i64 h.t.n.qb, .int .i64 h.t.n.si, .int .i32 h.t.n.st, slV h.t.i, slV h.t.p, .int .i32 h.t.n.co, slV h.t.s] #[.int .i64 0, .int .i32 0, .int .i64 0, .int .i64 0, .int .i32 0, .string ⟨#[]⟩, .slice none 0 0, .slice none 0 0, .int .i64 0, .int .i32 0, .int .i32 0, .bool false, .int .i64 0, .int .i64 0, .int .i64 0, .int .i32 0, .slice none 0 0, .slice none 0 0, .int .i32 0, .slice none 0 0] 54)
  have HC := Lib.hid (fun (W : World) (hW : Below w.heap.size w W) => cloned_any t.t h.t W _ (TrAt.fr kTxOk (R' := R) ht.2 (Fr.of_below (own := []) hW) (fun b _ h => ⟨by simp, h⟩)) hok.2)
  have HE := Lib.hid ht.1
  have r0 : ((w.alloc (.cells #[.int .i64 h.se, .int .i32 h.xi, .int .i64 h.zx, .int .i64 h.ti, .int .i32 h.t.n.ty, .string h.t.n.path, slV h.t.d, slV h.t.a, .int .i64 h.t.n.ow, .int .i32 h.t.n.ve, .int .i32 h.t.n.cr, .bool h.t.n.qh, .int .i64 h.t.n.qc, .int .i64 h.t.n.qb, .int .i64 h.t.n.si, .int .i32 h.t.n.st, slV h.t.i, slV h.t.p, .int .i32 h.t.n.co, slV h.t.s] 54)).alloc (.cells #[.int .i64 0, .int .i32 0, .int .i64 0, .int .i64 0, .int .i32 0, .string ⟨#[]⟩, .slice none 0 0, .slice none 0 0, .int .i64 0, .int .i32 0, .int .i32 0, .bool false, .int .i64 0, .int .i64 0, .int .i64 0, .int .i32 0, .slice none 0 0, .slice none 0 0, .int .i32 0, .slice none 0 0] 54)).rangeAt w.heap.size 4 (encTx h.t) := rangeAt_heapC (pre := [.int .i64 h.se, .int .i32 h.xi, .int .i64 h.zx, .int .i64 h.ti]) (mid := encTx h.t) (post := []) HS.out.c rfl rfl
  clear ht hok
  go_enter Tryz.func109, Tryz.ntmps109
  go_wp2_with (first
    | (apply wpList_storeTop 54 54; exact rfl; exact rfl; exact rfl; (first | (with_reducible rfl) | (exact sz1 _ _) | (exact sz2 _ _ _) | (exact sz3 _ _ _ _)); exact rfl; exact infDl; exact rfl; simp [Value.oneCell'])
    | (apply wpList_loadMid 52; exact rfl; exact rfl; exact rfl; assumption; exact undTx; exact rfl; exact infTx)
    | fail)
  refine (HC.out _ HS.out.b).mono ?_
  generalize ((w.alloc (.cells #[.int .i64 h.se, .int .i32 h.xi, .int .i64 h.zx, .int .i64 h.ti, .int .i32 h.t.n.ty, .string h.t.n.path, slV h.t.d, slV h.t.a, .int .i64 h.t.n.ow, .int .i32 h.t.n.ve, .int .i32 h.t.n.cr, .bool h.t.n.qh, .int .i64 h.t.n.qc, .int .i64 h.t.n.qb, .int .i64 h.t.n.si, .int .i32 h.t.n.st, slV h.t.i, slV h.t.p, .int .i32 h.t.n.co, slV h.t.s] 54)).alloc (.cells #[.int .i64 0, .int .i32 0, .int .i64 0, .int .i64 0, .int .i32 0, .string ⟨#[]⟩, .slice none 0 0, .slice none 0 0, .int .i64 0, .int .i32 0, .int .i32 0, .bool false, .int .i64 0, .int .i64 0, .int .i64 0, .int .i32 0, .slice none 0 0, .slice none 0 0, .int .i32 0, .slice none 0 0] 54)) = V0 at *
  rintro e w1 ⟨⟨h6, rfl, ht6⟩, hb⟩
  have HB1 := Lib.hid hb
  have HSZ := Lib.hid HS.out.s
  replace HS := Lib.hid (HS.out.call hb)
  have hth : w1.there w.heap.size 4 16 := there_heap HS.out.c _ _ (Nat.le_refl _)
  have hF := fr_setCells w1 w.heap.size 4 (encTx h6)
  have gZ : (w1.setCells w.heap.size 4 (encTx h6)).heap[w.heap.size + 1]? = some (.cells #[.int .i64 0, .int .i32 0, .int .i64 0, .int .i64 0, .int .i32 0, .string ⟨#[]⟩, .slice none 0 0, .slice none 0 0, .int .i64 0, .int .i32 0, .int .i32 0, .bool false, .int .i64 0, .int .i64 0, .int .i64 0, .int .i32 0, .slice none 0 0, .slice none 0 0, .int .i32 0, .slice none 0 0] 54 (0, 0)) := (hF.block _ (by have := HS.out.s; omega) (by simp)).trans HS.out.z
  have hp : (w1.setCells w.heap.size 4 (encTx h6)).rangeAt w.heap.size 0 [.int .i64 h.se, .int .i32 h.xi, .int .i64 h.zx, .int .i64 h.ti] := World.rangeAt_setCells_apart (rangeAt_heapC (pre := []) (mid := [.int .i64 h.se, .int .i32 h.xi, .int .i64 h.zx, .int .i64 h.ti]) (post := [.int .i32 h.t.n.ty, .string h.t.n.path, slV h.t.d, slV h.t.a, .int .i64 h.t.n.ow, .int .i32 h.t.n.ve, .int .i32 h.t.n.cr, .bool h.t.n.qh, .int .i64 h.t.n.qc, .int .i64 h.t.n.qb, .int .i64 h.t.n.si, .int .i32 h.t.n.st, slV h.t.i, slV h.t.p, .int .i32 h.t.n.co, slV h.t.s]) HS.out.c rfl rfl) _ _ _ (.inr (.inl (by simp)))
  have hrr : (w1.setCells w.heap.size 4 (encTx h6)).rangeAt w.heap.size 0 (encDl ⟨h.se, h.xi, h.zx, h.ti, h6⟩) := rangeAt_join hp (World.rangeAt_setCells_same w1 w.heap.size 4 (encTx h6) hth) rfl
  have ht7 : TxAt (w1.setCells w.heap.size 4 (encTx h6)) (w.heap.size + 2 ≤ ·) h6 t.t := TrAt.fr kTxOk ht6 hF (fun b _ h => ⟨by have := HSZ.out; simp; omega, Nat.le_trans HSZ.out h⟩)
  have HT7 := Lib.hid ht7; have HG := Lib.hid (And.intro (hF.below HS.out.b.size (by simp)) gZ)
  have HF := Lib.hid hF
  clear ht6 hb ht7 hp hF
  go_wp2_with (first
    | (apply wpList_storeMid 52; exact rfl; exact rfl; exact rfl; exact rfl; assumption; exact infTx; simp [Value.oneCell'])
    | (apply wpList_loadMid 54; exact rfl; exact rfl; exact rfl; assumption; exact undDl; exact rfl; exact infDl)
    | (apply wpList_storeRow 54 54; exact rfl; exact rfl; exact rfl; exact rfl; (first | assumption | (refine heap_under ?_; assumption) | (exact heap_s0 _ _) | (exact heap_s1 _ _ _) | (exact heap_s2 _ _ _ _) | (exact heap_s3 _ _ _ _ _) | (exact heap_under (heap_s0 _ _)) | (exact heap_under (heap_s1 _ _ _)) | (exact heap_under (heap_s2 _ _ _ _)) | (exact heap_under (heap_under (heap_s0 _ _))) | (exact heap_under (heap_under (heap_s1 _ _ _))) | (exact heap_under (heap_under (heap_under (heap_s0 _ _))))); exact infDl; exact rfl; simp [Value.oneCell'])
    | fail)
  have hFr := fr_setRow9 (w1.setCells w.heap.size 4 (encTx h6)) (w.heap.size + 1) (encDl ⟨h.se, h.xi, h.zx, h.ti, h6⟩).toArray
  exact bodyPost_cell rfl rfl (setRow_heap _ _ _ _ _ _ gZ) undDl rfl infDl rfl ⟨⟨⟨h.se, h.xi, h.zx, h.ti, h6⟩, rfl, ⟨HE.out, TrAt.fr kTxOk HT7.out hFr (fun b _ h => ⟨by simp; omega, by omega⟩)⟩⟩, below_setRow (HS.out.b.trans HG.out.1) (by omega) _⟩
end Go.Proofs.YtbpmmmnphpkdjaaGreatDoor
