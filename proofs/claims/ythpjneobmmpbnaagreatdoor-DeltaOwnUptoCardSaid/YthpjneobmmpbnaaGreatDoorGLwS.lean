/- The walk of chapter 13's example: one delta written, read, its steps, its paths. -/
import Derived.Test.YthpjneobmmpbnaaGreatDoorGRfD
import Derived.Test.YthpjneobmmpbnaaGreatDoorGDlF0
import Derived.Test.YthpjneobmmpbnaaGreatDoorGRsG
import Derived.Test.YthpjneobmmpbnaaGreatDoorGTreC
import Derived.Test.YthpjneobmmpbnaaGreatDoorGRefS
import Derived.Lib.QuietBelow
import Derived.Test.YthpjneobmmpbnaaGreatDoorGHeld
namespace Go.Proofs.YthpjneobmmpbnaaGreatDoor
open Go.RowKit Go.MapKept Go.Maps
def exH : DlH := ⟨1, 2, 3, 4, ⟨⟨2, ⟨#[47, 97]⟩, 0, 0, 0, false, 0, 0, 0, 0, 0⟩, (none, 0, 0), (none, 0, 0), (none, 0, 0), (none, 0, 0), (none, 0, 0)⟩⟩
theorem ex_at (w : World) (R : Nat → Prop) : DlAt w R exH exD :=
  ⟨⟨rfl, rfl, rfl, rfl⟩, TrAt.of_subs (L := []) ⟨rfl, SlR.nil_, SlR.nil_, SlR.nil_, SlR.nil_⟩ rfl SlR.nil_ (fun j hj => absurd hj (by show ¬ j < 0; omega))⟩
theorem ex_sm : DlSm 1048576 exD := by
  refine ⟨⟨⟨by decide, by decide⟩, ⟨by decide, by decide⟩, ⟨by decide, by decide⟩, ⟨by decide, by decide⟩⟩, TrAll.mk _ _ ⟨⟨⟨by decide, by decide⟩, ⟨by decide, by decide⟩, ⟨by decide, by decide⟩, ⟨by decide, by decide⟩, ⟨by decide, by decide⟩, ⟨by decide, by decide⟩, ⟨by decide, by decide⟩, ⟨by decide, by decide⟩, ⟨by decide, by decide⟩⟩, by decide, by decide, by decide, by decide, by decide, by decide, fun j hj => absurd hj (by simp), fun j hj => absurd hj (by simp), fun j hj => absurd hj (by simp)⟩ fun j hj => absurd hj (by simp)⟩
theorem ex_head : headP (encB exD) = .ok ((1, 2, 3, 4, 2), 32) := by kernel_rfl
theorem ex_gets : GetsAll (encB exD) := fun z p h _ => by
  rw [ex_head] at h
  obtain ⟨rfl, rfl⟩ := okInj h
  exact gets_leaf (by decide) fun w rb n c A hr hT => get2_any hr hT
theorem ex_dec : decD (encB exD) = (exD, 0, 0) := by
  rw [decD_all]
  unfold allP
  rw [ex_read]
  dsimp only
  rw [ex_len, if_neg (by decide)]
  show (if _ then _ else _) = _
  rw [if_neg (by rw [ex_right]; simp)]
theorem ex_steps : stepsD exD = [exT] := by
  rw [stepsD_ok ex_right]; rfl
theorem ex_touch : (touchD exD).length = 2 := by
  rw [touch_eq, ex_steps]; kernel_rfl
theorem Row8.argC {w : World} {b n c : Nat} {A : Option Addr} {l : Bs} (h : Row8 w b A n c l) (hl : l.length = n) (hn : n ≤ 1099511627776) : ArgC w A n c l := by
  refine ⟨Row8.sl h hl, fun e => ?_, hn, ?_⟩
  · subst e
    exact Row8.nil_cap h
  · rcases own_at h with ⟨_, h1, h2⟩ | ⟨g, cur, _, _, _, h2, _⟩
    · omega
    · exact h2
theorem wpList_loadRowW {ops : Array Oper} {rest : List Oper} {o : Oper} {a : Act} {Q : Exit → Act → World → Prop} {w : World} (ty t : TypeId) {x : Operand} {g : Nat} {cs : Array Value} {d : TypeDesc} (hw : Region.wanted o (yielded ops a.tmps) = true) (ho : o.op = .load ty x) (hx : a.eval x = .pointer (some ⟨g, 0, none⟩)) (hg : w.heap[g]? = some (.cells cs t (0, 0)))
    (hu : Tryz.prog.underlying ty = some d) (hd : d.isRow = true) (hi : (Tryz.prog.info? ty).map (·.size) = some cs.size) (h : wpList Tryz.prog ops Q rest (a.put o.dst (.agg cs)) w) : wpList Tryz.prog ops Q (o :: rest) a w :=
  wpList_step fun K hK => by
    rw [if_pos hw]
    exact wp_loadRow ty t ho hx hg hu hd hi (hK _ _ h)
def AliveP (w : World) (e : Ending) (w' : World) : Prop := e = .returned (.bool true) ∧ Below w.heap.size w w'
set_option linter.unusedSimpArgs false in
set_option maxRecDepth 100000 in
set_option maxHeartbeats 8000000 in
theorem alive13_any (w : World) (hE : Env w) : Calls Tryz.prog 13 #[] w (AliveP w) := by
  have hb1 : Below w.heap.size w (w.alloc (.cells #[.int .i64 1, .int .i32 2, .int .i64 3, .int .i64 4, .int .i32 2, .string ⟨#[47, 97]⟩, .slice none 0 0, .slice none 0 0, .int .i64 0, .int .i32 0, .int .i32 0, .bool false, .int .i64 0, .int .i64 0, .int .i64 0, .int .i32 0, .slice none 0 0, .slice none 0 0, .int .i32 0, .slice none 0 0] 35)) := (Below.refl _ w).alloc (Nat.le_refl _) _
  have HB1 := Lib.hid hb1
  have HE := Lib.hid hE
  have g0 := heap_s0 w (.cells #[.int .i64 1, .int .i32 2, .int .i64 3, .int .i64 4, .int .i32 2, .string ⟨#[47, 97]⟩, .slice none 0 0, .slice none 0 0, .int .i64 0, .int .i32 0, .int .i32 0, .bool false, .int .i64 0, .int .i64 0, .int .i64 0, .int .i32 0, .slice none 0 0, .slice none 0 0, .int .i32 0, .slice none 0 0] 35)
  have HEN := Lib.hid (encode_any exH exD (w.alloc (.cells #[.int .i64 1, .int .i32 2, .int .i64 3, .int .i64 4, .int .i32 2, .string ⟨#[47, 97]⟩, .slice none 0 0, .slice none 0 0, .int .i64 0, .int .i32 0, .int .i32 0, .bool false, .int .i64 0, .int .i64 0, .int .i64 0, .int .i32 0, .slice none 0 0, .slice none 0 0, .int .i32 0, .slice none 0 0] 35)) (fun _ => True) (ex_at _ _) (hE.below (Nat.le_refl _) hb1) ex_sm)
  have HZ := Lib.hid (sz1 w (.cells #[.int .i64 1, .int .i32 2, .int .i64 3, .int .i64 4, .int .i32 2, .string ⟨#[47, 97]⟩, .slice none 0 0, .slice none 0 0, .int .i64 0, .int .i32 0, .int .i32 0, .bool false, .int .i64 0, .int .i64 0, .int .i64 0, .int .i32 0, .slice none 0 0, .slice none 0 0, .int .i32 0, .slice none 0 0] 35))
  clear hb1 hE
  go_enter Tryz.func13, Tryz.ntmps13
  go_upto_region 2 with (first | (apply wpList_storeTop 35 35; exact rfl; exact rfl; exact rfl; (first | (with_reducible rfl) | (exact sz1 _ _) | (exact sz2 _ _ _)); exact rfl; exact infDl; exact rfl; (first | exact oneDl _ | simp [Value.oneCell'])) | fail)
  change Code.wp _ _ _ _ (w.alloc (.cells #[.int .i64 1, .int .i32 2, .int .i64 3, .int .i64 4, .int .i32 2, .string ⟨#[47, 97]⟩, .slice none 0 0, .slice none 0 0, .int .i64 0, .int .i32 0, .int .i32 0, .bool false, .int .i64 0, .int .i64 0, .int .i64 0, .int .i32 0, .slice none 0 0, .slice none 0 0, .int .i32 0, .slice none 0 0] 35))
  generalize w.alloc (.cells #[.int .i64 1, .int .i32 2, .int .i64 3, .int .i64 4, .int .i32 2, .string ⟨#[47, 97]⟩, .slice none 0 0, .slice none 0 0, .int .i64 0, .int .i32 0, .int .i32 0, .bool false, .int .i64 0, .int .i64 0, .int .i64 0, .int .i32 0, .slice none 0 0, .slice none 0 0, .int .i32 0, .slice none 0 0] 35) = W at *
  go_wp2_with (first | (apply wpList_loadRow 35 35; exact rfl; exact rfl; exact rfl; assumption; exact undDl; exact rfl; exact infDl) | fail)
  refine HEN.out.mono ?_
  rintro e w1 ⟨hb2, hm⟩
  rcases hm with ⟨hne, -⟩ | ⟨-, A, c, rfl, hrow⟩
  · exact absurd ex_right hne
  have HB2 := Lib.hid (HB1.out.trans (hb2.mono HB1.out.size))
  have g1 := (hb2.block w.heap.size (by have := HZ.out; omega)).trans g0
  have HDE := Lib.hid (decode_of (hrow.argC rfl (by rw [ex_len]; decide)) (HE.out.below (Nat.le_refl _) HB2.out) ex_gets (fun d p h => by rw [ex_read] at h; obtain ⟨rfl, -⟩ := okInj h; exact ex_sm))
  rw [ex_len] at HDE
  rw [ex_len]
  have HZ2 := Lib.hid (show w.heap.size + 1 ≤ w1.heap.size by have := HZ.out; have := hb2.size; omega)
  clear hb2 hrow g0 HEN
  go_wp2_with fail
  refine HDE.out.mono ?_
  rintro e w2 ⟨hb3, h3, rfl, hd⟩
  rw [ex_dec] at hd
  rw [ex_dec]
  have HZX := Lib.hid (show h3.zx = 3 from hd.1.2.2.1.symm)
  have HPA := Lib.hid (show h3.t.n.path = ⟨#[47, 97]⟩ by have := hd.2.loc.1; rw [← this]; rfl)
  have hb4 : Below w2.heap.size w2 (w2.alloc (.cells #[.int .i64 h3.se, .int .i32 h3.xi, .int .i64 h3.zx, .int .i64 h3.ti, .int .i32 h3.t.n.ty, .string h3.t.n.path, slV h3.t.d, slV h3.t.a, .int .i64 h3.t.n.ow, .int .i32 h3.t.n.ve, .int .i32 h3.t.n.cr, .bool h3.t.n.qh, .int .i64 h3.t.n.qc, .int .i64 h3.t.n.qb, .int .i64 h3.t.n.si, .int .i32 h3.t.n.st, slV h3.t.i, slV h3.t.p, .int .i32 h3.t.n.co, slV h3.t.s] 35)) := (Below.refl _ w2).alloc (Nat.le_refl _) _
  have HB3 := Lib.hid (HB2.out.trans (hb3.mono HB2.out.size))
  have HB4 := Lib.hid (HB3.out.trans (hb4.mono HB3.out.size))
  have g4 := (hb4.block _ (by have := HZ2.out; have := hb3.size; omega)).trans ((hb3.block _ (Array.getElem?_eq_some_iff.1 g1).1).trans g1)
  have g5 := heap_s0 w2 (.cells #[.int .i64 h3.se, .int .i32 h3.xi, .int .i64 h3.zx, .int .i64 h3.ti, .int .i32 h3.t.n.ty, .string h3.t.n.path, slV h3.t.d, slV h3.t.a, .int .i64 h3.t.n.ow, .int .i32 h3.t.n.ve, .int .i32 h3.t.n.cr, .bool h3.t.n.qh, .int .i64 h3.t.n.qc, .int .i64 h3.t.n.qb, .int .i64 h3.t.n.si, .int .i32 h3.t.n.st, slV h3.t.i, slV h3.t.p, .int .i32 h3.t.n.co, slV h3.t.s] 35)
  clear hb3 hb4 hd g1
  dsimp only
  go_upto_region 4 with (first | (apply wpList_storeTop 35 35; exact rfl; exact rfl; exact rfl; (first | (with_reducible rfl) | (exact sz1 _ _) | (exact sz2 _ _ _)); exact rfl; exact infDl; exact rfl; (first | exact oneDl _ | simp [Value.oneCell'])) | fail)
  change Code.wp _ _ _ _ (w2.alloc (.cells #[.int .i64 h3.se, .int .i32 h3.xi, .int .i64 h3.zx, .int .i64 h3.ti, .int .i32 h3.t.n.ty, .string h3.t.n.path, slV h3.t.d, slV h3.t.a, .int .i64 h3.t.n.ow, .int .i32 h3.t.n.ve, .int .i32 h3.t.n.cr, .bool h3.t.n.qh, .int .i64 h3.t.n.qc, .int .i64 h3.t.n.qb, .int .i64 h3.t.n.si, .int .i32 h3.t.n.st, slV h3.t.i, slV h3.t.p, .int .i32 h3.t.n.co, slV h3.t.s] 35))
  generalize w2.alloc (.cells #[.int .i64 h3.se, .int .i32 h3.xi, .int .i64 h3.zx, .int .i64 h3.ti, .int .i32 h3.t.n.ty, .string h3.t.n.path, slV h3.t.d, slV h3.t.a, .int .i64 h3.t.n.ow, .int .i32 h3.t.n.ve, .int .i32 h3.t.n.cr, .bool h3.t.n.qh, .int .i64 h3.t.n.qc, .int .i64 h3.t.n.qb, .int .i64 h3.t.n.si, .int .i32 h3.t.n.st, slV h3.t.i, slV h3.t.p, .int .i32 h3.t.n.co, slV h3.t.s] 35) = W4 at *
  have x2 : W4.cell? ⟨w2.heap.size, 2, none⟩ = some (.int .i64 3) := by rw [cellH g5, ← HZX.out]; rfl
  have x5 : W4.cell? ⟨w2.heap.size, 4 + 1, none⟩ = some (.string ⟨#[47, 97]⟩) := by rw [cellH g5, ← HPA.out]; rfl
  have HST := Lib.hid (steps_any exH exD W4 (fun _ => True) (ex_at _ _) (HE.out.below (Nat.le_refl _) HB4.out) ex_sm)
  clear HZX HPA g5
  go_wp2_with (first | (apply wpList_loadRowW 35 35; exact rfl; exact rfl; exact rfl; assumption; exact undDl; exact rfl; exact infDl) | fail)
  refine HST.out.mono ?_
  rintro e w5 ⟨⟨A5, c5, rfl, -⟩, hb5⟩
  rw [show (stepsD exD).length = 1 by rw [ex_steps]; rfl]
  have HB5 := Lib.hid (HB4.out.trans (hb5.mono HB4.out.size))
  have g9 := (hb5.block _ (Array.getElem?_eq_some_iff.1 g4).1).trans g4
  have HTO := Lib.hid (touched_any exH exD w5 (fun _ => True) (ex_at _ _) (HE.out.below (Nat.le_refl _) HB5.out) ex_sm)
  clear hb5 g4 x2 x5
  go_wp2_with (first | (apply wpList_loadRowW 35 35; exact rfl; exact rfl; exact rfl; assumption; exact undDl; exact rfl; exact infDl) | fail)
  refine HTO.out.mono ?_
  rintro e w6 ⟨A6, c6, rfl, -, hb6⟩
  rw [ex_touch]
  have HB6 := Lib.hid (HB5.out.trans (hb6.mono HB5.out.size))
  clear hb6 g9
  go_wp2_with fail
  go_ret
  exact ⟨rfl, HB6.out⟩
end Go.Proofs.YthpjneobmmpbnaaGreatDoor
namespace Go.Proofs.YthpjneobmmpbnaaGreatDoor
open Go.RowKit Go.MapKept Go.Maps
def SomeI (w : World) (e : Ending) (w' : World) : Prop := (∃ m : Int, e = .returned (.int .i64 m)) ∧ Below w.heap.size w w'
def SomeB (w : World) (e : Ending) (w' : World) : Prop := (∃ b : Bool, e = .returned (.bool b)) ∧ Below w.heap.size w w'
theorem wpList_loadMidV {P : Program} {ops : Array Oper} {rest : List Oper} {o : Oper} {a : Act} {w : World} {Q : Exit → Act → World → Prop} (ty : TypeId) {x : Operand} {b q : Nat} {cs : List Value} {d : TypeDesc} (hw : Region.wanted o (yielded ops a.tmps) = true) (ho : o.op = .load ty x) (hx : a.eval x = .pointer (some ⟨b, q, none⟩)) (hc : w.rangeAt b q cs)
    (hu : P.underlying ty = some d) (hd : d.isRow = true) (hi : (P.info? ty).map (·.size) = some cs.length) (h : wpList P ops Q rest (a.put o.dst (.agg cs.toArray)) w) : wpList P ops Q (o :: rest) a w :=
  wpList_step fun K hK => by
    rw [if_pos hw]
    exact wp_load_mid ty x ho b q hx cs d hc hu hd hi (hK _ _ h)
set_option linter.unusedSimpArgs false in
set_option maxRecDepth 100000 in
set_option maxHeartbeats 20000000 in
theorem count_any : ∀ (t : TxT) (h : TxH) (w : World) (R : Nat → Prop) (n : Int), TxAt w R h t → TxOk 1048576 t → Calls Tryz.prog 35 #[txV h, .int .i64 n] w (SomeI w) := by
  refine Tr.ind ?_
  intro v subs ih h w R n ht hok
  obtain ⟨L, hL, hsub⟩ := ht.subs_at
  have hlen := ht.len
  have hsm := hok.top
  have HB := Lib.hid (show Below w.heap.size w (w.alloc (.cells #[.int .i32 h.n.ty, .string h.n.path, slV h.d, slV h.a, .int .i64 h.n.ow, .int .i32 h.n.ve, .int .i32 h.n.cr, .bool h.n.qh, .int .i64 h.n.qc, .int .i64 h.n.qb, .int .i64 h.n.si, .int .i32 h.n.st, slV h.i, slV h.p, .int .i32 h.n.co, slV h.s] 33)) from (Below.refl _ w).alloc (Nat.le_refl _) _)
  have HG := Lib.hid (heap_s0 w (.cells #[.int .i32 h.n.ty, .string h.n.path, slV h.d, slV h.a, .int .i64 h.n.ow, .int .i32 h.n.ve, .int .i32 h.n.cr, .bool h.n.qh, .int .i64 h.n.qc, .int .i64 h.n.qb, .int .i64 h.n.si, .int .i32 h.n.st, slV h.i, slV h.p, .int .i32 h.n.co, slV h.s] 33))
  have HZ := Lib.hid (sz1 w (.cells #[.int .i32 h.n.ty, .string h.n.path, slV h.d, slV h.a, .int .i64 h.n.ow, .int .i32 h.n.ve, .int .i32 h.n.cr, .bool h.n.qh, .int .i64 h.n.qc, .int .i64 h.n.qb, .int .i64 h.n.si, .int .i32 h.n.st, slV h.i, slV h.p, .int .i32 h.n.co, slV h.s] 33))
  have HL := Lib.hid hL; have HSUB := Lib.hid hsub; have HLEN := Lib.hid (show subs.length = h.s.2.1 from hlen)
  have HIH := Lib.hid ih; have HOK := Lib.hid (fun k (hk : k < subs.length) => hok.subAt (j := k) hk)
  have hsb : h.s.2.1 ≤ 1048576 := by have h1 := hsm.2.2.2.2.2.2.1; rw [hlen] at h1; exact h1
  clear ht hL hsub hlen hsm ih hok
  go_enter Tryz.func35, Tryz.ntmps35
  go_upto_region 1 with fail
  generalize w.alloc (.cells #[.int .i32 h.n.ty, .string h.n.path, slV h.d, slV h.a, .int .i64 h.n.ow, .int .i32 h.n.ve, .int .i32 h.n.cr, .bool h.n.qh, .int .i64 h.n.qc, .int .i64 h.n.qb, .int .i64 h.n.si, .int .i32 h.n.st, slV h.i, slV h.p, .int .i32 h.n.co, slV h.s] 33) = W at *
  have HY := Lib.hid (show ∀ V : World, Below W.heap.size W V → V.cell? ⟨w.heap.size, 15, none⟩ = some (slV h.s) from fun V hV => by rw [cellH ((hV.block _ (by have := HZ.out; omega)).trans HG.out)]; rfl)
  go_wp2_with fail
  go_loopw [1, 5] (fun m i wr => ∃ (j : Nat) (x : Int), m = .int .i64 x ∧ i = .int .i64 ↑j ∧ j ≤ h.s.2.1 ∧ Below W.heap.size W wr) (fun _ i _ => h.s.2.1 - (RowKit.intOf i).toNat)
  case atStart => exact ⟨0, _, rfl, rfl, Nat.zero_le _, Below.refl _ _⟩
  case round =>
  obtain ⟨j, x, rfl, rfl, hj, hbw⟩ := hrel
  have HBW := Lib.hid hbw; clear hbw
  have y := HY.out wr HBW.out
  have HEND := Lib.hid (show ∀ z : Int, SomeI w (.returned (.int .i64 z)) wr from fun z => ⟨⟨_, rfl⟩, HB.out.trans (HBW.out.mono HB.out.size)⟩)
  by_cases hlt : j < h.s.2.1
  · by_cases hx : x ≤ 5000
    · have t1 : decide (x ≤ 5000) = true := decide_eq_true hx
      clear hx
      obtain ⟨b, off, ea, _, hca⟩ := HL.out.2.2 (show 0 < h.s.2.1 by omega)
      have ea : h.s.1 = some ⟨b, off, none⟩ := ea
      have HBR := Lib.hid (HB.out.trans (HBW.out.mono HB.out.size))
      have yy : wr.rangeAt b (off + j * 16) (encTx L[j]!) := fun i u hu => keep1 (hca j hlt i u hu) HBR.out
      have HCL := Lib.hid (fun (z : Int) => HIH.out j (by rw [HLEN.out]; exact hlt) L[j]! wr _ z ((HSUB.out j hlt).fr kTxOk (R' := fun _ => True) (Fr.of_below (own := []) HBR.out) (fun b _ _ => ⟨by simp, trivial⟩)) (HOK.out j (by rw [HLEN.out]; exact hlt)))
      have y' : wr.cell? ⟨w.heap.size, 15, none⟩ = some (.slice (some ⟨b, off, none⟩) h.s.2.1 h.s.2.2) := by rw [y, ← ea]
      have hji : (j : Int) < (h.s.2.1 : Int) := by omega
      have hj0 : (0 : Int) ≤ (j : Int) := by omega
      clear hca y ea
      generalize L[j]! = xa at *
      go_wp2_with (first
        | (apply wpList_loadMid 33; exact rfl; exact rfl; exact rfl; exact yy; exact undTx; exact rfl; exact infTx)
        | fail)
      refine (HCL.out _).mono ?_
      rintro e w5 ⟨⟨m, rfl⟩, hb5⟩
      have HB5 := Lib.hid (HBW.out.trans (hb5.mono HBW.out.size))
      clear hb5 yy y' HCL
      go_wp2_with fail
      go_roundw
      case rel => exact ⟨j + 1, m, rfl, by go_num, by omega, HB5.out⟩
      case measure => simp [RowKit.intOf]; omega
    · have t1 : decide (x ≤ 5000) = false := decide_eq_false hx
      go_wp2_with fail
      go_ret
      exact HEND.out _
  obtain rfl : j = h.s.2.1 := by omega
  go_wp2_with fail
  go_ret
  exact HEND.out _
set_option linter.unusedSimpArgs false in
set_option maxRecDepth 100000 in
set_option maxHeartbeats 20000000 in
theorem bigDl_any (d : DlT) (h : DlH) (w : World) (R : Nat → Prop) (ht : DlAt w R h d) (hok : DlSm 1048576 d) : Calls Tryz.prog 12 #[dlV h] w (SomeB w) := by
  have hb0 : Below w.heap.size w (w.alloc (.cells #[.int .i64 h.se, .int .i32 h.xi, .int .i64 h.zx, .int .i64 h.ti, .int .i32 h.t.n.ty, .string h.t.n.path, slV h.t.d, slV h.t.a, .int .i64 h.t.n.ow, .int .i32 h.t.n.ve, .int .i32 h.t.n.cr, .bool h.t.n.qh, .int .i64 h.t.n.qc, .int .i64 h.t.n.qb, .int .i64 h.t.n.si, .int .i32 h.t.n.st, slV h.t.i, slV h.t.p, .int .i32 h.t.n.co, slV h.t.s] 35)) := (Below.refl _ w).alloc (Nat.le_refl _) _
  have HB := Lib.hid hb0
  have HC := Lib.hid (count_any d.t h.t _ _ 0 (ht.2.fr kTxOk (R' := fun _ => True) (Fr.of_below (own := []) hb0) (fun b _ _ => ⟨by simp, trivial⟩)) hok.2)
  have y := rangeAt_heapC (pre := [.int .i64 h.se, .int .i32 h.xi, .int .i64 h.zx, .int .i64 h.ti]) (mid := [.int .i32 h.t.n.ty, .string h.t.n.path, slV h.t.d, slV h.t.a, .int .i64 h.t.n.ow, .int .i32 h.t.n.ve, .int .i32 h.t.n.cr, .bool h.t.n.qh, .int .i64 h.t.n.qc, .int .i64 h.t.n.qb, .int .i64 h.t.n.si, .int .i32 h.t.n.st, slV h.t.i, slV h.t.p, .int .i32 h.t.n.co, slV h.t.s]) (post := []) (heap_s0 w (.cells #[.int .i64 h.se, .int .i32 h.xi, .int .i64 h.zx, .int .i64 h.ti, .int .i32 h.t.n.ty, .string h.t.n.path, slV h.t.d, slV h.t.a, .int .i64 h.t.n.ow, .int .i32 h.t.n.ve, .int .i32 h.t.n.cr, .bool h.t.n.qh, .int .i64 h.t.n.qc, .int .i64 h.t.n.qb, .int .i64 h.t.n.si, .int .i32 h.t.n.st, slV h.t.i, slV h.t.p, .int .i32 h.t.n.co, slV h.t.s] 35)) rfl rfl
  clear ht hok hb0
  go_enter Tryz.func12, Tryz.ntmps12
  go_upto_region 1 with fail
  generalize w.alloc (.cells #[.int .i64 h.se, .int .i32 h.xi, .int .i64 h.zx, .int .i64 h.ti, .int .i32 h.t.n.ty, .string h.t.n.path, slV h.t.d, slV h.t.a, .int .i64 h.t.n.ow, .int .i32 h.t.n.ve, .int .i32 h.t.n.cr, .bool h.t.n.qh, .int .i64 h.t.n.qc, .int .i64 h.t.n.qb, .int .i64 h.t.n.si, .int .i32 h.t.n.st, slV h.t.i, slV h.t.p, .int .i32 h.t.n.co, slV h.t.s] 35) = W at *
  go_wp2_with (first
    | (apply wpList_loadMid 33; exact rfl; exact rfl; exact rfl; exact y; exact undTx; exact rfl; exact infTx)
    | fail)
  refine HC.out.mono ?_
  rintro e w1 ⟨⟨m, rfl⟩, hb1⟩
  have HB1 := Lib.hid (HB.out.trans (hb1.mono HB.out.size))
  clear hb1 y
  go_wp2_with fail
  go_ret
  exact ⟨⟨_, rfl⟩, HB1.out⟩
/-- are two deltas the same? -/
noncomputable def sameD (d d' : DlT) : Bool := @decide (d = d') (Classical.propDecidable _)
theorem sameD_eq {d d' : DlT} (h : d = d') : sameD d d' = true := by unfold sameD; simp [h]
theorem sameD_ne {d d' : DlT} (h : d ≠ d') : sameD d d' = false := by unfold sameD; simp [h]
set_option linter.unusedSimpArgs false in
set_option maxRecDepth 100000 in
set_option maxHeartbeats 20000000 in
theorem sameDlG (d d' : DlT) (ha hb : DlH) (w : World) (Ra Rb : Nat → Prop) (ta : DlAt w Ra ha d) (tb : DlAt w Rb hb d') (hok : DlSm 1048576 d) (hok' : DlSm 1048576 d') : Calls Tryz.prog 19 #[dlV ha, dlV hb] w (RetB w (sameD d d')) := by
  have hb0 : Below w.heap.size w ((w.alloc (.cells #[.int .i64 ha.se, .int .i32 ha.xi, .int .i64 ha.zx, .int .i64 ha.ti, .int .i32 ha.t.n.ty, .string ha.t.n.path, slV ha.t.d, slV ha.t.a, .int .i64 ha.t.n.ow, .int .i32 ha.t.n.ve, .int .i32 ha.t.n.cr, .bool ha.t.n.qh, .int .i64 ha.t.n.qc, .int .i64 ha.t.n.qb, .int .i64 ha.t.n.si, .int .i32 ha.t.n.st, slV ha.t.i, slV ha.t.p, .int .i32 ha.t.n.co, slV ha.t.s] 35)).alloc (.cells #[.int .i64 hb.se, .int .i32 hb.xi, .int .i64 hb.zx, .int .i64 hb.ti, .int .i32 hb.t.n.ty, .string hb.t.n.path, slV hb.t.d, slV hb.t.a, .int .i64 hb.t.n.ow, .int .i32 hb.t.n.ve, .int .i32 hb.t.n.cr, .bool hb.t.n.qh, .int .i64 hb.t.n.qc, .int .i64 hb.t.n.qb, .int .i64 hb.t.n.si, .int .i32 hb.t.n.st, slV hb.t.i, slV hb.t.p, .int .i32 hb.t.n.co, slV hb.t.s] 35)) := ((Below.refl _ w).alloc (Nat.le_refl _) _).alloc (by simp) _
  have HGA := Lib.hid (heap_under (heap_s0 w (.cells #[.int .i64 ha.se, .int .i32 ha.xi, .int .i64 ha.zx, .int .i64 ha.ti, .int .i32 ha.t.n.ty, .string ha.t.n.path, slV ha.t.d, slV ha.t.a, .int .i64 ha.t.n.ow, .int .i32 ha.t.n.ve, .int .i32 ha.t.n.cr, .bool ha.t.n.qh, .int .i64 ha.t.n.qc, .int .i64 ha.t.n.qb, .int .i64 ha.t.n.si, .int .i32 ha.t.n.st, slV ha.t.i, slV ha.t.p, .int .i32 ha.t.n.co, slV ha.t.s] 35)) : ((w.alloc (.cells #[.int .i64 ha.se, .int .i32 ha.xi, .int .i64 ha.zx, .int .i64 ha.ti, .int .i32 ha.t.n.ty, .string ha.t.n.path, slV ha.t.d, slV ha.t.a, .int .i64 ha.t.n.ow, .int .i32 ha.t.n.ve, .int .i32 ha.t.n.cr, .bool ha.t.n.qh, .int .i64 ha.t.n.qc, .int .i64 ha.t.n.qb, .int .i64 ha.t.n.si, .int .i32 ha.t.n.st, slV ha.t.i, slV ha.t.p, .int .i32 ha.t.n.co, slV ha.t.s] 35)).alloc (.cells #[.int .i64 hb.se, .int .i32 hb.xi, .int .i64 hb.zx, .int .i64 hb.ti, .int .i32 hb.t.n.ty, .string hb.t.n.path, slV hb.t.d, slV hb.t.a, .int .i64 hb.t.n.ow, .int .i32 hb.t.n.ve, .int .i32 hb.t.n.cr, .bool hb.t.n.qh, .int .i64 hb.t.n.qc, .int .i64 hb.t.n.qb, .int .i64 hb.t.n.si, .int .i32 hb.t.n.st, slV hb.t.i, slV hb.t.p, .int .i32 hb.t.n.co, slV hb.t.s] 35)).heap[w.heap.size]? = _)
  have HGB := Lib.hid (heap_s1 w (.cells #[.int .i64 ha.se, .int .i32 ha.xi, .int .i64 ha.zx, .int .i64 ha.ti, .int .i32 ha.t.n.ty, .string ha.t.n.path, slV ha.t.d, slV ha.t.a, .int .i64 ha.t.n.ow, .int .i32 ha.t.n.ve, .int .i32 ha.t.n.cr, .bool ha.t.n.qh, .int .i64 ha.t.n.qc, .int .i64 ha.t.n.qb, .int .i64 ha.t.n.si, .int .i32 ha.t.n.st, slV ha.t.i, slV ha.t.p, .int .i32 ha.t.n.co, slV ha.t.s] 35) (.cells #[.int .i64 hb.se, .int .i32 hb.xi, .int .i64 hb.zx, .int .i64 hb.ti, .int .i32 hb.t.n.ty, .string hb.t.n.path, slV hb.t.d, slV hb.t.a, .int .i64 hb.t.n.ow, .int .i32 hb.t.n.ve, .int .i32 hb.t.n.cr, .bool hb.t.n.qh, .int .i64 hb.t.n.qc, .int .i64 hb.t.n.qb, .int .i64 hb.t.n.si, .int .i32 hb.t.n.st, slV hb.t.i, slV hb.t.p, .int .i32 hb.t.n.co, slV hb.t.s] 35))
  have HB := Lib.hid hb0
  have HCL := Lib.hid (sameTxG d.t d'.t ha.t hb.t _ _ _ (ta.2.fr kTxOk (R' := fun _ => True) (Fr.of_below (own := []) hb0) (fun b _ _ => ⟨by simp, trivial⟩)) (tb.2.fr kTxOk (R' := fun _ => True) (Fr.of_below (own := []) hb0) (fun b _ _ => ⟨by simp, trivial⟩)) hok.2 hok'.2)
  have ta := Lib.hid ta.1; have tb := Lib.hid tb.1
  clear hok hok' hb0
  go_enter Tryz.func19, Tryz.ntmps19
  go_upto_region 1 with fail
  generalize (w.alloc (.cells #[.int .i64 ha.se, .int .i32 ha.xi, .int .i64 ha.zx, .int .i64 ha.ti, .int .i32 ha.t.n.ty, .string ha.t.n.path, slV ha.t.d, slV ha.t.a, .int .i64 ha.t.n.ow, .int .i32 ha.t.n.ve, .int .i32 ha.t.n.cr, .bool ha.t.n.qh, .int .i64 ha.t.n.qc, .int .i64 ha.t.n.qb, .int .i64 ha.t.n.si, .int .i32 ha.t.n.st, slV ha.t.i, slV ha.t.p, .int .i32 ha.t.n.co, slV ha.t.s] 35)).alloc (.cells #[.int .i64 hb.se, .int .i32 hb.xi, .int .i64 hb.zx, .int .i64 hb.ti, .int .i32 hb.t.n.ty, .string hb.t.n.path, slV hb.t.d, slV hb.t.a, .int .i64 hb.t.n.ow, .int .i32 hb.t.n.ve, .int .i32 hb.t.n.cr, .bool hb.t.n.qh, .int .i64 hb.t.n.qc, .int .i64 hb.t.n.qb, .int .i64 hb.t.n.si, .int .i32 hb.t.n.st, slV hb.t.i, slV hb.t.p, .int .i32 hb.t.n.co, slV hb.t.s] 35) = W at *
  generalize (Value.agg #[.int .i64 ha.se, .int .i32 ha.xi, .int .i64 ha.zx, .int .i64 ha.ti, .int .i32 ha.t.n.ty, .string ha.t.n.path, slV ha.t.d, slV ha.t.a, .int .i64 ha.t.n.ow, .int .i32 ha.t.n.ve, .int .i32 ha.t.n.cr, .bool ha.t.n.qh, .int .i64 ha.t.n.qc, .int .i64 ha.t.n.qb, .int .i64 ha.t.n.si, .int .i32 ha.t.n.st, slV ha.t.i, slV ha.t.p, .int .i32 ha.t.n.co, slV ha.t.s]) = arg0 at *
  generalize (Value.agg #[.int .i64 hb.se, .int .i32 hb.xi, .int .i64 hb.zx, .int .i64 hb.ti, .int .i32 hb.t.n.ty, .string hb.t.n.path, slV hb.t.d, slV hb.t.a, .int .i64 hb.t.n.ow, .int .i32 hb.t.n.ve, .int .i32 hb.t.n.cr, .bool hb.t.n.qh, .int .i64 hb.t.n.qc, .int .i64 hb.t.n.qb, .int .i64 hb.t.n.si, .int .i32 hb.t.n.st, slV hb.t.i, slV hb.t.p, .int .i32 hb.t.n.co, slV hb.t.s]) = arg1 at *
  have xa0 : W.cell? ⟨w.heap.size, 0, none⟩ = some (.int .i64 ha.se) := by rw [cellH HGA.out]; rfl
  have xb0 : W.cell? ⟨w.heap.size + 1, 0, none⟩ = some (.int .i64 hb.se) := by rw [cellH HGB.out]; rfl
  have xa1 : W.cell? ⟨w.heap.size, 1, none⟩ = some (.int .i32 ha.xi) := by rw [cellH HGA.out]; rfl
  have xb1 : W.cell? ⟨w.heap.size + 1, 1, none⟩ = some (.int .i32 hb.xi) := by rw [cellH HGB.out]; rfl
  have xa2 : W.cell? ⟨w.heap.size, 2, none⟩ = some (.int .i64 ha.zx) := by rw [cellH HGA.out]; rfl
  have xb2 : W.cell? ⟨w.heap.size + 1, 2, none⟩ = some (.int .i64 hb.zx) := by rw [cellH HGB.out]; rfl
  have xa3 : W.cell? ⟨w.heap.size, 3, none⟩ = some (.int .i64 ha.ti) := by rw [cellH HGA.out]; rfl
  have xb3 : W.cell? ⟨w.heap.size + 1, 3, none⟩ = some (.int .i64 hb.ti) := by rw [cellH HGB.out]; rfl
  have y1 : W.rangeAt w.heap.size 4 [.int .i32 ha.t.n.ty, .string ha.t.n.path, slV ha.t.d, slV ha.t.a, .int .i64 ha.t.n.ow, .int .i32 ha.t.n.ve, .int .i32 ha.t.n.cr, .bool ha.t.n.qh, .int .i64 ha.t.n.qc, .int .i64 ha.t.n.qb, .int .i64 ha.t.n.si, .int .i32 ha.t.n.st, slV ha.t.i, slV ha.t.p, .int .i32 ha.t.n.co, slV ha.t.s] := rangeAt_heapC (pre := [.int .i64 ha.se, .int .i32 ha.xi, .int .i64 ha.zx, .int .i64 ha.ti]) (mid := [.int .i32 ha.t.n.ty, .string ha.t.n.path, slV ha.t.d, slV ha.t.a, .int .i64 ha.t.n.ow, .int .i32 ha.t.n.ve, .int .i32 ha.t.n.cr, .bool ha.t.n.qh, .int .i64 ha.t.n.qc, .int .i64 ha.t.n.qb, .int .i64 ha.t.n.si, .int .i32 ha.t.n.st, slV ha.t.i, slV ha.t.p, .int .i32 ha.t.n.co, slV ha.t.s]) (post := []) HGA.out rfl rfl
  have y2 : W.rangeAt (w.heap.size + 1) 4 [.int .i32 hb.t.n.ty, .string hb.t.n.path, slV hb.t.d, slV hb.t.a, .int .i64 hb.t.n.ow, .int .i32 hb.t.n.ve, .int .i32 hb.t.n.cr, .bool hb.t.n.qh, .int .i64 hb.t.n.qc, .int .i64 hb.t.n.qb, .int .i64 hb.t.n.si, .int .i32 hb.t.n.st, slV hb.t.i, slV hb.t.p, .int .i32 hb.t.n.co, slV hb.t.s] := rangeAt_heapC (pre := [.int .i64 hb.se, .int .i32 hb.xi, .int .i64 hb.zx, .int .i64 hb.ti]) (mid := [.int .i32 hb.t.n.ty, .string hb.t.n.path, slV hb.t.d, slV hb.t.a, .int .i64 hb.t.n.ow, .int .i32 hb.t.n.ve, .int .i32 hb.t.n.cr, .bool hb.t.n.qh, .int .i64 hb.t.n.qc, .int .i64 hb.t.n.qb, .int .i64 hb.t.n.si, .int .i32 hb.t.n.st, slV hb.t.i, slV hb.t.p, .int .i32 hb.t.n.co, slV hb.t.s]) (post := []) HGB.out rfl rfl
  by_cases h0 : ha.se = hb.se
  rotate_left
  · have b0 : (ha.se == hb.se) = false := by simp [h0]
    go_wp2_with fail
    go_ret
    exact RetB.mk HB.out (sameD_ne (fun e => h0 (by have h2 := congrArg DlT.se e; rw [ta.out.1, tb.out.1] at h2; exact h2))).symm
  have b0 : (ha.se == hb.se) = true := by simp [h0]
  have E0 := Lib.hid h0
  clear h0
  by_cases h1 : ha.xi = hb.xi
  rotate_left
  · have b1 : (ha.xi == hb.xi) = false := by simp [h1]
    go_wp2_with fail
    go_ret
    exact RetB.mk HB.out (sameD_ne (fun e => h1 (by have h2 := congrArg DlT.xi e; rw [ta.out.2.1, tb.out.2.1] at h2; exact h2))).symm
  have b1 : (ha.xi == hb.xi) = true := by simp [h1]
  have E1 := Lib.hid h1
  clear h1
  by_cases h2 : ha.zx = hb.zx
  rotate_left
  · have b2 : (ha.zx == hb.zx) = false := by simp [h2]
    go_wp2_with fail
    go_ret
    exact RetB.mk HB.out (sameD_ne (fun e => h2 (by have h2 := congrArg DlT.zx e; rw [ta.out.2.2.1, tb.out.2.2.1] at h2; exact h2))).symm
  have b2 : (ha.zx == hb.zx) = true := by simp [h2]
  have E2 := Lib.hid h2
  clear h2
  by_cases h3 : ha.ti = hb.ti
  rotate_left
  · have b3 : (ha.ti == hb.ti) = false := by simp [h3]
    go_wp2_with fail
    go_ret
    exact RetB.mk HB.out (sameD_ne (fun e => h3 (by have h2 := congrArg DlT.ti e; rw [ta.out.2.2.2, tb.out.2.2.2] at h2; exact h2))).symm
  have b3 : (ha.ti == hb.ti) = true := by simp [h3]
  have E3 := Lib.hid h3
  clear h3
  go_wp2_with (first
    | (apply wpList_loadMidV 33; (first | rfl | simp [Region.wanted, yielded]); exact rfl; exact rfl; exact y1; exact undTx; exact rfl; exact infTx)
    | (apply wpList_loadMidV 33; (first | rfl | simp [Region.wanted, yielded]); exact rfl; exact rfl; exact y2; exact undTx; exact rfl; exact infTx)
    | fail)
  refine HCL.out.mono ?_
  rintro e w1 ⟨rfl, hb1⟩
  have HB1 := Lib.hid (HB.out.trans (hb1.mono HB.out.size))
  have HV := Lib.hid (show sameT d.t d'.t = sameD d d' from by
    by_cases he : d.t = d'.t
    · rw [sameT_eq he, sameD_eq]
      have e0 := E0.out; have e1 := E1.out; have e2 := E2.out; have e3 := E3.out
      have a := ta.out; have b := tb.out
      cases d; cases d'
      simp only at *
      simp_all
    · rw [sameT_ne he, sameD_ne (fun e => he (by rw [e]))])
  clear hb1 y1 y2 b0 b1 b2 b3
  generalize sameT d.t d'.t = bb at *
  go_wp2_with fail
  go_ret
  exact RetB.mk HB1.out HV.out
end Go.Proofs.YthpjneobmmpbnaaGreatDoor
