/- A region that draws its order, in two parts: a head in which a condition on the world holds, and a tail in one forced order that may break it. No program; no condition. The walk of reply.clone. Condition: lists of at most 2^20. The walk of arbor/reply.Clone. Condition: lists of at most 2^20. The walk of Proposal.own. Condition: lists of at most 2^20. -/
import Derived.OrdersHeld
import Derived.StillTail
import Derived.Deep.RegionHeld
import Derived.Test.YtbpmmmnphpkdjaaGreatDoorZCloR
import Derived.Test.YtbpmmmnphpkdjaaGreatDoorZDltI
namespace Go.Proofs.YtbpmmmnphpkdjaaGreatDoor
section
variable {P : Program} {ops : Array Oper} {Q : Exit → Act → World → Prop} {md : Region.Mode} {S : World → Prop} {m : Nat}
/-- whatever order is picked; S holds behind each of the first m operations -/
def wpAnyM (P : Program) (md : Region.Mode) (ops : Array Oper) (Q : Exit → Act → World → Prop) (S : World → Prop) (m : Nat) : Nat → Array Bool → Act → World → Prop
  | 0, listed, a, w => Region.ready md ops listed = [] ∧ Q .normal a w
  | f + 1, listed, a, w => (Region.ready md ops listed = [] → Q .normal a w) ∧ ∀ i ∈ Region.ready md ops listed, wpOp P ops Q i (fun a' w' => (i < m → S w') ∧ wpAnyM P md ops Q S m f (listed.setIfInBounds i true) a' w') a w
theorem wpAny_of_M : ∀ (f : Nat) (listed : Array Bool) (a : Act) (w : World), wpAnyM P md ops Q S m f listed a w → wpAny P md ops Q f listed a w
  | 0, _, _, _, h => h
  | f + 1, _, _, _, h => ⟨h.1, fun i hi => wpOp_mono (fun a' w' h' => wpAny_of_M f _ a' w' h'.2) (h.2 i hi)⟩
/-- every other operation from number m on waits for number i -/
def tailWaits (md : Region.Mode) (ops : Array Oper) (m i : Nat) : Bool := (List.range ops.size).all fun j => decide (j < m) || (j == i || Region.waitsFor md ops j i)
theorem tailWaits_spec {i j : Nat} {oj : Oper} (h : tailWaits md ops m i = true) (hj : ops[j]? = some oj) (hm : m ≤ j) (hne : j ≠ i) : ∃ e ∈ oj.after, Region.binds md e = true ∧ e.on = i := by
  have h1 := List.all_eq_true.1 h j (List.mem_range.2 (Array.getElem?_eq_some_iff.1 hj).1)
  simp only [Bool.or_eq_true, decide_eq_true_eq, beq_iff_eq] at h1
  rcases h1 with h1 | h1 | h1
  · omega
  · exact absurd h1 hne
  · obtain ⟨o, ho, e, he, hb, hon⟩ := Region.waitsFor_spec h1
    have : o = oj := Option.some.inj (ho.symm.trans hj)
    subst this
    exact ⟨e, he, hb, hon⟩
theorem wpAnyM_first {i : Nat} {oi : Oper} {v : Value} (hi : ops[i]? = some oi) (hsel : ∀ (j : Nat) (o : Oper) cs b, ops[j]? = some o → o.op ≠ .select cs b) (hQ : ∀ c a w, Q (.panic c) (a.put oi.dst v) w → Q (.panic c) a w) (htw : tailWaits md ops m i = true) :
    ∀ (f : Nat) (listed : Array Bool) (a : Act) (w : World), (∀ j oj, ops[j]? = some oj → j ≠ i → listed.getD j true = false → (∀ e ∈ oj.after, Region.binds md e = true → e.on ≠ i) → oi.apart ops oj = true) →
      i ∈ Region.ready md ops listed → YieldsIf P ops S oi v a → S w → wpAnyM P md ops Q S m f (listed.setIfInBounds i true) (a.put oi.dst v) w → wpAnyM P md ops Q S m (f + 1) listed a w := by
  intro f
  induction f with
  | zero =>
    intro listed a w _ hr hy hS H
    refine ⟨fun h => absurd (h ▸ hr) (by simp), fun j hj => ?_⟩
    by_cases hji : j = i
    · subst hji; exact hy.wpOp hi hS ⟨fun _ => hS, H⟩
    · exact absurd (ready_mono hj hji) (by rw [H.1]; simp)
  | succ f ih =>
    intro listed a w hfree hr hy hS H
    refine ⟨fun h => absurd (h ▸ hr) (by simp), fun j hj => ?_⟩
    by_cases hji : j = i
    · subst hji; exact hy.wpOp hi hS ⟨fun _ => hS, H⟩
    obtain ⟨hun, oj, hoj, hall⟩ := mem_ready.1 hj
    -- number i has not come up, so nothing that is ready waits for it
    have hno : ∀ e ∈ oj.after, Region.binds md e = true → e.on ≠ i := by
      intro e he hb hon
      have h1 := hall e he hb
      rw [hon, getD_both (mem_ready.1 hr).1] at h1
      cases h1
    have hjm : j < m := by
      rcases Nat.lt_or_ge j m with h | h
      · exact h
      · obtain ⟨e, he, hb, hon⟩ := tailWaits_spec htw hoj h hji
        exact absurd hon (hno e he hb)
    have h2 := wpOp_putIf hoj (hfree j oj hoj hji hun hno) (fun cs b => hsel i oi cs b hi) (fun cs b => hsel j oj cs b hoj) hQ hy (H.2 j (ready_mono hj hji))
    refine wpOp_mono (fun a' w' h3 => ⟨fun _ => h3.2.1 hjm, ih _ a' w' ?_ (ready_mono hr (Ne.symm hji)) h3.1 (h3.2.1 hjm) ?_⟩) h2
    · intro k ok hk hki hunk hnok
      refine hfree k ok hk hki ?_ hnok
      by_cases hjk : j = k
      · subst hjk; exact hun
      · rwa [getD_set_ne true hjk] at hunk
    · rw [Array.setIfInBounds_comm _ _ hji]; exact h3.2.2
theorem wpAnyM_take {i : Nat} {oi : Oper} {v : Value} {f : Nat} {listed : Array Bool} {a : Act} {w : World} (hi : ops[i]? = some oi) (hB : (Region.noSelect ops && Region.free md ops listed i && (Region.ready md ops listed).contains i && tailWaits md ops m i) = true)
    (hQ : ∀ c a w, Q (.panic c) (a.put oi.dst v) w → Q (.panic c) a w) (hy : YieldsIf P ops S oi v a) (hS : S w) (h : wpAnyM P md ops Q S m f (listed.setIfInBounds i true) (a.put oi.dst v) w) : wpAnyM P md ops Q S m (f + 1) listed a w := by
  simp only [Bool.and_eq_true] at hB
  exact wpAnyM_first hi (Region.noSelect_spec hB.1.1.1) hQ hB.2 f listed a w (Region.free_spec hi hB.1.1.2) (by simpa using hB.1.2) hy hS h
/-- number i alone may come up -/
theorem wpAnyM_one {i : Nat} {o : Oper} {f : Nat} {listed : Array Bool} {a : Act} {w : World} (hi : ops[i]? = some o) (hr : Region.ready md ops listed = [i])
    (h : ∀ K' : Act → World → Prop, Shut (∀ a w, S w → wpAnyM P md ops Q S m f (listed.setIfInBounds i true) a w → K' a w) → if Region.wanted o (yielded ops a.tmps) = true then Oper.wp P o a w K' Q else K' (a.put o.dst undef) w) : wpAnyM P md ops Q S m (f + 1) listed a w := by
  refine ⟨fun h0 => absurd (hr ▸ h0) (by simp), fun j hj => ?_⟩
  rw [hr] at hj
  have hji : j = i := by simpa using hj
  subst hji
  exact wpOp_step hi (fun K' hK => h K' (fun a w hS hW => hK a w ⟨fun _ => hS, hW⟩))
/-- the head is through: the tail, in its one order -/
theorem wpAnyM_tail {l : List Oper} {n : Nat} {listed : Array Bool} {a : Act} {w : World} (hB : ((List.range m).all (fun i => listed.getD i true) && Region.seqB md l.toArray (l.drop n).length n listed) = true) (h : wpList P l.toArray Q (l.drop n) a w) : wpAnyM P md l.toArray Q S m (l.drop n).length listed a w := by
  simp only [Bool.and_eq_true] at hB
  have H := wpAny_of_seq (P := P) (md := md) (Q' := Q) (l.drop n) n listed a w (fun j => by simp [List.getElem?_drop]) hB.2 h
  have hall : ∀ i, i < m → listed.getD i true = true := fun i hi => List.all_eq_true.1 hB.1 i (List.mem_range.2 hi)
  clear hB h
  generalize (l.drop n).length = f at H
  induction f generalizing listed a w with
  | zero => exact H
  | succ f ih =>
    refine ⟨H.1, fun i hi => wpOp_mono (fun a' w' h' => ⟨fun him => ?_, ih (fun k hk => ?_) h'⟩) (H.2 i hi)⟩
    · have := (mem_ready.1 hi).1
      rw [hall i him] at this; cases this
    · by_cases hik : i = k
      · subst hik
        have := (mem_ready.1 hi).1
        rw [hall i hk] at this; cases this
      · rw [getD_set_ne true hik]; exact hall k hk
theorem wp_region_M {id : Nat} {a : Act} {w : World} (m : Nat) (hm : P.follows .mixedOrders = true) (hS : S w.drew) (h : S w.drew → wpAnyM P .any ops Q S m ops.size (Array.replicate ops.size false) a w.drew) : (Code.region id ops true).wp P Q a w :=
  wp_region_any hm (wpAny_of_M _ _ _ _ (h hS))
end
end Go.Proofs.YtbpmmmnphpkdjaaGreatDoor
namespace Go.Proofs.YtbpmmmnphpkdjaaGreatDoor
open Go.RowKit Go.MapKept
theorem undRs : Tryz.prog.underlying 59 = some (.struct (Tryz.prog.fieldsOf 59)) := by kernel_rfl
theorem infRs : (Tryz.prog.info? 59).map (·.size) = some 22 := by kernel_rfl
theorem undRp : Tryz.prog.underlying 61 = some (.struct (Tryz.prog.fieldsOf 61)) := by kernel_rfl
theorem infRp : (Tryz.prog.info? 61).map (·.size) = some 25 := by kernel_rfl
theorem oneRs (h : RsH) : (encRs h).toArray.all (·.oneCell') = true := by simp [encRs, Value.oneCell']
@[reducible] def rpV (h : RpH) : Value := .agg #[.int .i32 h.xi, .int .i64 h.zx, .int .i32 h.co, .int .i32 h.r.n.ty, .int .i32 h.r.n.co, .string h.r.n.path, .int .i64 h.r.n.q.a, .int .i64 h.r.n.q.b, .int .i64 h.r.n.q.c, .int .i64 h.r.n.q.d, .int .i32 h.r.n.q.e, .int .i32 h.r.n.q.f, .int .i32 h.r.n.q.g, .int .i64 h.r.n.q.h, .int .i32 h.r.n.q.i, .int .i32 h.r.n.q.j, .int .i64 h.r.n.q.k, slV h.r.d, slV h.r.a, slV h.r.m, .int .i32 h.r.n.ct, .int .i64 h.r.n.si, .int .i32 h.r.n.st, slV h.r.i, slV h.r.s]
theorem kRsOk : KdOk kRs where
  len := fun _ => rfl
  pos := by decide
  one := fun x u hu => by
    simp [encRs] at hu
    rcases hu with rfl | rfl | rfl | rfl | rfl | rfl | rfl | rfl | rfl | rfl | rfl | rfl | rfl | rfl | rfl | rfl | rfl | rfl | rfl | rfl | rfl | rfl <;> rfl
  loc := fun H hf hR => ⟨H.1, H.2.1.fr hf hR (fun _ => by simp [enc8]), H.2.2.1.fr hf hR (fun _ => by simp [encAcl]), H.2.2.2.1.fr hf hR (fun _ => by simp [encStr]), H.2.2.2.2.fr hf hR (fun _ => by simp [encId])⟩
def ClonedRP (t : RsT) (w : World) (e : Ending) (w' : World) : Prop := (∃ h', e = .returned (rsV h') ∧ RsAt w' (w.heap.size ≤ ·) h' t) ∧ Below w.heap.size w w'
/-- the loop's state: k elements are copied -/
structure ClRr (w : World) (h' : RsH) (v : RsF) (subs : List RsT) (n gs hi : Nat) (Z : Array Value) (k : Nat) (wr : World) : Prop where
  s : CnSt w wr (encRs h').toArray Z 59
  l : locRs wr (fun b => w.heap.size + 2 ≤ b ∧ b ≠ gs) h' v
  r : ClSt kRs w.heap.size hi gs n subs k wr
  hi : hi ≤ wr.heap.size
theorem ClRr.step {w : World} {h' : RsH} {v : RsF} {subs : List RsT} {n gs hi : Nat} {Z : Array Value} {k : Nat} {wr w2 : World} (H : ClRr w h' v subs n gs hi Z k wr) (hb : Below wr.heap.size wr w2) {hh : RsH} (ht : RsAt w2 (wr.heap.size ≤ ·) hh subs[k]!) (hk : k < n) (hgs : gs < hi) (hB : w.heap.size + 2 ≤ gs) :
    ClRr w h' v subs n gs hi Z (k + 1) (w2.setCells gs (k * 22) (encRs hh)) where
  s := ⟨((fr_setCells w2 gs (k * 22) (encRs hh)).block _ (by have := H.s.s; have := hb.size; omega) (by simp; omega)).trans (H.s.call hb).c, ((fr_setCells w2 gs (k * 22) (encRs hh)).block _ (by have := H.s.s; have := hb.size; omega) (by simp; omega)).trans (H.s.call hb).z, (H.s.call hb).b.trans ((fr_setCells w2 gs (k * 22) (encRs hh)).below (H.s.call hb).b.size (by simp; omega)), Nat.le_trans (H.s.call hb).s (fr_setCells w2 gs (k * 22) (encRs hh)).size⟩
  l := kRsOk.loc (kRsOk.loc (R' := fun b => w.heap.size + 2 ≤ b ∧ b ≠ gs) H.l (Fr.of_below (own := []) hb) (fun b _ h => ⟨by simp, h⟩)) (fr_setCells w2 gs (k * 22) (encRs hh)) (fun b _ h => ⟨by simpa using h.2, h⟩)
  r := H.r.step kRsOk hb ht hk hgs H.hi (by omega)
  hi := Nat.le_trans H.hi (Nat.le_trans hb.size (fr_setCells w2 gs (k * 22) (encRs hh)).size)

set_option linter.unusedSimpArgs false in
set_option maxRecDepth 100000 in
set_option maxHeartbeats 20000000 in
theorem clonedR_any : ∀ (t : RsT) (h : RsH) (w : World) (R : Nat → Prop), RsAt w R h t → RsOk 1048576 t → Calls Tryz.prog 141 #[rsV h] w (ClonedRP t w) := by
  refine Tr.ind ?_
  intro v subs ih h w R ht0 hok
  have ht : RsAt w (· < w.heap.size) h (.mk v subs) := ht0.more (fun b hb _ => hb)
  have hl := ht.loc
  obtain ⟨L, hL, hsub⟩ := ht.subs_at
  have hlen := ht.len
  have hsm := hok.top
  have HS := Lib.hid (CnSt.start w #[.int .i32 h.n.ty, .int .i32 h.n.co, .string h.n.path, .int .i64 h.n.q.a, .int .i64 h.n.q.b, .int .i64 h.n.q.c, .int .i64 h.n.q.d, .int .i32 h.n.q.e, .int .i32 h.n.q.f, .int .i32 h.n.q.g, .int .i64 h.n.q.h, .int .i32 h.n.q.i, .int .i32 h.n.q.j, .int .i64 h.n.q.k, slV h.d, slV h.a, slV h.m, .int .i32 h.n.ct, .int .i64 h.n.si, .int .i32 h.n.st, slV h.i, slV h.s] #[.int .i32 0, .int .i32 0, .string ⟨#[]⟩, .int .i64 0, .int .i64 0, .int .i64 0, .int .i64 0, .int .i32 0, .int .i32 0, .int .i32 0, .int .i64 0, .int .i32 0, .int .i32 0, .int .i64 0, .slice none 0 0, .slice none 0 0, .slice none 0 0, .int .i32 0, .int .i64 0, .int .i32 0, .slice none 0 0, .slice none 0 0] 59)
  have HCd := Lib.hid (fun (W : World) (hW : Below w.heap.size w W) => cloneByt2_any h.d.1 h.d.2.1 h.d.2.2 v.data W ((hl.2.1.sl (fun _ => by simp [enc8])).belowMore hW hW.size) hl.2.1.hd.1 (by have h1 := hsm.2.2.1; have h2 := hl.2.1.1; simp only [Tr.v, Tr.subs] at *; omega))
  have HLd := Lib.hid hl.2.1.len
  have HCa := Lib.hid (fun (W : World) (hW : Below w.heap.size w W) => cloneAcl_any h.a.1 h.a.2.1 h.a.2.2 v.acl W ((hl.2.2.1.sl (fun _ => by simp [encAcl])).belowMore hW hW.size) hl.2.2.1.hd.1 (by have h1 := hsm.2.2.2.1; have h2 := hl.2.2.1.1; simp only [Tr.v, Tr.subs] at *; omega))
  have HLa := Lib.hid hl.2.2.1.len
  have HCm := Lib.hid (fun (W : World) (hW : Below w.heap.size w W) => cloneStr_any h.m.1 h.m.2.1 h.m.2.2 v.names W ((hl.2.2.2.1.sl (fun _ => by simp [encStr])).belowMore hW hW.size) hl.2.2.2.1.hd.1 (by have h1 := hsm.2.2.2.2.1; have h2 := hl.2.2.2.1.1; simp only [Tr.v, Tr.subs] at *; omega))
  have HLm := Lib.hid hl.2.2.2.1.len
  have HCi := Lib.hid (fun (W : World) (hW : Below w.heap.size w W) => cloneIds_any h.i.1 h.i.2.1 h.i.2.2 v.ids W ((hl.2.2.2.2.sl (fun _ => by simp [encId])).belowMore hW hW.size) hl.2.2.2.2.hd.1 (by have h1 := hsm.2.2.2.2.2.1; have h2 := hl.2.2.2.2.1; simp only [Tr.v, Tr.subs] at *; omega))
  have HLi := Lib.hid hl.2.2.2.2.len
  have HCs := Lib.hid (fun (W : World) (hW : Below w.heap.size w W) => cloneRs_any h.s.1 h.s.2.1 h.s.2.2 L W ((hL.sl (fun _ => by simp [encRs])).belowMore hW hW.size) hL.hd.1 (Nat.le_trans (show h.s.2.1 ≤ 1048576 by have h1 := hsm.2.2.2.2.2.2.1; rw [hlen] at h1; exact h1) (by omega)))
  have HLs := Lib.hid hL.len
  have HSUB := Lib.hid hsub; have HLEN := Lib.hid (show subs.length = h.s.2.1 from hlen); have HN := Lib.hid hl.1
  have HIH := Lib.hid ih; have HOK := Lib.hid (fun k (hk : k < subs.length) => hok.subAt (j := k) hk)
  have HSB := Lib.hid (show h.s.2.1 ≤ 1048576 by have h1 := hsm.2.2.2.2.2.2.1; rw [hlen] at h1; exact h1)
  clear ht0 ht hl hL hsub hlen hsm ih hok
  go_enter Tryz.func141, Tryz.ntmps141
  go_wp2_with (first
    | (apply wpList_storeTop 59 59; exact rfl; exact rfl; exact rfl; (first | (with_reducible rfl) | (exact sz1 _ _) | (exact sz2 _ _ _) | (exact sz3 _ _ _ _)); exact rfl; exact infRs; exact rfl; simp [Value.oneCell'])
    | fail)
  generalize ((w.alloc (.cells #[.int .i32 h.n.ty, .int .i32 h.n.co, .string h.n.path, .int .i64 h.n.q.a, .int .i64 h.n.q.b, .int .i64 h.n.q.c, .int .i64 h.n.q.d, .int .i32 h.n.q.e, .int .i32 h.n.q.f, .int .i32 h.n.q.g, .int .i64 h.n.q.h, .int .i32 h.n.q.i, .int .i32 h.n.q.j, .int .i64 h.n.q.k, slV h.d, slV h.a, slV h.m, .int .i32 h.n.ct, .int .i64 h.n.si, .int .i32 h.n.st, slV h.i, slV h.s] 59)).alloc (.cells #[.int .i32 0, .int .i32 0, .string ⟨#[]⟩, .int .i64 0, .int .i64 0, .int .i64 0, .int .i64 0, .int .i32 0, .int .i32 0, .int .i32 0, .int .i64 0, .int .i32 0, .int .i32 0, .int .i64 0, .slice none 0 0, .slice none 0 0, .slice none 0 0, .int .i32 0, .int .i64 0, .int .i32 0, .slice none 0 0, .slice none 0 0] 59)) = V at *
  replace HS := Lib.hid (HS.out.call (drew_self V))
  have HSO := Lib.hid (fun (W : World) (hW : Below V.drew.heap.size V.drew W) => (show (fun w' : World => w'.cell? ⟨w.heap.size, 14, none⟩ = some (slV h.d) ∧ w'.cell? ⟨w.heap.size, 15, none⟩ = some (slV h.a) ∧ w'.cell? ⟨w.heap.size, 16, none⟩ = some (slV h.m) ∧ w'.cell? ⟨w.heap.size, 20, none⟩ = some (slV h.i)) W from ⟨(HS.out.call hW).cell rfl, (HS.out.call hW).cell rfl, (HS.out.call hW).cell rfl, (HS.out.call hW).cell rfl⟩))
  refine wp_region_M (S := fun w' => w'.cell? ⟨w.heap.size, 14, none⟩ = some (slV h.d) ∧ w'.cell? ⟨w.heap.size, 15, none⟩ = some (slV h.a) ∧ w'.cell? ⟨w.heap.size, 16, none⟩ = some (slV h.m) ∧ w'.cell? ⟨w.heap.size, 20, none⟩ = some (slV h.i)) 13 (by kernel_rfl) (HSO.out _ (Below.refl _ _)) (fun hHeld => ?_)
  generalize V.drew = V0 at *
  refine wpAnyM_take (i := 0) (v := .pointer (some ⟨w.heap.size, 14, none⟩)) rfl (by kernel_rfl) (fun _ _ _ h => h) (Or.inl ⟨by rfl, by intro w hSw; clear hSw; go_simp⟩) (by assumption) ?_
  (try simp only [Act.put, List.setIfInBounds_toArray, List.set_cons_zero, List.set_cons_succ])
  refine wpAnyM_take (i := 1) (v := slV h.d) rfl (by kernel_rfl) (fun _ _ _ h => h) (Or.inl ⟨by rfl, by intro w hSw; have hSx := hSw.1; clear hSw; go_simp⟩) (by assumption) ?_
  (try simp only [Act.put, List.setIfInBounds_toArray, List.set_cons_zero, List.set_cons_succ])
  refine wpAnyM_take (i := 3) (v := .pointer (some ⟨w.heap.size, 15, none⟩)) rfl (by kernel_rfl) (fun _ _ _ h => h) (Or.inl ⟨by rfl, by intro w hSw; clear hSw; go_simp⟩) (by assumption) ?_
  (try simp only [Act.put, List.setIfInBounds_toArray, List.set_cons_zero, List.set_cons_succ])
  refine wpAnyM_take (i := 4) (v := slV h.a) rfl (by kernel_rfl) (fun _ _ _ h => h) (Or.inl ⟨by rfl, by intro w hSw; have hSx := hSw.2.1; clear hSw; go_simp⟩) (by assumption) ?_
  (try simp only [Act.put, List.setIfInBounds_toArray, List.set_cons_zero, List.set_cons_succ])
  refine wpAnyM_take (i := 6) (v := .pointer (some ⟨w.heap.size, 16, none⟩)) rfl (by kernel_rfl) (fun _ _ _ h => h) (Or.inl ⟨by rfl, by intro w hSw; clear hSw; go_simp⟩) (by assumption) ?_
  (try simp only [Act.put, List.setIfInBounds_toArray, List.set_cons_zero, List.set_cons_succ])
  refine wpAnyM_take (i := 7) (v := slV h.m) rfl (by kernel_rfl) (fun _ _ _ h => h) (Or.inl ⟨by rfl, by intro w hSw; have hSx := hSw.2.2.1; clear hSw; go_simp⟩) (by assumption) ?_
  (try simp only [Act.put, List.setIfInBounds_toArray, List.set_cons_zero, List.set_cons_succ])
  refine wpAnyM_take (i := 9) (v := .pointer (some ⟨w.heap.size, 18, none⟩)) rfl (by kernel_rfl) (fun _ _ _ h => h) (Or.inl ⟨by rfl, by intro w hSw; clear hSw; go_simp⟩) (by assumption) ?_
  (try simp only [Act.put, List.setIfInBounds_toArray, List.set_cons_zero, List.set_cons_succ])
  refine wpAnyM_take (i := 10) (v := .pointer (some ⟨w.heap.size, 20, none⟩)) rfl (by kernel_rfl) (fun _ _ _ h => h) (Or.inl ⟨by rfl, by intro w hSw; clear hSw; go_simp⟩) (by assumption) ?_
  (try simp only [Act.put, List.setIfInBounds_toArray, List.set_cons_zero, List.set_cons_succ])
  refine wpAnyM_take (i := 11) (v := slV h.i) rfl (by kernel_rfl) (fun _ _ _ h => h) (Or.inl ⟨by rfl, by intro w hSw; have hSx := hSw.2.2.2; clear hSw; go_simp⟩) (by assumption) ?_
  (try simp only [Act.put, List.setIfInBounds_toArray, List.set_cons_zero, List.set_cons_succ])
  refine wpAnyM_one (i := 2) rfl (by kernel_rfl) (fun K hK => ?_)
  go_simp
  refine (HCd.out _ HS.out.b).mono ?_
  rintro e w0 ⟨⟨A0, c0, rfl, hr⟩, hb⟩
  dsimp only
  have HRd := Lib.hid (CloneP.slr hr (fun _ => rfl) HLd.out HS.out.s)
  replace HSO := Lib.hid (fun (W : World) (hW : Below w0.heap.size w0 W) => HSO.out W (hb.trans (hW.mono hb.size)))
  replace HS := Lib.hid (HS.out.call hb)
  replace hHeld := HSO.out _ (Below.refl _ _)
  refine hK.out _ _ hHeld ?_
  clear hK K hr hb
  (try simp only [Act.put, List.setIfInBounds_toArray, List.set_cons_zero, List.set_cons_succ])
  refine wpAnyM_take (i := 13) (v := .pointer (some ⟨w.heap.size, 14, none⟩)) rfl (by kernel_rfl) (fun _ _ _ h => h) (Or.inl ⟨by rfl, by intro w hSw; clear hSw; go_simp⟩) (by assumption) ?_
  (try simp only [Act.put, List.setIfInBounds_toArray, List.set_cons_zero, List.set_cons_succ])
  refine wpAnyM_one (i := 5) rfl (by kernel_rfl) (fun K hK => ?_)
  go_simp
  refine (HCa.out _ HS.out.b).mono ?_
  rintro e w1 ⟨⟨A1, c1, rfl, hr⟩, hb⟩
  dsimp only
  have HRa := Lib.hid (CloneP.slr hr (fun _ => rfl) HLa.out HS.out.s)
  replace HRd := Lib.hid (HRd.out.later hb (fun _ => by simp [enc8]))
  replace HSO := Lib.hid (fun (W : World) (hW : Below w1.heap.size w1 W) => HSO.out W (hb.trans (hW.mono hb.size)))
  replace HS := Lib.hid (HS.out.call hb)
  replace hHeld := HSO.out _ (Below.refl _ _)
  refine hK.out _ _ hHeld ?_
  clear hK K hr hb
  (try simp only [Act.put, List.setIfInBounds_toArray, List.set_cons_zero, List.set_cons_succ])
  refine wpAnyM_one (i := 8) rfl (by kernel_rfl) (fun K hK => ?_)
  go_simp
  refine (HCm.out _ HS.out.b).mono ?_
  rintro e w2 ⟨⟨A2, c2, rfl, hr⟩, hb⟩
  dsimp only
  have HRm := Lib.hid (CloneP.slr hr (fun _ => rfl) HLm.out HS.out.s)
  replace HRd := Lib.hid (HRd.out.later hb (fun _ => by simp [enc8]))
  replace HRa := Lib.hid (HRa.out.later hb (fun _ => by simp [encAcl]))
  replace HSO := Lib.hid (fun (W : World) (hW : Below w2.heap.size w2 W) => HSO.out W (hb.trans (hW.mono hb.size)))
  replace HS := Lib.hid (HS.out.call hb)
  replace hHeld := HSO.out _ (Below.refl _ _)
  refine hK.out _ _ hHeld ?_
  clear hK K hr hb
  (try simp only [Act.put, List.setIfInBounds_toArray, List.set_cons_zero, List.set_cons_succ])
  refine wpAnyM_one (i := 12) rfl (by kernel_rfl) (fun K hK => ?_)
  go_simp
  refine (HCi.out _ HS.out.b).mono ?_
  rintro e w3 ⟨⟨A3, c3, rfl, hr⟩, hb⟩
  dsimp only
  have HRi := Lib.hid (CloneP.slr hr (fun _ => rfl) HLi.out HS.out.s)
  replace HRd := Lib.hid (HRd.out.later hb (fun _ => by simp [enc8]))
  replace HRa := Lib.hid (HRa.out.later hb (fun _ => by simp [encAcl]))
  replace HRm := Lib.hid (HRm.out.later hb (fun _ => by simp [encStr]))
  replace HSO := Lib.hid (fun (W : World) (hW : Below w3.heap.size w3 W) => HSO.out W (hb.trans (hW.mono hb.size)))
  replace HS := Lib.hid (HS.out.call hb)
  replace hHeld := HSO.out _ (Below.refl _ _)
  refine hK.out _ _ hHeld ?_
  clear hK K hr hb
  (try simp only [Act.put, List.setIfInBounds_toArray, List.set_cons_zero, List.set_cons_succ])
  refine wpAnyM_tail (n := 14) (by kernel_rfl) ?_
  simp only [List.drop_succ_cons, List.drop_zero]
  have z14 := HS.out.cell (i := 14) (v := slV h.d) rfl
  have f14 := HS.out.frz 14
  have z15 := HS.out.cell (i := 15) (v := slV h.a) rfl
  have f15 := HS.out.frz 15
  have z16 := HS.out.cell (i := 16) (v := slV h.m) rfl
  have f16 := HS.out.frz 16
  have z20 := HS.out.cell (i := 20) (v := slV h.i) rfl
  have f20 := HS.out.frz 20
  have z21 := HS.out.cell (i := 21) (v := slV h.s) rfl
  clear hHeld HSO
  go_wp2_with fail
  replace HS := Lib.hid (HS.out.set 14 (.slice A0 h.d.2.1 c0))
  replace HRd := Lib.hid (HRd.out.put (fun _ => by simp [enc8]) 14 (.slice A0 h.d.2.1 c0))
  replace HRa := Lib.hid (HRa.out.put (fun _ => by simp [encAcl]) 14 (.slice A0 h.d.2.1 c0))
  replace HRm := Lib.hid (HRm.out.put (fun _ => by simp [encStr]) 14 (.slice A0 h.d.2.1 c0))
  replace HRi := Lib.hid (HRi.out.put (fun _ => by simp [encId]) 14 (.slice A0 h.d.2.1 c0))
  replace HS := Lib.hid (HS.out.set 15 (.slice A1 h.a.2.1 c1))
  replace HRd := Lib.hid (HRd.out.put (fun _ => by simp [enc8]) 15 (.slice A1 h.a.2.1 c1))
  replace HRa := Lib.hid (HRa.out.put (fun _ => by simp [encAcl]) 15 (.slice A1 h.a.2.1 c1))
  replace HRm := Lib.hid (HRm.out.put (fun _ => by simp [encStr]) 15 (.slice A1 h.a.2.1 c1))
  replace HRi := Lib.hid (HRi.out.put (fun _ => by simp [encId]) 15 (.slice A1 h.a.2.1 c1))
  replace HS := Lib.hid (HS.out.set 16 (.slice A2 h.m.2.1 c2))
  replace HRd := Lib.hid (HRd.out.put (fun _ => by simp [enc8]) 16 (.slice A2 h.m.2.1 c2))
  replace HRa := Lib.hid (HRa.out.put (fun _ => by simp [encAcl]) 16 (.slice A2 h.m.2.1 c2))
  replace HRm := Lib.hid (HRm.out.put (fun _ => by simp [encStr]) 16 (.slice A2 h.m.2.1 c2))
  replace HRi := Lib.hid (HRi.out.put (fun _ => by simp [encId]) 16 (.slice A2 h.m.2.1 c2))
  replace HS := Lib.hid (HS.out.set 20 (.slice A3 h.i.2.1 c3))
  replace HRd := Lib.hid (HRd.out.put (fun _ => by simp [enc8]) 20 (.slice A3 h.i.2.1 c3))
  replace HRa := Lib.hid (HRa.out.put (fun _ => by simp [encAcl]) 20 (.slice A3 h.i.2.1 c3))
  replace HRm := Lib.hid (HRm.out.put (fun _ => by simp [encStr]) 20 (.slice A3 h.i.2.1 c3))
  replace HRi := Lib.hid (HRi.out.put (fun _ => by simp [encId]) 20 (.slice A3 h.i.2.1 c3))
  replace HS := Lib.hid (show CnSt w ((((w3.setCell ⟨w.heap.size, 14, none⟩ (.slice A0 h.d.2.1 c0)).setCell ⟨w.heap.size, 15, none⟩ (.slice A1 h.a.2.1 c1)).setCell ⟨w.heap.size, 16, none⟩ (.slice A2 h.m.2.1 c2)).setCell ⟨w.heap.size, 20, none⟩ (.slice A3 h.i.2.1 c3)) #[.int .i32 h.n.ty, .int .i32 h.n.co, .string h.n.path, .int .i64 h.n.q.a, .int .i64 h.n.q.b, .int .i64 h.n.q.c, .int .i64 h.n.q.d, .int .i32 h.n.q.e, .int .i32 h.n.q.f, .int .i32 h.n.q.g, .int .i64 h.n.q.h, .int .i32 h.n.q.i, .int .i32 h.n.q.j, .int .i64 h.n.q.k, .slice A0 h.d.2.1 c0, .slice A1 h.a.2.1 c1, .slice A2 h.m.2.1 c2, .int .i32 h.n.ct, .int .i64 h.n.si, .int .i32 h.n.st, .slice A3 h.i.2.1 c3, slV h.s] _ _ from HS.out)
  generalize ((((w3.setCell ⟨w.heap.size, 14, none⟩ (.slice A0 h.d.2.1 c0)).setCell ⟨w.heap.size, 15, none⟩ (.slice A1 h.a.2.1 c1)).setCell ⟨w.heap.size, 16, none⟩ (.slice A2 h.m.2.1 c2)).setCell ⟨w.heap.size, 20, none⟩ (.slice A3 h.i.2.1 c3)) = V4 at *
  clear z14 f14 z15 f15 z16 f16 z20 f20 z21
  refine (HCs.out _ HS.out.b).mono ?_
  rintro e w4 ⟨⟨A4, c4, rfl, hr⟩, hb⟩
  have HRs := Lib.hid hr; have HSZ4 := Lib.hid (show w.heap.size + 2 ≤ V4.heap.size from HS.out.s); have HBX4 := Lib.hid hb
  replace HRd := Lib.hid (HRd.out.fr (R' := fun b => w.heap.size + 2 ≤ b ∧ b < V4.heap.size) (Fr.of_below (own := []) hb) (fun b hlt h => ⟨by simp, h, hlt⟩) (fun _ => by simp [enc8]))
  replace HRa := Lib.hid (HRa.out.fr (R' := fun b => w.heap.size + 2 ≤ b ∧ b < V4.heap.size) (Fr.of_below (own := []) hb) (fun b hlt h => ⟨by simp, h, hlt⟩) (fun _ => by simp [encAcl]))
  replace HRm := Lib.hid (HRm.out.fr (R' := fun b => w.heap.size + 2 ≤ b ∧ b < V4.heap.size) (Fr.of_below (own := []) hb) (fun b hlt h => ⟨by simp, h, hlt⟩) (fun _ => by simp [encStr]))
  replace HRi := Lib.hid (HRi.out.fr (R' := fun b => w.heap.size + 2 ≤ b ∧ b < V4.heap.size) (Fr.of_below (own := []) hb) (fun b hlt h => ⟨by simp, h, hlt⟩) (fun _ => by simp [encId]))
  replace HS := Lib.hid (HS.out.call hb)
  have z4 := HS.out.cell (i := 21) (v := slV h.s) rfl
  have f4 := HS.out.frz 21
  clear hr hb
  go_wp2_with fail
  obtain ⟨hA, hnc, gs, hgs, hgA, hst⟩ := ClSt.start kRsOk (B := w.heap.size) (subs := subs) HRs.out HLs.out (fun j hj => (HSUB.out j hj).fr kRsOk (Fr.of_below (own := []) HS.out.b) (fun b hlt _ => ⟨by simp, hlt⟩))
  have hst' := hst.other kRsOk (fr_set w4 w.heap.size 21 (.slice A4 h.s.2.1 c4)) (World.there_setCells hst.th w.heap.size 21 [.slice A4 h.s.2.1 c4]) (by have := HSZ4.out; simp; omega) (fun g hg => by have := HS.out.s; simp at hg; omega)
  have HR0 := Lib.hid (show ClRr w ⟨h.n, (A0, h.d.2.1, c0), (A1, h.a.2.1, c1), (A2, h.m.2.1, c2), (A3, h.i.2.1, c3), (A4, h.s.2.1, c4)⟩ v subs h.s.2.1 gs w4.heap.size _ 0 (w4.setCell ⟨w.heap.size, 21, none⟩ (.slice A4 h.s.2.1 c4)) from
    ⟨HS.out.set 21 _, ⟨HN.out, HRd.out.fr (fr_set _ _ _ _) (fun b _ h => ⟨by simp; omega, h.1, by omega⟩) (fun _ => by simp [enc8]), HRa.out.fr (fr_set _ _ _ _) (fun b _ h => ⟨by simp; omega, h.1, by omega⟩) (fun _ => by simp [encAcl]), HRm.out.fr (fr_set _ _ _ _) (fun b _ h => ⟨by simp; omega, h.1, by omega⟩) (fun _ => by simp [encStr]), HRi.out.fr (fr_set _ _ _ _) (fun b _ h => ⟨by simp; omega, h.1, by omega⟩) (fun _ => by simp [encId])⟩, hst', (fr_set w4 w.heap.size 21 _).size⟩)
  have HA := Lib.hid (And.intro hA (And.intro hnc hgA)); have HGS := Lib.hid (show w.heap.size + 2 ≤ gs from Nat.le_trans HSZ4.out hgs); have HHI := Lib.hid (show 0 < h.s.2.1 → gs < w4.heap.size from fun h0 => (hgA h0).2)
  have HSH := Lib.hid (show w.heap.size + 2 ≤ w4.heap.size from Nat.le_trans HSZ4.out HBX4.out.size)
  clear hA hnc hgs hgA hst hst' HRd HRa HRi HRm HRs HBX4 HSZ4 HCd HCa HCi HCm HCs HLd HLa HLi HLm HLs z4 f4 HS HSUB
  generalize w4.setCell ⟨w.heap.size, 21, none⟩ (.slice A4 h.s.2.1 c4) = V5 at *
  generalize w4.heap.size = hi at *
  go_loopw [29] (fun i wr => ∃ k : Nat, i = .int .i64 ↑k ∧ k ≤ h.s.2.1 ∧ ClRr w ⟨h.n, (A0, h.d.2.1, c0), (A1, h.a.2.1, c1), (A2, h.m.2.1, c2), (A3, h.i.2.1, c3), (A4, h.s.2.1, c4)⟩ v subs h.s.2.1 gs hi #[.int .i32 0, .int .i32 0, .string ⟨#[]⟩, .int .i64 0, .int .i64 0, .int .i64 0, .int .i64 0, .int .i32 0, .int .i32 0, .int .i32 0, .int .i64 0, .int .i32 0, .int .i32 0, .int .i64 0, .slice none 0 0, .slice none 0 0, .slice none 0 0, .int .i32 0, .int .i64 0, .int .i32 0, .slice none 0 0, .slice none 0 0] k wr) (fun i _ => h.s.2.1 - (RowKit.intOf i).toNat)
  case atStart => exact ⟨0, rfl, Nat.zero_le _, HR0.out⟩
  case round =>
    obtain ⟨k, rfl, hk, hR⟩ := hrel
    have hsb := HSB.out
    by_cases hlt : k < h.s.2.1
    · have hA4 := (HA.out.2.2 (by omega)).1
      obtain ⟨hh, hr, htk⟩ := hR.r.old k (Nat.le_refl _) hlt
      have HIHk := Lib.hid (fun (W : World) (hW : Below wr.heap.size wr W) => HIH.out k (by rw [HLEN.out]; exact hlt) hh W _ (htk.fr kRsOk (Fr.of_below (own := []) hW) (fun b hb h => ⟨by simp, h⟩)) (HOK.out k (by rw [HLEN.out]; exact hlt)))
      have HR := Lib.hid hR
      have HLT := Lib.hid hlt
      subst hA4
      have HSO := Lib.hid (fun (W : World) (hW : Below wr.heap.size wr W) => And.intro ((hR.s.call hW).cell (i := 21) (v := .slice (some ⟨gs, 0, none⟩) h.s.2.1 c4) rfl) (range_below hr hW))
      clear hR htk hr
      go_wp2_with fail
      refine wp_region_M (S := fun w' => w'.cell? ⟨w.heap.size, 21, none⟩ = some (.slice (some ⟨gs, 0, none⟩) h.s.2.1 c4) ∧ w'.rangeAt gs (k * 22) (encRs hh)) 9 (by kernel_rfl) (HSO.out _ (drew_self _)) (fun hHeld => ?_)
      refine wpAnyM_take (i := 0) (v := .pointer (some ⟨w.heap.size, 21, none⟩)) rfl (by kernel_rfl) (fun _ _ _ h => h) (Or.inl ⟨by rfl, by intro w hSw; clear hSw; go_simp⟩) (by assumption) ?_
      (try simp only [Act.put, List.setIfInBounds_toArray, List.set_cons_zero, List.set_cons_succ])
      refine wpAnyM_take (i := 1) (v := .slice (some ⟨gs, 0, none⟩) h.s.2.1 c4) rfl (by kernel_rfl) (fun _ _ _ h => h) (Or.inl ⟨by rfl, by intro w hSw; have hSx := hSw.1; clear hSw; go_simp⟩) (by assumption) ?_
      (try simp only [Act.put, List.setIfInBounds_toArray, List.set_cons_zero, List.set_cons_succ])
      refine wpAnyM_take (i := 2) (v := .int .i64 ↑k) rfl (by kernel_rfl) (fun _ _ _ h => h) (Or.inl ⟨by rfl, by intro w hSw; clear hSw; go_simp⟩) (by assumption) ?_
      (try simp only [Act.put, List.setIfInBounds_toArray, List.set_cons_zero, List.set_cons_succ])
      refine wpAnyM_take (i := 3) (v := .pointer (some ⟨w.heap.size, 21, none⟩)) rfl (by kernel_rfl) (fun _ _ _ h => h) (Or.inl ⟨by rfl, by intro w hSw; clear hSw; go_simp⟩) (by assumption) ?_
      (try simp only [Act.put, List.setIfInBounds_toArray, List.set_cons_zero, List.set_cons_succ])
      refine wpAnyM_take (i := 4) (v := .slice (some ⟨gs, 0, none⟩) h.s.2.1 c4) rfl (by kernel_rfl) (fun _ _ _ h => h) (Or.inl ⟨by rfl, by intro w hSw; have hSx := hSw.1; clear hSw; go_simp⟩) (by assumption) ?_
      (try simp only [Act.put, List.setIfInBounds_toArray, List.set_cons_zero, List.set_cons_succ])
      refine wpAnyM_take (i := 5) (v := .int .i64 ↑k) rfl (by kernel_rfl) (fun _ _ _ h => h) (Or.inl ⟨by rfl, by intro w hSw; clear hSw; go_simp⟩) (by assumption) ?_
      (try simp only [Act.put, List.setIfInBounds_toArray, List.set_cons_zero, List.set_cons_succ])
      refine wpAnyM_take (i := 6) (v := .pointer (some ⟨gs, k * 22, none⟩)) rfl (by kernel_rfl) (fun _ _ _ h => h) (Or.inl ⟨by rfl, by intro w hSw; clear hSw; go_simp⟩) (by assumption) ?_
      (try simp only [Act.put, List.setIfInBounds_toArray, List.set_cons_zero, List.set_cons_succ])
      refine wpAnyM_take (i := 7) (v := .agg (encRs hh).toArray) rfl (by kernel_rfl) (fun _ _ _ h => h) (yieldsIf_load_mid (by rfl) 59 _ rfl gs (k * 22) rfl (encRs hh) _ (fun _ h => h.2) undRs rfl infRs) (by assumption) ?_
      (try simp only [Act.put, List.setIfInBounds_toArray, List.set_cons_zero, List.set_cons_succ])
      refine wpAnyM_one (i := 8) rfl (by kernel_rfl) (fun K hK => ?_)
      go_simp
      refine (HIHk.out _ (drew_self _)).mono ?_
      rintro e w6 ⟨⟨h6, rfl, ht6⟩, hb6⟩
      dsimp only
      have hbA := (drew_self wr).trans (hb6.mono (drew_self wr).size)
      refine hK.out _ _ (HSO.out _ hbA) ?_
      clear hK K
      (try simp only [Act.put, List.setIfInBounds_toArray, List.set_cons_zero, List.set_cons_succ])
      refine wpAnyM_tail (n := 9) (by kernel_rfl) ?_
      simp only [List.drop_succ_cons, List.drop_zero]
      have hth := there_below (HR.out.r.there_row hlt) hbA
      have HX := Lib.hid (HR.out.step hbA (hh := h6) (TrAt.fr kRsOk ht6 (Fr.refl [] w6) (fun b _ h => ⟨by simp, Nat.le_trans (drew_self wr).size h⟩)) hlt (HHI.out (by omega)) HGS.out)
      clear hbA hHeld HR HSO HR0 ht6 hb6
      go_wp2_with (first
        | (apply wpList_storeMid 59; exact rfl; exact rfl; exact rfl; exact rfl; assumption; exact infRs; simp [Value.oneCell'])
        | fail)
      go_roundw
      case rel => exact ⟨k + 1, by go_num, by omega, HX.out⟩
      case measure => show h.s.2.1 - ((↑k + 1 : Int)).toNat < h.s.2.1 - (↑k : Int).toNat; omega
    · have hkn : k = h.s.2.1 := by omega
      subst hkn
      have gC : wr.heap[w.heap.size]? = some (.cells #[.int .i32 h.n.ty, .int .i32 h.n.co, .string h.n.path, .int .i64 h.n.q.a, .int .i64 h.n.q.b, .int .i64 h.n.q.c, .int .i64 h.n.q.d, .int .i32 h.n.q.e, .int .i32 h.n.q.f, .int .i32 h.n.q.g, .int .i64 h.n.q.h, .int .i32 h.n.q.i, .int .i32 h.n.q.j, .int .i64 h.n.q.k, .slice A0 h.d.2.1 c0, .slice A1 h.a.2.1 c1, .slice A2 h.m.2.1 c2, .int .i32 h.n.ct, .int .i64 h.n.si, .int .i32 h.n.st, .slice A3 h.i.2.1 c3, .slice A4 h.s.2.1 c4] 59 (0, 0)) := hR.s.c
      have gZ := hR.s.z
      have HF := Lib.hid (fr_setRow9 wr (w.heap.size + 1) (encRs ⟨h.n, (A0, h.d.2.1, c0), (A1, h.a.2.1, c1), (A2, h.m.2.1, c2), (A3, h.i.2.1, c3), (A4, h.s.2.1, c4)⟩).toArray)
      have HTH := Lib.hid (hR.r.other kRsOk HF.out (there_fr9 hR.r.th HF.out (by have := HGS.out; simp; omega)) (by have := HGS.out; simp; omega) (fun g hg => by have := HSH.out; simp at hg; omega))
      have HR := Lib.hid hR
      clear hR HR0
      go_wp2_with (first
        | (apply wpList_loadRow 59 59; exact rfl; exact rfl; exact rfl; (first | assumption | (refine heap_under ?_; assumption) | (exact heap_s0 _ _) | (exact heap_s1 _ _ _) | (exact heap_s2 _ _ _ _) | (exact heap_s3 _ _ _ _ _) | (exact heap_under (heap_s0 _ _)) | (exact heap_under (heap_s1 _ _ _)) | (exact heap_under (heap_s2 _ _ _ _)) | (exact heap_under (heap_under (heap_s0 _ _))) | (exact heap_under (heap_under (heap_s1 _ _ _))) | (exact heap_under (heap_under (heap_under (heap_s0 _ _))))); exact undRs; exact rfl; exact infRs)
        | (apply wpList_storeRow 59 59; exact rfl; exact rfl; exact rfl; exact rfl; (first | assumption | (refine heap_under ?_; assumption) | (exact heap_s0 _ _) | (exact heap_s1 _ _ _) | (exact heap_s2 _ _ _ _) | (exact heap_s3 _ _ _ _ _) | (exact heap_under (heap_s0 _ _)) | (exact heap_under (heap_s1 _ _ _)) | (exact heap_under (heap_s2 _ _ _ _)) | (exact heap_under (heap_under (heap_s0 _ _))) | (exact heap_under (heap_under (heap_s1 _ _ _))) | (exact heap_under (heap_under (heap_under (heap_s0 _ _))))); exact infRs; exact rfl; simp [Value.oneCell'])
        | fail)
      have hTR : RsAt (wr.setRow (w.heap.size + 1) (encRs ⟨h.n, (A0, h.d.2.1, c0), (A1, h.a.2.1, c1), (A2, h.m.2.1, c2), (A3, h.i.2.1, c3), (A4, h.s.2.1, c4)⟩).toArray) (w.heap.size ≤ ·) ⟨h.n, (A0, h.d.2.1, c0), (A1, h.a.2.1, c1), (A2, h.m.2.1, c2), (A3, h.i.2.1, c3), (A4, h.s.2.1, c4)⟩ (.mk v subs) :=
        HTH.out.tree kRsOk (kRsOk.loc HR.out.l HF.out (fun b _ h => ⟨by simp; omega, by omega⟩)) HLEN.out rfl ⟨HA.out.1, HA.out.2.1⟩ (fun h0 => ⟨(HA.out.2.2 h0).1, by have := HGS.out; omega⟩) (fun b hb => by have := HSH.out; omega)
      exact bodyPost_cell rfl rfl (setRow_heap _ _ _ _ _ _ gZ) undRs rfl infRs rfl ⟨⟨_, rfl, hTR⟩, below_setRow HR.out.s.b (by omega) _⟩
end Go.Proofs.YtbpmmmnphpkdjaaGreatDoor
namespace Go.Proofs.YtbpmmmnphpkdjaaGreatDoor
open Go.RowKit Go.MapKept
def CloneRpP (t : RpT) (w : World) (e : Ending) (w' : World) : Prop := (∃ h', e = .returned (rpV h') ∧ RpAt w' (w.heap.size ≤ ·) h' t) ∧ Below w.heap.size w w'
set_option maxRecDepth 100000 in
set_option maxHeartbeats 20000000 in
theorem cloneRp_any (h : RpH) (t : RpT) (w : World) (R : Nat → Prop) (ht : RpAt w R h t) (hok : RpSm 1048576 t) : Calls Tryz.prog 110 #[rpV h] w (CloneRpP t w) := by
  have HS := Lib.hid (CnSt.start w #[.int .i32 h.xi, .int .i64 h.zx, .int .i32 h.co, .int .i32 h.r.n.ty, .int .i32 h.r.n.co, .string h.r.n.path, .int .i64 h.r.n.q.a, .int .i64 h.r.n.q.b, .int .i64 h.r.n.q.c, .int .i64 h.r.n.q.d, .int .i32 h.r.n.q.e, .int .i32 h.r.n.q.f, .int .i32 h.r.n.q.g, .int .i64 h.r.n.q.h, .int .i32 h.r.n.q.i, .int .i32 h.r.n.q.j, .int .i64 h.r.n.q.k, slV h.r.d, slV h.r.a, slV h.r.m, .int .i32 h.r.n.ct, .int .i64 h.r.n.si, .int .i32 h.r.n.st, slV h.r.i, slV h.r.s] #[.int .i32 0, .int .i64 0, .int .i32 0, .int .i32 0, .int .i32 0, .string ⟨#[]⟩, .int .i64 0, .int .i64 0, .int .i64 0, .int .i64 0, .int .i32 0, .int .i32 0, .int .i32 0, .int .i64 0, .int .i32 0, .int .i32 0, .int .i64 0, .slice none 0 0, .slice none 0 0, .slice none 0 0, .int .i32 0, .int .i64 0, .int .i32 0, .slice none 0 0, .slice none 0 0] 61)
  have HC := Lib.hid (fun (W : World) (hW : Below w.heap.size w W) => clonedR_any t.r h.r W _ (TrAt.fr kRsOk (R' := R) ht.2 (Fr.of_below (own := []) hW) (fun b _ h => ⟨by simp, h⟩)) hok.2)
  have HE := Lib.hid ht.1
  have r0 : ((w.alloc (.cells #[.int .i32 h.xi, .int .i64 h.zx, .int .i32 h.co, .int .i32 h.r.n.ty, .int .i32 h.r.n.co, .string h.r.n.path, .int .i64 h.r.n.q.a, .int .i64 h.r.n.q.b, .int .i64 h.r.n.q.c, .int .i64 h.r.n.q.d, .int .i32 h.r.n.q.e, .int .i32 h.r.n.q.f, .int .i32 h.r.n.q.g, .int .i64 h.r.n.q.h, .int .i32 h.r.n.q.i, .int .i32 h.r.n.q.j, .int .i64 h.r.n.q.k, slV h.r.d, slV h.r.a, slV h.r.m, .int .i32 h.r.n.ct, .int .i64 h.r.n.si, .int .i32 h.r.n.st, slV h.r.i, slV h.r.s] 61)).alloc (.cells #[.int .i32 0, .int .i64 0, .int .i32 0, .int .i32 0, .int .i32 0, .string ⟨#[]⟩, .int .i64 0, .int .i64 0, .int .i64 0, .int .i64 0, .int .i32 0, .int .i32 0, .int .i32 0, .int .i64 0, .int .i32 0, .int .i32 0, .int .i64 0, .slice none 0 0, .slice none 0 0, .slice none 0 0, .int .i32 0, .int .i64 0, .int .i32 0, .slice none 0 0, .slice none 0 0] 61)).rangeAt w.heap.size 3 (encRs h.r) := rangeAt_heapC (pre := [.int .i32 h.xi, .int .i64 h.zx, .int .i32 h.co]) (mid := encRs h.r) (post := []) HS.out.c rfl rfl
  clear ht hok
  go_enter Tryz.func110, Tryz.ntmps110
  go_wp2_with (first
    | (apply wpList_storeTop 61 61; exact rfl; exact rfl; exact rfl; (first | (with_reducible rfl) | (exact sz1 _ _) | (exact sz2 _ _ _) | (exact sz3 _ _ _ _)); exact rfl; exact infRp; exact rfl; simp [Value.oneCell'])
    | (apply wpList_loadMid 59; exact rfl; exact rfl; exact rfl; assumption; exact undRs; exact rfl; exact infRs)
    | fail)
  refine (HC.out _ HS.out.b).mono ?_
  generalize ((w.alloc (.cells #[.int .i32 h.xi, .int .i64 h.zx, .int .i32 h.co, .int .i32 h.r.n.ty, .int .i32 h.r.n.co, .string h.r.n.path, .int .i64 h.r.n.q.a, .int .i64 h.r.n.q.b, .int .i64 h.r.n.q.c, .int .i64 h.r.n.q.d, .int .i32 h.r.n.q.e, .int .i32 h.r.n.q.f, .int .i32 h.r.n.q.g, .int .i64 h.r.n.q.h, .int .i32 h.r.n.q.i, .int .i32 h.r.n.q.j, .int .i64 h.r.n.q.k, slV h.r.d, slV h.r.a, slV h.r.m, .int .i32 h.r.n.ct, .int .i64 h.r.n.si, .int .i32 h.r.n.st, slV h.r.i, slV h.r.s] 61)).alloc (.cells #[.int .i32 0, .int .i64 0, .int .i32 0, .int .i32 0, .int .i32 0, .string ⟨#[]⟩, .int .i64 0, .int .i64 0, .int .i64 0, .int .i64 0, .int .i32 0, .int .i32 0, .int .i32 0, .int .i64 0, .int .i32 0, .int .i32 0, .int .i64 0, .slice none 0 0, .slice none 0 0, .slice none 0 0, .int .i32 0, .int .i64 0, .int .i32 0, .slice none 0 0, .slice none 0 0] 61)) = V0 at *
  rintro e w1 ⟨⟨h6, rfl, ht6⟩, hb⟩
  have HB1 := Lib.hid hb
  have HSZ := Lib.hid HS.out.s
  replace HS := Lib.hid (HS.out.call hb)
  have hth : w1.there w.heap.size 3 22 := there_heap HS.out.c _ _ (Nat.le_refl _)
  have hF := fr_setCells w1 w.heap.size 3 (encRs h6)
  have gZ : (w1.setCells w.heap.size 3 (encRs h6)).heap[w.heap.size + 1]? = some (.cells #[.int .i32 0, .int .i64 0, .int .i32 0, .int .i32 0, .int .i32 0, .string ⟨#[]⟩, .int .i64 0, .int .i64 0, .int .i64 0, .int .i64 0, .int .i32 0, .int .i32 0, .int .i32 0, .int .i64 0, .int .i32 0, .int .i32 0, .int .i64 0, .slice none 0 0, .slice none 0 0, .slice none 0 0, .int .i32 0, .int .i64 0, .int .i32 0, .slice none 0 0, .slice none 0 0] 61 (0, 0)) := (hF.block _ (by have := HS.out.s; omega) (by simp)).trans HS.out.z
  have hp : (w1.setCells w.heap.size 3 (encRs h6)).rangeAt w.heap.size 0 [.int .i32 h.xi, .int .i64 h.zx, .int .i32 h.co] := World.rangeAt_setCells_apart (rangeAt_heapC (pre := []) (mid := [.int .i32 h.xi, .int .i64 h.zx, .int .i32 h.co]) (post := [.int .i32 h.r.n.ty, .int .i32 h.r.n.co, .string h.r.n.path, .int .i64 h.r.n.q.a, .int .i64 h.r.n.q.b, .int .i64 h.r.n.q.c, .int .i64 h.r.n.q.d, .int .i32 h.r.n.q.e, .int .i32 h.r.n.q.f, .int .i32 h.r.n.q.g, .int .i64 h.r.n.q.h, .int .i32 h.r.n.q.i, .int .i32 h.r.n.q.j, .int .i64 h.r.n.q.k, slV h.r.d, slV h.r.a, slV h.r.m, .int .i32 h.r.n.ct, .int .i64 h.r.n.si, .int .i32 h.r.n.st, slV h.r.i, slV h.r.s]) HS.out.c rfl rfl) _ _ _ (.inr (.inl (by simp)))
  have hrr : (w1.setCells w.heap.size 3 (encRs h6)).rangeAt w.heap.size 0 (encRp ⟨h.xi, h.zx, h.co, h6⟩) := rangeAt_join hp (World.rangeAt_setCells_same w1 w.heap.size 3 (encRs h6) hth) rfl
  have ht7 : RsAt (w1.setCells w.heap.size 3 (encRs h6)) (w.heap.size + 2 ≤ ·) h6 t.r := TrAt.fr kRsOk ht6 hF (fun b _ h => ⟨by have := HSZ.out; simp; omega, Nat.le_trans HSZ.out h⟩)
  have HT7 := Lib.hid ht7; have HG := Lib.hid (And.intro (hF.below HS.out.b.size (by simp)) gZ)
  have HF := Lib.hid hF
  clear ht6 hb ht7 hp hF
  go_wp2_with (first
    | (apply wpList_storeMid 59; exact rfl; exact rfl; exact rfl; exact rfl; assumption; exact infRs; simp [Value.oneCell'])
    | (apply wpList_loadMid 61; exact rfl; exact rfl; exact rfl; assumption; exact undRp; exact rfl; exact infRp)
    | (apply wpList_storeRow 61 61; exact rfl; exact rfl; exact rfl; exact rfl; (first | assumption | (refine heap_under ?_; assumption) | (exact heap_s0 _ _) | (exact heap_s1 _ _ _) | (exact heap_s2 _ _ _ _) | (exact heap_s3 _ _ _ _ _) | (exact heap_under (heap_s0 _ _)) | (exact heap_under (heap_s1 _ _ _)) | (exact heap_under (heap_s2 _ _ _ _)) | (exact heap_under (heap_under (heap_s0 _ _))) | (exact heap_under (heap_under (heap_s1 _ _ _))) | (exact heap_under (heap_under (heap_under (heap_s0 _ _))))); exact infRp; exact rfl; simp [Value.oneCell'])
    | fail)
  have hFr := fr_setRow9 (w1.setCells w.heap.size 3 (encRs h6)) (w.heap.size + 1) (encRp ⟨h.xi, h.zx, h.co, h6⟩).toArray
  exact bodyPost_cell rfl rfl (setRow_heap _ _ _ _ _ _ gZ) undRp rfl infRp rfl ⟨⟨⟨h.xi, h.zx, h.co, h6⟩, rfl, ⟨HE.out, TrAt.fr kRsOk HT7.out hFr (fun b _ h => ⟨by simp; omega, by omega⟩)⟩⟩, below_setRow (HS.out.b.trans HG.out.1) (by omega) _⟩
end Go.Proofs.YtbpmmmnphpkdjaaGreatDoor
namespace Go.Proofs.YtbpmmmnphpkdjaaGreatDoor
open Go.RowKit Go.MapKept
theorem undPr : Tryz.prog.underlying 63 = some (.struct (Tryz.prog.fieldsOf 63)) := by kernel_rfl
theorem infPr : (Tryz.prog.info? 63).map (·.size) = some 45 := by kernel_rfl
@[reducible] def prV (h : PrH) : Value := .agg #[.int .i64 h.d.se, .int .i32 h.d.xi, .int .i64 h.d.zx, .int .i64 h.d.ti, .int .i32 h.d.t.n.ty, .string h.d.t.n.path, slV h.d.t.d, slV h.d.t.a, .int .i64 h.d.t.n.ow, .int .i32 h.d.t.n.ve, .int .i32 h.d.t.n.cr, .bool h.d.t.n.qh, .int .i64 h.d.t.n.qc, .int .i64 h.d.t.n.qb, .int .i64 h.d.t.n.si, .int .i32 h.d.t.n.st, slV h.d.t.i, slV h.d.t.p, .int .i32 h.d.t.n.co, slV h.d.t.s, .int .i32 h.r.xi, .int .i64 h.r.zx, .int .i32 h.r.co, .int .i32 h.r.r.n.ty, .int .i32 h.r.r.n.co, .string h.r.r.n.path, .int .i64 h.r.r.n.q.a, .int .i64 h.r.r.n.q.b, .int .i64 h.r.r.n.q.c, .int .i64 h.r.r.n.q.d, .int .i32 h.r.r.n.q.e, .int .i32 h.r.r.n.q.f, .int .i32 h.r.r.n.q.g, .int .i64 h.r.r.n.q.h, .int .i32 h.r.r.n.q.i, .int .i32 h.r.r.n.q.j, .int .i64 h.r.r.n.q.k, slV h.r.r.d, slV h.r.r.a, slV h.r.r.m, .int .i32 h.r.r.n.ct, .int .i64 h.r.r.n.si, .int .i32 h.r.r.n.st, slV h.r.r.i, slV h.r.r.s]
def PrSm (m : Nat) (p : PrT) : Prop := DlSm m p.d ∧ RpSm m p.r
def PrOwnP (t : PrT) (w : World) (e : Ending) (w' : World) : Prop := (∃ h', e = .returned (prV h') ∧ PrAt w' (w.heap.size ≤ ·) h' t) ∧ Below w.heap.size w w'
theorem DlAt.fr {own : List Nat} {w w' : World} {R R' : Nat → Prop} {h : DlH} {t : DlT} (H : DlAt w R h t) (hf : Fr own w w') (hR : ∀ b, b < w.heap.size → R b → b ∉ own ∧ R' b) : DlAt w' R' h t := ⟨H.1, TrAt.fr kTxOk H.2 hf hR⟩
theorem RpAt.fr {own : List Nat} {w w' : World} {R R' : Nat → Prop} {h : RpH} {t : RpT} (H : RpAt w R h t) (hf : Fr own w w') (hR : ∀ b, b < w.heap.size → R b → b ∉ own ∧ R' b) : RpAt w' R' h t := ⟨H.1, TrAt.fr kRsOk H.2 hf hR⟩
theorem PrAt.fr {own : List Nat} {w w' : World} {R R' : Nat → Prop} {h : PrH} {t : PrT} (H : PrAt w R h t) (hf : Fr own w w') (hR : ∀ b, b < w.heap.size → R b → b ∉ own ∧ R' b) : PrAt w' R' h t := ⟨H.1.fr hf hR, H.2.fr hf hR⟩
set_option linter.unusedSimpArgs false in
set_option maxRecDepth 100000 in
set_option maxHeartbeats 20000000 in
theorem prOwn_any (h : PrH) (t : PrT) (w : World) (R : Nat → Prop) (ht : PrAt w R h t) (hok : PrSm 1048576 t) : Calls Tryz.prog 65 #[prV h] w (PrOwnP t w) := by
  have HS := Lib.hid (CnSt.start w #[.int .i64 h.d.se, .int .i32 h.d.xi, .int .i64 h.d.zx, .int .i64 h.d.ti, .int .i32 h.d.t.n.ty, .string h.d.t.n.path, slV h.d.t.d, slV h.d.t.a, .int .i64 h.d.t.n.ow, .int .i32 h.d.t.n.ve, .int .i32 h.d.t.n.cr, .bool h.d.t.n.qh, .int .i64 h.d.t.n.qc, .int .i64 h.d.t.n.qb, .int .i64 h.d.t.n.si, .int .i32 h.d.t.n.st, slV h.d.t.i, slV h.d.t.p, .int .i32 h.d.t.n.co, slV h.d.t.s, .int .i32 h.r.xi, .int .i64 h.r.zx, .int .i32 h.r.co, .int .i32 h.r.r.n.ty, .int .i32 h.r.r.n.co, .string h.r.r.n.path, .int .i64 h.r.r.n.q.a, .int .i64 h.r.r.n.q.b, .int .i64 h.r.r.n.q.c, .int .i64 h.r.r.n.q.d, .int .i32 h.r.r.n.q.e, .int .i32 h.r.r.n.q.f, .int .i32 h.r.r.n.q.g, .int .i64 h.r.r.n.q.h, .int .i32 h.r.r.n.q.i, .int .i32 h.r.r.n.q.j, .int .i64 h.r.r.n.q.k, slV h.r.r.d, slV h.r.r.a, slV h.r.r.m, .int .i32 h.r.r.n.ct, .int .i64 h.r.r.n.si, .int .i32 h.r.r.n.st, slV h.r.r.i, slV h.r.r.s] #[.int .i64 0, .int .i32 0, .int .i64 0, .int .i64 0, .int .i32 0, .string ⟨#[]⟩, .slice none 0 0, .slice none 0 0, .int .i64 0, .int .i32 0, .int .i32 0, .bool false, .int .i64 0, .int .i64 0, .int .i64 0, .int .i32 0, .slice none 0 0, .slice none 0 0, .int .i32 0, .slice none 0 0, .int .i32 0, .int .i64 0, .int .i32 0, .int .i32 0, .int .i32 0, .string ⟨#[]⟩, .int .i64 0, .int .i64 0, .int .i64 0, .int .i64 0, .int .i32 0, .int .i32 0, .int .i32 0, .int .i64 0, .int .i32 0, .int .i32 0, .int .i64 0, .slice none 0 0, .slice none 0 0, .slice none 0 0, .int .i32 0, .int .i64 0, .int .i32 0, .slice none 0 0, .slice none 0 0] 63)
  have HCd := Lib.hid (fun (W : World) (hW : Below w.heap.size w W) => cloneDl_any h.d t.d W _ (DlAt.fr (R' := R) ht.1 (Fr.of_below (own := []) hW) (fun b _ h => ⟨by simp, h⟩)) hok.1)
  have HCr := Lib.hid (fun (W : World) (hW : Below w.heap.size w W) => cloneRp_any h.r t.r W _ (RpAt.fr (R' := R) ht.2 (Fr.of_below (own := []) hW) (fun b _ h => ⟨by simp, h⟩)) hok.2)
  clear ht hok
  go_enter Tryz.func65, Tryz.ntmps65
  go_wp2_with (first
    | (apply wpList_storeTop 63 63; exact rfl; exact rfl; exact rfl; (first | (with_reducible rfl) | (exact sz1 _ _) | (exact sz2 _ _ _) | (exact sz3 _ _ _ _)); exact rfl; exact infPr; exact rfl; simp [Value.oneCell'])
    | fail)
  generalize ((w.alloc (.cells #[.int .i64 h.d.se, .int .i32 h.d.xi, .int .i64 h.d.zx, .int .i64 h.d.ti, .int .i32 h.d.t.n.ty, .string h.d.t.n.path, slV h.d.t.d, slV h.d.t.a, .int .i64 h.d.t.n.ow, .int .i32 h.d.t.n.ve, .int .i32 h.d.t.n.cr, .bool h.d.t.n.qh, .int .i64 h.d.t.n.qc, .int .i64 h.d.t.n.qb, .int .i64 h.d.t.n.si, .int .i32 h.d.t.n.st, slV h.d.t.i, slV h.d.t.p, .int .i32 h.d.t.n.co, slV h.d.t.s, .int .i32 h.r.xi, .int .i64 h.r.zx, .int .i32 h.r.co, .int .i32 h.r.r.n.ty, .int .i32 h.r.r.n.co, .string h.r.r.n.path, .int .i64 h.r.r.n.q.a, .int .i64 h.r.r.n.q.b, .int .i64 h.r.r.n.q.c, .int .i64 h.r.r.n.q.d, .int .i32 h.r.r.n.q.e, .int .i32 h.r.r.n.q.f, .int .i32 h.r.r.n.q.g, .int .i64 h.r.r.n.q.h, .int .i32 h.r.r.n.q.i, .int .i32 h.r.r.n.q.j, .int .i64 h.r.r.n.q.k, slV h.r.r.d, slV h.r.r.a, slV h.r.r.m, .int .i32 h.r.r.n.ct, .int .i64 h.r.r.n.si, .int .i32 h.r.r.n.st, slV h.r.r.i, slV h.r.r.s] 63)).alloc (.cells #[.int .i64 0, .int .i32 0, .int .i64 0, .int .i64 0, .int .i32 0, .string ⟨#[]⟩, .slice none 0 0, .slice none 0 0, .int .i64 0, .int .i32 0, .int .i32 0, .bool false, .int .i64 0, .int .i64 0, .int .i64 0, .int .i32 0, .slice none 0 0, .slice none 0 0, .int .i32 0, .slice none 0 0, .int .i32 0, .int .i64 0, .int .i32 0, .int .i32 0, .int .i32 0, .string ⟨#[]⟩, .int .i64 0, .int .i64 0, .int .i64 0, .int .i64 0, .int .i32 0, .int .i32 0, .int .i32 0, .int .i64 0, .int .i32 0, .int .i32 0, .int .i64 0, .slice none 0 0, .slice none 0 0, .slice none 0 0, .int .i32 0, .int .i64 0, .int .i32 0, .slice none 0 0, .slice none 0 0] 63)) = V at *
  replace HS := Lib.hid (HS.out.call (drew_self V))
  have HSO := Lib.hid (fun (W : World) (hW : Below V.drew.heap.size V.drew W) => (show W.rangeAt w.heap.size 0 (encDl h.d) ∧ W.rangeAt w.heap.size 20 (encRp h.r) from ⟨rangeAt_heapC (pre := []) (mid := encDl h.d) (post := encRp h.r) (HS.out.call hW).c rfl rfl, rangeAt_heapC (pre := encDl h.d) (mid := encRp h.r) (post := []) (HS.out.call hW).c rfl rfl⟩))
  refine wp_region_M (S := fun w' => w'.rangeAt w.heap.size 0 (encDl h.d) ∧ w'.rangeAt w.heap.size 20 (encRp h.r)) 7 (by kernel_rfl) (HSO.out _ (Below.refl _ _)) (fun hHeld => ?_)
  generalize V.drew = V0 at *
  refine wpAnyM_take (i := 0) (v := .pointer (some ⟨w.heap.size, 0, none⟩)) rfl (by kernel_rfl) (fun _ _ _ h => h) (Or.inl ⟨by rfl, by intro w hSw; clear hSw; go_simp⟩) (by assumption) ?_
  (try simp only [Act.put, List.setIfInBounds_toArray, List.set_cons_zero, List.set_cons_succ])
  refine wpAnyM_take (i := 1) (v := .agg (encDl h.d).toArray) rfl (by kernel_rfl) (fun _ _ _ h => h) (yieldsIf_load_mid (by rfl) 54 _ rfl w.heap.size 0 rfl (encDl h.d) _ (fun _ h => h.1) undDl rfl infDl) (by assumption) ?_
  (try simp only [Act.put, List.setIfInBounds_toArray, List.set_cons_zero, List.set_cons_succ])
  refine wpAnyM_take (i := 3) (v := .pointer (some ⟨w.heap.size, 20, none⟩)) rfl (by kernel_rfl) (fun _ _ _ h => h) (Or.inl ⟨by rfl, by intro w hSw; clear hSw; go_simp⟩) (by assumption) ?_
  (try simp only [Act.put, List.setIfInBounds_toArray, List.set_cons_zero, List.set_cons_succ])
  refine wpAnyM_take (i := 4) (v := .agg (encRp h.r).toArray) rfl (by kernel_rfl) (fun _ _ _ h => h) (yieldsIf_load_mid (by rfl) 61 _ rfl w.heap.size 20 rfl (encRp h.r) _ (fun _ h => h.2) undRp rfl infRp) (by assumption) ?_
  (try simp only [Act.put, List.setIfInBounds_toArray, List.set_cons_zero, List.set_cons_succ])
  refine wpAnyM_one (i := 2) rfl (by kernel_rfl) (fun K hK => ?_)
  go_simp
  refine (HCd.out _ HS.out.b).mono ?_
  rintro e w1 ⟨⟨hd, rfl, hat⟩, hb⟩
  dsimp only
  have HD := Lib.hid (And.intro HS.out.s hat)
  replace HSO := Lib.hid (fun (W : World) (hW : Below w1.heap.size w1 W) => HSO.out W (hb.trans (hW.mono hb.size)))
  replace HS := Lib.hid (HS.out.call hb)
  replace hHeld := HSO.out _ (Below.refl _ _)
  refine hK.out _ _ hHeld ?_
  clear hK K hat hb
  (try simp only [Act.put, List.setIfInBounds_toArray, List.set_cons_zero, List.set_cons_succ])
  refine wpAnyM_one (i := 5) rfl (by kernel_rfl) (fun K hK => ?_)
  go_simp
  refine (HCr.out _ HS.out.b).mono ?_
  rintro e w2 ⟨⟨hr, rfl, hat⟩, hb⟩
  dsimp only
  have HRR := Lib.hid (And.intro HS.out.s hat)
  have HB2 := Lib.hid hb
  replace HSO := Lib.hid (fun (W : World) (hW : Below w2.heap.size w2 W) => HSO.out W (hb.trans (hW.mono hb.size)))
  replace HS := Lib.hid (HS.out.call hb)
  refine hK.out _ _ (HSO.out _ (Below.refl _ _)) ?_
  clear hK K hat hb hHeld
  (try simp only [Act.put, List.setIfInBounds_toArray, List.set_cons_zero, List.set_cons_succ])
  refine wpAnyM_one (i := 6) rfl (by kernel_rfl) (fun K hK => ?_)
  go_simp
  refine hK.out _ _ (HSO.out _ (Below.refl _ _)) ?_
  clear hK K
  (try simp only [Act.put, List.setIfInBounds_toArray, List.set_cons_zero, List.set_cons_succ])
  refine wpAnyM_tail (n := 7) (by kernel_rfl) ?_
  simp only [List.drop_succ_cons, List.drop_zero]
  have gZ := HS.out.z
  go_wp2_with (first
    | (apply wpList_storeRow 63 63; exact rfl; exact rfl; exact rfl; exact rfl; (first | assumption | (refine heap_under ?_; assumption) | (exact heap_s0 _ _) | (exact heap_s1 _ _ _) | (exact heap_s2 _ _ _ _) | (exact heap_s3 _ _ _ _ _) | (exact heap_under (heap_s0 _ _)) | (exact heap_under (heap_s1 _ _ _)) | (exact heap_under (heap_s2 _ _ _ _)) | (exact heap_under (heap_under (heap_s0 _ _))) | (exact heap_under (heap_under (heap_s1 _ _ _))) | (exact heap_under (heap_under (heap_under (heap_s0 _ _))))); exact infPr; exact rfl; simp [Value.oneCell'])
    | fail)
  have hFr := fr_setRow9 w2 (w.heap.size + 1) (encPr ⟨hd, hr⟩).toArray
  exact bodyPost_cell rfl rfl (setRow_heap _ _ _ _ _ _ gZ) undPr rfl infPr rfl ⟨⟨⟨hd, hr⟩, rfl, ⟨(HD.out.2.fr (R' := (w.heap.size + 2 ≤ ·)) (Fr.of_below (own := []) HB2.out) (fun b _ h => ⟨by simp, Nat.le_trans HD.out.1 h⟩)).fr hFr (fun b _ h => ⟨by simp; omega, by omega⟩), HRR.out.2.fr hFr (fun b _ h => ⟨by have := HRR.out.1; simp; omega, by have := HRR.out.1; omega⟩)⟩⟩, below_setRow HS.out.b (by omega) _⟩
end Go.Proofs.YtbpmmmnphpkdjaaGreatDoor
