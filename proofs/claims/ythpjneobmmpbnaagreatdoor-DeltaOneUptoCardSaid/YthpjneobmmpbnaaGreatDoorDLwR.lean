/- What the document's Touched makes of a list of paths, and that it is what the program's makes (plain). -/
import Derived.Test.YthpjneobmmpbnaaGreatDoorDDlE
import Derived.Test.YthpjneobmmpbnaaGreatDoorDDltG
import Derived.Test.YthpjneobmmpbnaaGreatDoorDRfK
import Derived.Test.YthpjneobmmpbnaaGreatDoorDDlB
import Derived.Lib.QuietBelow
namespace Go.Proofs.YthpjneobmmpbnaaGreatDoor
open Go.RowKit
/-! ### the order of texts -/
theorem cmp_lt : ∀ a b : List UInt8, Lib.compareBytes a b < 0 ↔ a < b
  | [], [] => by simp [Lib.compareBytes]
  | [], _ :: _ => by simp [Lib.compareBytes]
  | _ :: _, [] => by simp [Lib.compareBytes]
  | x :: a, y :: b => by
    unfold Lib.compareBytes
    rw [List.cons_lt_cons_iff]
    by_cases h1 : x < y
    · simp [h1]
    · by_cases h2 : y < x
      · rw [if_neg h1, if_pos h2]
        have : x ≠ y := fun e => by subst e; exact h1 h2
        simp [h1, this]
      · have : x = y := UInt8.le_antisymm (UInt8.not_lt.1 h2) (UInt8.not_lt.1 h1)
        rw [if_neg h1, if_neg h2, cmp_lt a b]
        simp [this]
theorem cmp_swap : ∀ a b : List UInt8, Lib.compareBytes a b = - Lib.compareBytes b a
  | [], [] => rfl
  | [], _ :: _ => rfl
  | _ :: _, [] => rfl
  | x :: a, y :: b => by
    unfold Lib.compareBytes
    by_cases h1 : x < y
    · rw [if_pos h1, if_neg (UInt8.lt_asymm h1), if_pos h1]
    · by_cases h2 : y < x
      · rw [if_neg h1, if_pos h2, if_pos h2]; rfl
      · rw [if_neg h1, if_neg h2, if_neg h2, if_neg h1, cmp_swap a b]
theorem cmp_zero (a b : List UInt8) (h : Lib.compareBytes a b = 0) : a = b := by
  have h1 : ¬ a < b := fun h1 => by have := (cmp_lt a b).2 h1; omega
  have h2 : ¬ b < a := fun h1 => by have := (cmp_lt b a).2 h1; have := cmp_swap a b; omega
  exact List.le_antisymm (List.not_lt.1 h2) (List.not_lt.1 h1)
theorem cmpBs_gt (a b : ByteArray) : 0 < cmpB a b ↔ b.data.toList < a.data.toList := by
  rw [← cmp_lt]
  have := cmp_swap a.data.toList b.data.toList
  unfold cmpB; omega
theorem bs_ext {a b : ByteArray} (h : a.data.toList = b.data.toList) : a = b := by
  cases a; cases b
  simp only [ByteArray.mk.injEq]
  exact Array.toList_inj.1 h
/-! ### the document's put -/
def putR : List ByteArray → ByteArray → List ByteArray
  | [], p => [p]
  | x :: l, p => if x = p then x :: l else if 0 < cmpB x p then p :: x :: l else x :: putR l p
abbrev ltB (a b : ByteArray) : Prop := a.data.toList < b.data.toList
theorem mem_putR : ∀ (l : List ByteArray) (p x : ByteArray), x ∈ putR l p ↔ x ∈ l ∨ x = p
  | [], p, x => by simp [putR]
  | y :: l, p, x => by
    unfold putR
    split
    · rename_i h; subst h; simp; intro h; exact .inl h
    · split
      · simp; constructor
        · rintro (h | h | h) <;> simp [h]
        · rintro ((h | h) | h) <;> simp [h]
      · simp [mem_putR l p x, or_assoc]
theorem putR_up : ∀ (l : List ByteArray) (p : ByteArray), l.Pairwise ltB → (putR l p).Pairwise ltB
  | [], p, _ => by simp [putR]
  | y :: l, p, h => by
    have hy : ∀ {z}, z ∈ l → ltB y z := fun hz => List.rel_of_pairwise_cons h hz
    have hl := h.of_cons
    unfold putR
    split
    · exact h
    · rename_i hne
      split
      · rename_i hgt
        have hgt := (cmpBs_gt y p).1 hgt
        refine List.pairwise_cons.2 ⟨fun z hz => ?_, h⟩
        rcases List.mem_cons.1 hz with rfl | hz
        · exact hgt
        · exact List.lt_trans hgt (hy hz)
      · rename_i hgt
        refine List.pairwise_cons.2 ⟨fun z hz => ?_, putR_up l p hl⟩
        rcases (mem_putR l p z).1 hz with hz | rfl
        · exact hy hz
        · refine (cmp_lt _ _).1 ?_
          have h0 : cmpB y z ≠ 0 := fun h0 => hne (bs_ext (cmp_zero _ _ h0))
          show cmpB y z < 0
          omega
theorem putR_le : ∀ (l : List ByteArray) (p : ByteArray), (putR l p).length ≤ l.length + 1
  | [], p => by simp [putR]
  | y :: l, p => by
    unfold putR
    split
    · simp
    · split
      · simp
      · have := putR_le l p; simp; omega
/-- what the document's Touched makes of a list of paths -/
def touchR (l : List ByteArray) : List ByteArray := l.foldl putR []
theorem touchR_snoc (l : List ByteArray) (p : ByteArray) : touchR (l ++ [p]) = putR (touchR l) p := by unfold touchR; rw [List.foldl_append]; rfl
theorem fold_up : ∀ (l acc : List ByteArray), acc.Pairwise ltB → (l.foldl putR acc).Pairwise ltB
  | [], _, h => h
  | p :: l, acc, h => fold_up l _ (putR_up acc p h)
theorem touchR_up (l : List ByteArray) : (touchR l).Pairwise ltB := fold_up l [] List.Pairwise.nil
theorem fold_mem : ∀ (l acc : List ByteArray) (x : ByteArray), x ∈ l.foldl putR acc ↔ x ∈ acc ∨ x ∈ l
  | [], acc, x => by simp
  | p :: l, acc, x => by rw [List.foldl_cons, fold_mem l _ x, mem_putR, List.mem_cons, or_assoc]
theorem mem_touchR (l : List ByteArray) (x : ByteArray) : x ∈ touchR l ↔ x ∈ l := by unfold touchR; rw [fold_mem]; simp
theorem fold_len : ∀ (l acc : List ByteArray), (l.foldl putR acc).length ≤ acc.length + l.length
  | [], acc => Nat.le_refl _
  | p :: l, acc => by have := fold_len l (putR acc p); have := putR_le acc p; simp only [List.foldl_cons, List.length_cons]; omega
theorem touchR_le (l : List ByteArray) : (touchR l).length ≤ l.length := by have := fold_len l []; simpa [touchR] using this
/-- a rising list is told by what is in it -/
theorem up_ext : ∀ (l m : List ByteArray), l.Pairwise ltB → m.Pairwise ltB → (∀ x, x ∈ l ↔ x ∈ m) → l = m
  | [], [], _, _, _ => rfl
  | [], y :: m, _, _, h => absurd ((h y).2 (List.mem_cons_self ..)) (by simp)
  | x :: l, [], _, _, h => absurd ((h x).1 (List.mem_cons_self ..)) (by simp)
  | x :: l, y :: m, h1, h2, h => by
    have hx := fun {z} hz => List.rel_of_pairwise_cons (a' := z) h1 hz
    have hy := fun {z} hz => List.rel_of_pairwise_cons (a' := z) h2 hz
    have e : x = y := by
      rcases List.mem_cons.1 ((h x).1 (List.mem_cons_self ..)) with e | e
      · exact e
      rcases List.mem_cons.1 ((h y).2 (List.mem_cons_self ..)) with e2 | e2
      · exact e2.symm
      · exact absurd (hx e2) (List.lt_asymm (hy e))
    subst e
    rw [up_ext l m h1.of_cons h2.of_cons fun z => ?_]
    constructor
    · intro hz
      rcases List.mem_cons.1 ((h z).1 (List.mem_cons_of_mem _ hz)) with e | e
      · subst e; exact absurd (hx hz) (List.lt_irrefl _)
      · exact e
    · intro hz
      rcases List.mem_cons.1 ((h z).2 (List.mem_cons_of_mem _ hz)) with e | e
      · subst e; exact absurd (hy hz) (List.lt_irrefl _)
      · exact e
theorem addK_mem (acc : List ByteArray) (p x : ByteArray) : x ∈ addK acc p ↔ x ∈ acc ∨ x = p := by
  unfold addK
  split
  · rename_i h
    have := (any_mem acc p).1 h
    exact ⟨fun h => .inl h, fun h => h.elim id (fun e => e ▸ this)⟩
  · rw [List.mem_append, List.mem_singleton]
theorem addK_nodup {acc : List ByteArray} (h : acc.Nodup) (p : ByteArray) : (addK acc p).Nodup := by
  unfold addK
  split
  · exact h
  · rename_i hn
    have hn : p ∉ acc := fun hx => hn ((any_mem acc p).2 hx)
    rw [List.nodup_append]
    exact ⟨h, by simp, fun a ha b hb e => hn (by rw [List.mem_singleton] at hb; subst hb; subst e; exact ha)⟩
theorem keys_mem_go : ∀ (l acc : List ByteArray) (x : ByteArray), x ∈ l.foldl addK acc ↔ x ∈ acc ∨ x ∈ l
  | [], acc, x => by simp
  | p :: l, acc, x => by rw [List.foldl_cons, keys_mem_go l _ x, addK_mem, List.mem_cons, or_assoc]
theorem keys_nodup_go : ∀ (l acc : List ByteArray), acc.Nodup → (l.foldl addK acc).Nodup
  | [], _, h => h
  | p :: l, _, h => keys_nodup_go l _ (addK_nodup h p)
theorem mem_keysOf (l : List ByteArray) (x : ByteArray) : x ∈ keysOf l ↔ x ∈ l := by unfold keysOf; rw [keys_mem_go]; simp
theorem keysOf_nodup (l : List ByteArray) : (keysOf l).Nodup := keys_nodup_go l [] List.nodup_nil
theorem sortS_up {l : List ByteArray} (h : l.Nodup) : (sortS l).Pairwise ltB := by
  have h1 : (sortS l).Pairwise (fun x y => leS x y = true) := List.pairwise_mergeSort (fun a b c h1 h2 => by
      simp only [decide_eq_true_eq] at *; exact List.le_trans h1 h2) (fun a b => by
      simp only [Bool.or_eq_true, decide_eq_true_eq]; exact List.le_total _ _) l
  have h2 : (sortS l).Nodup := (sortS_perm l).nodup_iff.2 h
  refine (h1.and h2).imp fun {a b} ⟨h3, h4⟩ => ?_
  have h3 := of_decide_eq_true h3
  exact Classical.byContradiction fun hn => h4 (bs_ext (List.le_antisymm h3 (List.not_lt.1 hn)))
theorem touch_eq (d : DlT) : touchD d = touchR (tKeys (stepsD d)) := by
  unfold touchD
  refine up_ext _ _ (sortS_up (keysOf_nodup _)) (touchR_up _) fun x => ?_
  rw [(sortS_perm _).mem_iff, mem_keysOf, mem_touchR]
end Go.Proofs.YthpjneobmmpbnaaGreatDoor
namespace Go.Proofs.YthpjneobmmpbnaaGreatDoor
open Go.RowKit Go.MapKept Go.Maps
def exH : DlH := ⟨1, 2, 3, 4, ⟨⟨2, ⟨#[47, 97]⟩, 0, 0, 0, false, 0, 0, 0, 0, 0⟩, (none, 0, 0), (none, 0, 0), (none, 0, 0), (none, 0, 0), (none, 0, 0)⟩⟩
theorem ex_at (w : World) (R : Nat → Prop) : DlAt w R exH exD :=
  ⟨⟨rfl, rfl, rfl, rfl⟩, TrAt.of_subs (L := []) ⟨rfl, SlR.nil_, SlR.nil_, SlR.nil_, SlR.nil_⟩ rfl SlR.nil_ (fun j hj => absurd hj (by show ¬ j < 0; omega))⟩
theorem ex_sm : DlSm 1048576 exD := by
  refine ⟨⟨⟨by decide, by decide⟩, ⟨by decide, by decide⟩, ⟨by decide, by decide⟩, ⟨by decide, by decide⟩⟩, TrAll.mk _ _ ⟨⟨⟨by decide, by decide⟩, ⟨by decide, by decide⟩, ⟨by decide, by decide⟩, ⟨by decide, by decide⟩, ⟨by decide, by decide⟩, ⟨by decide, by decide⟩, ⟨by decide, by decide⟩, ⟨by decide, by decide⟩, ⟨by decide, by decide⟩⟩, by decide, by decide, by decide, by decide, by decide, by decide, fun j hj => absurd hj (by simp), fun j hj => absurd hj (by simp), fun j hj => absurd hj (by simp)⟩ fun j hj => absurd hj (by simp)⟩
theorem ex_head : headP (encB exD) = .ok ((1, 2, 3, 4, 2), 32) := by kernel_rfl
theorem ex_gets : GetsAll (encB exD) := fun z p h _ => by
  rw [ex_head] at h
  obtain ⟨rfl, rfl⟩ := okInj h
  exact gets_leaf (by decide) fun w rb n c A hr hT => get2_any hr hT
theorem ex_dec : decD (encB exD) = (exD, 0, 0) := by
  rw [decD_all]
  unfold allP
  rw [ex_read]
  dsimp only
  rw [ex_len, if_neg (by decide)]
  show (if _ then _ else _) = _
  rw [if_neg (by rw [ex_right]; simp)]
theorem ex_steps : stepsD exD = [exT] := by
  rw [stepsD_ok ex_right]; rfl
theorem ex_touch : (touchD exD).length = 2 := by
  rw [touch_eq, ex_steps]; kernel_rfl
theorem Row8.argC {w : World} {b n c : Nat} {A : Option Addr} {l : Bs} (h : Row8 w b A n c l) (hl : l.length = n) (hn : n ≤ 1099511627776) : ArgC w A n c l := by
  refine ⟨Row8.sl h hl, fun e => ?_, hn, ?_⟩
  · subst e
    exact Row8.nil_cap h
  · rcases own_at h with ⟨_, h1, h2⟩ | ⟨g, cur, _, _, _, h2, _⟩
    · omega
    · exact h2
theorem wpList_loadRowW {ops : Array Oper} {rest : List Oper} {o : Oper} {a : Act} {Q : Exit → Act → World → Prop} {w : World} (ty t : TypeId) {x : Operand} {g : Nat} {cs : Array Value} {d : TypeDesc} (hw : Region.wanted o (yielded ops a.tmps) = true) (ho : o.op = .load ty x) (hx : a.eval x = .pointer (some ⟨g, 0, none⟩)) (hg : w.heap[g]? = some (.cells cs t (0, 0)))
    (hu : Tryz.prog.underlying ty = some d) (hd : d.isRow = true) (hi : (Tryz.prog.info? ty).map (·.size) = some cs.size) (h : wpList Tryz.prog ops Q rest (a.put o.dst (.agg cs)) w) : wpList Tryz.prog ops Q (o :: rest) a w :=
  wpList_step fun K hK => by
    rw [if_pos hw]
    exact wp_loadRow ty t ho hx hg hu hd hi (hK _ _ h)
def AliveP (w : World) (e : Ending) (w' : World) : Prop := e = .returned (.bool true) ∧ Below w.heap.size w w'
set_option linter.unusedSimpArgs false in
set_option maxRecDepth 100000 in
set_option maxHeartbeats 8000000 in
theorem alive13_any (w : World) (hE : Env w) : Calls Tryz.prog 13 #[] w (AliveP w) := by
  have hb1 : Below w.heap.size w (w.alloc (.cells #[.int .i64 1, .int .i32 2, .int .i64 3, .int .i64 4, .int .i32 2, .string ⟨#[47, 97]⟩, .slice none 0 0, .slice none 0 0, .int .i64 0, .int .i32 0, .int .i32 0, .bool false, .int .i64 0, .int .i64 0, .int .i64 0, .int .i32 0, .slice none 0 0, .slice none 0 0, .int .i32 0, .slice none 0 0] 35)) := (Below.refl _ w).alloc (Nat.le_refl _) _
  have HB1 := Lib.hid hb1
  have HE := Lib.hid hE
  have g0 := heap_s0 w (.cells #[.int .i64 1, .int .i32 2, .int .i64 3, .int .i64 4, .int .i32 2, .string ⟨#[47, 97]⟩, .slice none 0 0, .slice none 0 0, .int .i64 0, .int .i32 0, .int .i32 0, .bool false, .int .i64 0, .int .i64 0, .int .i64 0, .int .i32 0, .slice none 0 0, .slice none 0 0, .int .i32 0, .slice none 0 0] 35)
  have HEN := Lib.hid (encode_any exH exD (w.alloc (.cells #[.int .i64 1, .int .i32 2, .int .i64 3, .int .i64 4, .int .i32 2, .string ⟨#[47, 97]⟩, .slice none 0 0, .slice none 0 0, .int .i64 0, .int .i32 0, .int .i32 0, .bool false, .int .i64 0, .int .i64 0, .int .i64 0, .int .i32 0, .slice none 0 0, .slice none 0 0, .int .i32 0, .slice none 0 0] 35)) (fun _ => True) (ex_at _ _) (hE.below (Nat.le_refl _) hb1) ex_sm)
  have HZ := Lib.hid (sz1 w (.cells #[.int .i64 1, .int .i32 2, .int .i64 3, .int .i64 4, .int .i32 2, .string ⟨#[47, 97]⟩, .slice none 0 0, .slice none 0 0, .int .i64 0, .int .i32 0, .int .i32 0, .bool false, .int .i64 0, .int .i64 0, .int .i64 0, .int .i32 0, .slice none 0 0, .slice none 0 0, .int .i32 0, .slice none 0 0] 35))
  clear hb1 hE
  go_enter Tryz.func13, Tryz.ntmps13
  go_upto_region 2 with (first | (apply wpList_storeTop 35 35; exact rfl; exact rfl; exact rfl; (first | (with_reducible rfl) | (exact sz1 _ _) | (exact sz2 _ _ _)); exact rfl; exact infDl; exact rfl; (first | exact oneDl _ | simp [Value.oneCell'])) | fail)
  change Code.wp _ _ _ _ (w.alloc (.cells #[.int .i64 1, .int .i32 2, .int .i64 3, .int .i64 4, .int .i32 2, .string ⟨#[47, 97]⟩, .slice none 0 0, .slice none 0 0, .int .i64 0, .int .i32 0, .int .i32 0, .bool false, .int .i64 0, .int .i64 0, .int .i64 0, .int .i32 0, .slice none 0 0, .slice none 0 0, .int .i32 0, .slice none 0 0] 35))
  generalize w.alloc (.cells #[.int .i64 1, .int .i32 2, .int .i64 3, .int .i64 4, .int .i32 2, .string ⟨#[47, 97]⟩, .slice none 0 0, .slice none 0 0, .int .i64 0, .int .i32 0, .int .i32 0, .bool false, .int .i64 0, .int .i64 0, .int .i64 0, .int .i32 0, .slice none 0 0, .slice none 0 0, .int .i32 0, .slice none 0 0] 35) = W at *
  go_wp2_with (first | (apply wpList_loadRow 35 35; exact rfl; exact rfl; exact rfl; assumption; exact undDl; exact rfl; exact infDl) | fail)
  refine HEN.out.mono ?_
  rintro e w1 ⟨hb2, hm⟩
  rcases hm with ⟨hne, -⟩ | ⟨-, A, c, rfl, hrow⟩
  · exact absurd ex_right hne
  have HB2 := Lib.hid (HB1.out.trans (hb2.mono HB1.out.size))
  have g1 := (hb2.block w.heap.size (by have := HZ.out; omega)).trans g0
  have HDE := Lib.hid (decode_of (hrow.argC rfl (by rw [ex_len]; decide)) (HE.out.below (Nat.le_refl _) HB2.out) ex_gets (fun d p h => by rw [ex_read] at h; obtain ⟨rfl, -⟩ := okInj h; exact ex_sm))
  rw [ex_len] at HDE
  rw [ex_len]
  have HZ2 := Lib.hid (show w.heap.size + 1 ≤ w1.heap.size by have := HZ.out; have := hb2.size; omega)
  clear hb2 hrow g0 HEN
  go_wp2_with fail
  refine HDE.out.mono ?_
  rintro e w2 ⟨hb3, h3, rfl, hd⟩
  rw [ex_dec] at hd
  rw [ex_dec]
  have HZX := Lib.hid (show h3.zx = 3 from hd.1.2.2.1.symm)
  have HPA := Lib.hid (show h3.t.n.path = ⟨#[47, 97]⟩ by have := hd.2.loc.1; rw [← this]; rfl)
  have hb4 : Below w2.heap.size w2 (w2.alloc (.cells #[.int .i64 h3.se, .int .i32 h3.xi, .int .i64 h3.zx, .int .i64 h3.ti, .int .i32 h3.t.n.ty, .string h3.t.n.path, slV h3.t.d, slV h3.t.a, .int .i64 h3.t.n.ow, .int .i32 h3.t.n.ve, .int .i32 h3.t.n.cr, .bool h3.t.n.qh, .int .i64 h3.t.n.qc, .int .i64 h3.t.n.qb, .int .i64 h3.t.n.si, .int .i32 h3.t.n.st, slV h3.t.i, slV h3.t.p, .int .i32 h3.t.n.co, slV h3.t.s] 35)) := (Below.refl _ w2).alloc (Nat.le_refl _) _
  have HB3 := Lib.hid (HB2.out.trans (hb3.mono HB2.out.size))
  have HB4 := Lib.hid (HB3.out.trans (hb4.mono HB3.out.size))
  have g4 := (hb4.block _ (by have := HZ2.out; have := hb3.size; omega)).trans ((hb3.block _ (Array.getElem?_eq_some_iff.1 g1).1).trans g1)
  have g5 := heap_s0 w2 (.cells #[.int .i64 h3.se, .int .i32 h3.xi, .int .i64 h3.zx, .int .i64 h3.ti, .int .i32 h3.t.n.ty, .string h3.t.n.path, slV h3.t.d, slV h3.t.a, .int .i64 h3.t.n.ow, .int .i32 h3.t.n.ve, .int .i32 h3.t.n.cr, .bool h3.t.n.qh, .int .i64 h3.t.n.qc, .int .i64 h3.t.n.qb, .int .i64 h3.t.n.si, .int .i32 h3.t.n.st, slV h3.t.i, slV h3.t.p, .int .i32 h3.t.n.co, slV h3.t.s] 35)
  clear hb3 hb4 hd g1
  dsimp only
  go_upto_region 4 with (first | (apply wpList_storeTop 35 35; exact rfl; exact rfl; exact rfl; (first | (with_reducible rfl) | (exact sz1 _ _) | (exact sz2 _ _ _)); exact rfl; exact infDl; exact rfl; (first | exact oneDl _ | simp [Value.oneCell'])) | fail)
  change Code.wp _ _ _ _ (w2.alloc (.cells #[.int .i64 h3.se, .int .i32 h3.xi, .int .i64 h3.zx, .int .i64 h3.ti, .int .i32 h3.t.n.ty, .string h3.t.n.path, slV h3.t.d, slV h3.t.a, .int .i64 h3.t.n.ow, .int .i32 h3.t.n.ve, .int .i32 h3.t.n.cr, .bool h3.t.n.qh, .int .i64 h3.t.n.qc, .int .i64 h3.t.n.qb, .int .i64 h3.t.n.si, .int .i32 h3.t.n.st, slV h3.t.i, slV h3.t.p, .int .i32 h3.t.n.co, slV h3.t.s] 35))
  generalize w2.alloc (.cells #[.int .i64 h3.se, .int .i32 h3.xi, .int .i64 h3.zx, .int .i64 h3.ti, .int .i32 h3.t.n.ty, .string h3.t.n.path, slV h3.t.d, slV h3.t.a, .int .i64 h3.t.n.ow, .int .i32 h3.t.n.ve, .int .i32 h3.t.n.cr, .bool h3.t.n.qh, .int .i64 h3.t.n.qc, .int .i64 h3.t.n.qb, .int .i64 h3.t.n.si, .int .i32 h3.t.n.st, slV h3.t.i, slV h3.t.p, .int .i32 h3.t.n.co, slV h3.t.s] 35) = W4 at *
  have x2 : W4.cell? ⟨w2.heap.size, 2, none⟩ = some (.int .i64 3) := by rw [cellH g5, ← HZX.out]; rfl
  have x5 : W4.cell? ⟨w2.heap.size, 4 + 1, none⟩ = some (.string ⟨#[47, 97]⟩) := by rw [cellH g5, ← HPA.out]; rfl
  have HST := Lib.hid (steps_any exH exD W4 (fun _ => True) (ex_at _ _) (HE.out.below (Nat.le_refl _) HB4.out) ex_sm)
  clear HZX HPA g5
  go_wp2_with (first | (apply wpList_loadRowW 35 35; exact rfl; exact rfl; exact rfl; assumption; exact undDl; exact rfl; exact infDl) | fail)
  refine HST.out.mono ?_
  rintro e w5 ⟨⟨A5, c5, rfl, -⟩, hb5⟩
  rw [show (stepsD exD).length = 1 by rw [ex_steps]; rfl]
  have HB5 := Lib.hid (HB4.out.trans (hb5.mono HB4.out.size))
  have g9 := (hb5.block _ (Array.getElem?_eq_some_iff.1 g4).1).trans g4
  have HTO := Lib.hid (touched_any exH exD w5 (fun _ => True) (ex_at _ _) (HE.out.below (Nat.le_refl _) HB5.out) ex_sm)
  clear hb5 g4 x2 x5
  go_wp2_with (first | (apply wpList_loadRowW 35 35; exact rfl; exact rfl; exact rfl; assumption; exact undDl; exact rfl; exact infDl) | fail)
  refine HTO.out.mono ?_
  rintro e w6 ⟨A6, c6, rfl, -, hb6⟩
  rw [ex_touch]
  have HB6 := Lib.hid (HB5.out.trans (hb6.mono HB5.out.size))
  clear hb6 g9
  go_wp2_with fail
  go_ret
  exact ⟨rfl, HB6.out⟩
end Go.Proofs.YthpjneobmmpbnaaGreatDoor
namespace Go.Proofs.YthpjneobmmpbnaaGreatDoor
open Go.RowKit Go.MapKept Go.Maps
theorem wpQuiet_load {P : Program} {ops : Array Oper} {C : World → Prop} {Q : Act → Prop} {a : Act} {o : Oper} {rest : List Oper} (ty : TypeId) {x : Operand} {g off : Nat} {cs : List Value} {d : TypeDesc} (hC : ∀ w, C w → w.rangeAt g off cs) (hw : Region.wanted o (yielded ops a.tmps) = true) (ho : o.op = .load ty x) (hx : a.eval x = .pointer (some ⟨g, off, none⟩))
    (hu : P.underlying ty = some d) (hd : d.isRow = true) (hi : (P.info? ty).map (·.size) = some cs.length) (h : wpQuiet P ops C Q rest (a.put o.dst (.agg cs.toArray))) : wpQuiet P ops C Q (o :: rest) a :=
  wpQuiet_step fun K hK => by
    rw [if_pos hw]
    refine ⟨_, fun w hc => ?_, hK _ h⟩
    unfold Oper.quietAt execOp
    simp only [ho, hx, Instr.loadAt, Instr.sureAddr, Sem.run_bind, Sem.run_pure, Result.andThen_ok, run_loadVar_mid w g off ty cs d (hC w hc) hu hd hi]
    exact ⟨rfl, rfl⟩
theorem row_grown {V : World} {g : Nat} {cs : List Value} (h : V.rangeAt g 0 cs) : ∀ w', (∃ p : Regrown, w' = Go.Sort.grow (redrawn V p.d) p.os) → w'.rangeAt g 0 cs := fun w' ⟨p, e⟩ i u hu => by
  rw [e]
  exact cell_regrown (h i u hu) p.d p.os
set_option linter.unusedSimpArgs false in
set_option maxRecDepth 100000 in
set_option maxHeartbeats 8000000 in
theorem deltaRights_any (h : DlH) (d : DlT) (w : World) (R : Nat → Prop) (hd : DlAt w R h d) (hE : Env w) (hsm : DlSm 1048576 d) : Calls Tryz.prog 4 #[dlV h] w (RetB w true) := by
  have hb1 : Below w.heap.size w (w.alloc (.cells #[.int .i64 h.se, .int .i32 h.xi, .int .i64 h.zx, .int .i64 h.ti, .int .i32 h.t.n.ty, .string h.t.n.path, slV h.t.d, slV h.t.a, .int .i64 h.t.n.ow, .int .i32 h.t.n.ve, .int .i32 h.t.n.cr, .bool h.t.n.qh, .int .i64 h.t.n.qc, .int .i64 h.t.n.qb, .int .i64 h.t.n.si, .int .i32 h.t.n.st, slV h.t.i, slV h.t.p, .int .i32 h.t.n.co, slV h.t.s] 35)) := (Below.refl _ w).alloc (Nat.le_refl _) _
  have HB1 := Lib.hid hb1
  have HE := Lib.hid hE
  have g0 := heap_s0 w (.cells #[.int .i64 h.se, .int .i32 h.xi, .int .i64 h.zx, .int .i64 h.ti, .int .i32 h.t.n.ty, .string h.t.n.path, slV h.t.d, slV h.t.a, .int .i64 h.t.n.ow, .int .i32 h.t.n.ve, .int .i32 h.t.n.cr, .bool h.t.n.qh, .int .i64 h.t.n.qc, .int .i64 h.t.n.qb, .int .i64 h.t.n.si, .int .i32 h.t.n.st, slV h.t.i, slV h.t.p, .int .i32 h.t.n.co, slV h.t.s] 35)
  have HZ := Lib.hid (sz1 w (.cells #[.int .i64 h.se, .int .i32 h.xi, .int .i64 h.zx, .int .i64 h.ti, .int .i32 h.t.n.ty, .string h.t.n.path, slV h.t.d, slV h.t.a, .int .i64 h.t.n.ow, .int .i32 h.t.n.ve, .int .i32 h.t.n.cr, .bool h.t.n.qh, .int .i64 h.t.n.qc, .int .i64 h.t.n.qb, .int .i64 h.t.n.si, .int .i32 h.t.n.st, slV h.t.i, slV h.t.p, .int .i32 h.t.n.co, slV h.t.s] 35))
  have HSM := Lib.hid hsm
  have HD := Lib.hid (show DlAt w (· < w.heap.size) h d from ⟨hd.1, hd.2.more fun b hb _ => hb⟩)
  have HDW := Lib.hid (fun (V : World) (hV : Below w.heap.size w V) => (show DlAt V (· < w.heap.size) h d from ⟨HD.out.1, TxAt.keep HD.out.2 fun p hp => hV.cell hp⟩))
  have HBG := Lib.hid (bigDl_any d h (w.alloc (.cells #[.int .i64 h.se, .int .i32 h.xi, .int .i64 h.zx, .int .i64 h.ti, .int .i32 h.t.n.ty, .string h.t.n.path, slV h.t.d, slV h.t.a, .int .i64 h.t.n.ow, .int .i32 h.t.n.ve, .int .i32 h.t.n.cr, .bool h.t.n.qh, .int .i64 h.t.n.qc, .int .i64 h.t.n.qb, .int .i64 h.t.n.si, .int .i32 h.t.n.st, slV h.t.i, slV h.t.p, .int .i32 h.t.n.co, slV h.t.s] 35)) (· < w.heap.size) (HDW.out _ hb1) hsm)
  clear hb1 hd hE hsm
  go_enter Tryz.func4, Tryz.ntmps4
  go_upto_region 1 with fail
  change Code.wp _ _ _ _ (w.alloc (.cells #[.int .i64 h.se, .int .i32 h.xi, .int .i64 h.zx, .int .i64 h.ti, .int .i32 h.t.n.ty, .string h.t.n.path, slV h.t.d, slV h.t.a, .int .i64 h.t.n.ow, .int .i32 h.t.n.ve, .int .i32 h.t.n.cr, .bool h.t.n.qh, .int .i64 h.t.n.qc, .int .i64 h.t.n.qb, .int .i64 h.t.n.si, .int .i32 h.t.n.st, slV h.t.i, slV h.t.p, .int .i32 h.t.n.co, slV h.t.s] 35))
  generalize w.alloc (.cells #[.int .i64 h.se, .int .i32 h.xi, .int .i64 h.zx, .int .i64 h.ti, .int .i32 h.t.n.ty, .string h.t.n.path, slV h.t.d, slV h.t.a, .int .i64 h.t.n.ow, .int .i32 h.t.n.ve, .int .i32 h.t.n.cr, .bool h.t.n.qh, .int .i64 h.t.n.qc, .int .i64 h.t.n.qb, .int .i64 h.t.n.si, .int .i32 h.t.n.st, slV h.t.i, slV h.t.p, .int .i32 h.t.n.co, slV h.t.s] 35) = W at *
  go_wp2_with (first | (apply wpList_loadRow 35 35; exact rfl; exact rfl; exact rfl; assumption; exact undDl; exact rfl; exact infDl) | fail)
  refine HBG.out.mono ?_
  rintro e w1 ⟨⟨b, rfl⟩, hb2⟩
  have HB2 := Lib.hid (HB1.out.trans (hb2.mono HB1.out.size))
  have g1 := (hb2.block w.heap.size (by have := HZ.out; omega)).trans g0
  have HZ2 := Lib.hid (show w.heap.size + 1 ≤ w1.heap.size by have := HZ.out; have := hb2.size; omega)
  clear hb2 g0 HBG HB1
  cases b
  case true =>
    have HAL := Lib.hid (alive13_any w1 (HE.out.below (Nat.le_refl _) HB2.out))
    go_wp2_with fail
    refine HAL.out.mono ?_
    rintro e w2 ⟨rfl, hb3⟩
    have HB3 := Lib.hid (HB2.out.trans (hb3.mono HB2.out.size))
    clear hb3
    go_wp2_with fail
    go_ret
    exact RetB.mk HB3.out rfl
  have HCL := Lib.hid (refCloneDl_any h d w1 _ (HDW.out w1 HB2.out) HSM.out)
  go_wp2_with (first | (apply wpList_loadRow 35 35; exact rfl; exact rfl; exact rfl; assumption; exact undDl; exact rfl; exact infDl) | fail)
  refine HCL.out.mono ?_
  rintro e w2 ⟨⟨h3, rfl, hd3⟩, hb3⟩
  have hb4 : Below w2.heap.size w2 (w2.alloc (.cells #[.int .i64 h3.se, .int .i32 h3.xi, .int .i64 h3.zx, .int .i64 h3.ti, .int .i32 h3.t.n.ty, .string h3.t.n.path, slV h3.t.d, slV h3.t.a, .int .i64 h3.t.n.ow, .int .i32 h3.t.n.ve, .int .i32 h3.t.n.cr, .bool h3.t.n.qh, .int .i64 h3.t.n.qc, .int .i64 h3.t.n.qb, .int .i64 h3.t.n.si, .int .i32 h3.t.n.st, slV h3.t.i, slV h3.t.p, .int .i32 h3.t.n.co, slV h3.t.s] 35)) := (Below.refl _ w2).alloc (Nat.le_refl _) _
  have HB3 := Lib.hid (HB2.out.trans (hb3.mono HB2.out.size))
  have HB4 := Lib.hid (HB3.out.trans (hb4.mono HB3.out.size))
  have g2 := (hb3.block w.heap.size (Array.getElem?_eq_some_iff.1 g1).1).trans g1
  have g4 := (hb4.block _ (Array.getElem?_eq_some_iff.1 g2).1).trans g2
  have g5 := heap_s0 w2 (.cells #[.int .i64 h3.se, .int .i32 h3.xi, .int .i64 h3.zx, .int .i64 h3.ti, .int .i32 h3.t.n.ty, .string h3.t.n.path, slV h3.t.d, slV h3.t.a, .int .i64 h3.t.n.ow, .int .i32 h3.t.n.ve, .int .i32 h3.t.n.cr, .bool h3.t.n.qh, .int .i64 h3.t.n.qc, .int .i64 h3.t.n.qb, .int .i64 h3.t.n.si, .int .i32 h3.t.n.st, slV h3.t.i, slV h3.t.p, .int .i32 h3.t.n.co, slV h3.t.s] 35)
  have HD3 := Lib.hid (show DlAt (w2.alloc (.cells #[.int .i64 h3.se, .int .i32 h3.xi, .int .i64 h3.zx, .int .i64 h3.ti, .int .i32 h3.t.n.ty, .string h3.t.n.path, slV h3.t.d, slV h3.t.a, .int .i64 h3.t.n.ow, .int .i32 h3.t.n.ve, .int .i32 h3.t.n.cr, .bool h3.t.n.qh, .int .i64 h3.t.n.qc, .int .i64 h3.t.n.qb, .int .i64 h3.t.n.si, .int .i32 h3.t.n.st, slV h3.t.i, slV h3.t.p, .int .i32 h3.t.n.co, slV h3.t.s] 35)) (· < (w2.alloc (.cells #[.int .i64 h3.se, .int .i32 h3.xi, .int .i64 h3.zx, .int .i64 h3.ti, .int .i32 h3.t.n.ty, .string h3.t.n.path, slV h3.t.d, slV h3.t.a, .int .i64 h3.t.n.ow, .int .i32 h3.t.n.ve, .int .i32 h3.t.n.cr, .bool h3.t.n.qh, .int .i64 h3.t.n.qc, .int .i64 h3.t.n.qb, .int .i64 h3.t.n.si, .int .i32 h3.t.n.st, slV h3.t.i, slV h3.t.p, .int .i32 h3.t.n.co, slV h3.t.s] 35)).heap.size) h3 d from ⟨hd3.1, TrAt.fr kTxOk hd3.2 (Fr.of_below (own := []) hb4) fun b hb _ => ⟨by simp, Nat.lt_of_lt_of_le hb hb4.size⟩⟩)
  clear hb3 hb4 g1 g2 hd3 HCL
  go_upto_region 4 with (first | (apply wpList_storeTop 35 35; exact rfl; exact rfl; exact rfl; (first | (with_reducible rfl) | (exact sz1 _ _) | (exact sz2 _ _ _)); exact rfl; exact infDl; exact rfl; (first | exact oneDl _ | simp [Value.oneCell'])) | fail)
  change Code.wp _ _ _ _ (w2.alloc (.cells #[.int .i64 h3.se, .int .i32 h3.xi, .int .i64 h3.zx, .int .i64 h3.ti, .int .i32 h3.t.n.ty, .string h3.t.n.path, slV h3.t.d, slV h3.t.a, .int .i64 h3.t.n.ow, .int .i32 h3.t.n.ve, .int .i32 h3.t.n.cr, .bool h3.t.n.qh, .int .i64 h3.t.n.qc, .int .i64 h3.t.n.qb, .int .i64 h3.t.n.si, .int .i32 h3.t.n.st, slV h3.t.i, slV h3.t.p, .int .i32 h3.t.n.co, slV h3.t.s] 35))
  generalize w2.alloc (.cells #[.int .i64 h3.se, .int .i32 h3.xi, .int .i64 h3.zx, .int .i64 h3.ti, .int .i32 h3.t.n.ty, .string h3.t.n.path, slV h3.t.d, slV h3.t.a, .int .i64 h3.t.n.ow, .int .i32 h3.t.n.ve, .int .i32 h3.t.n.cr, .bool h3.t.n.qh, .int .i64 h3.t.n.qc, .int .i64 h3.t.n.qb, .int .i64 h3.t.n.si, .int .i32 h3.t.n.st, slV h3.t.i, slV h3.t.p, .int .i32 h3.t.n.co, slV h3.t.s] 35) = V at *
  have HL := Lib.hid (row_grown (rangeAt_heapC (pre := []) (mid := [.int .i64 h.se, .int .i32 h.xi, .int .i64 h.zx, .int .i64 h.ti, .int .i32 h.t.n.ty, .string h.t.n.path, slV h.t.d, slV h.t.a, .int .i64 h.t.n.ow, .int .i32 h.t.n.ve, .int .i32 h.t.n.cr, .bool h.t.n.qh, .int .i64 h.t.n.qc, .int .i64 h.t.n.qb, .int .i64 h.t.n.si, .int .i32 h.t.n.st, slV h.t.i, slV h.t.p, .int .i32 h.t.n.co, slV h.t.s]) (post := []) g4 rfl rfl))
  have HL3 := Lib.hid (row_grown (rangeAt_heapC (pre := []) (mid := [.int .i64 h3.se, .int .i32 h3.xi, .int .i64 h3.zx, .int .i64 h3.ti, .int .i32 h3.t.n.ty, .string h3.t.n.path, slV h3.t.d, slV h3.t.a, .int .i64 h3.t.n.ow, .int .i32 h3.t.n.ve, .int .i32 h3.t.n.cr, .bool h3.t.n.qh, .int .i64 h3.t.n.qc, .int .i64 h3.t.n.qb, .int .i64 h3.t.n.si, .int .i32 h3.t.n.st, slV h3.t.i, slV h3.t.p, .int .i32 h3.t.n.co, slV h3.t.s]) (post := []) g5 rfl rfl))
  clear g4 g5
  have C1 := Lib.hid (fun (n : Nat) (os : Array Obj) => Calls.regrown_of (right13_any h3 d (Go.Sort.grow (redrawn V n) os) _ ⟨HD3.out.1, TxAt.keep HD3.out.2 fun p hp => (below_regrown V n os).cell hp⟩ (HE.out.below (Nat.le_refl _) (HB4.out.trans ((below_regrown V n os).mono HB4.out.size))) HSM.out))
  have C2 := Lib.hid (fun (n : Nat) (os : Array Obj) => Calls.regrown_of (refRight_any h d (Go.Sort.grow (redrawn V n) os) _ (HDW.out _ (HB4.out.trans ((below_regrown V n os).mono HB4.out.size))) HSM.out))
  have C3 := Lib.hid (fun (n : Nat) (os : Array Obj) => by
    have k := sameDlG d d h3 h (Go.Sort.grow (redrawn V n) os) _ _ ⟨HD3.out.1, TxAt.keep HD3.out.2 fun p hp => (below_regrown V n os).cell hp⟩ (HDW.out _ (HB4.out.trans ((below_regrown V n os).mono HB4.out.size))) HSM.out HSM.out
    rw [show sameD d d = true from sameD_eq rfl] at k
    exact Calls.regrown_of k)
  have C4 := Lib.hid (fun (n : Nat) (os : Array Obj) => Calls.regrown_of (alive13_any (Go.Sort.grow (redrawn V n) os) (HE.out.below (Nat.le_refl _) (HB4.out.trans ((below_regrown V n os).mono HB4.out.size)))))
  refine wp_region_quiet_below (by kernel_rfl) (by kernel_rfl) ?_
  repeat (first | (refine wpQuiet_load 35 HL.out (by rfl) rfl rfl undDl rfl infDl ?_; simp only [Act.put, List.setIfInBounds_toArray, List.set_cons_zero, List.set_cons_succ]) | (refine wpQuiet_load 35 HL3.out (by rfl) rfl rfl undDl rfl infDl ?_; simp only [Act.put, List.setIfInBounds_toArray, List.set_cons_zero, List.set_cons_succ]) | go_big_quiet_step ((first | exact C1.out _ _ | exact C2.out _ _ | exact C3.out _ _ | exact C4.out _ _)))
  refine wpQuiet_nil ?_
  intro _ hw'
  obtain ⟨⟨dq, osq⟩, hw''⟩ := hw'
  subst hw''
  have HBF := Lib.hid (HB4.out.trans ((below_regrown V dq osq).mono HB4.out.size))
  clear HL HL3
  go_wp2_with fail
  go_ret
  exact RetB.mk HBF.out rfl
end Go.Proofs.YthpjneobmmpbnaaGreatDoor
