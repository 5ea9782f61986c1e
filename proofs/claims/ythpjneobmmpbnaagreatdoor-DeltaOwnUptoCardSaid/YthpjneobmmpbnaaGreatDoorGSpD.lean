/- Copies in blocks of which nothing is frozen. No program; no condition. -/
import Derived.Test.YthpjneobmmpbnaaGreatDoorGRefS
import Derived.Test.YthpjneobmmpbnaaGreatDoorGRfD
namespace Go.Proofs.YthpjneobmmpbnaaGreatDoor
open Go.RowKit Go.MapKept Go.Maps
/-- a block from B on, of which nothing is frozen -/
def UfR (w : World) (B b : Nat) : Prop := B ≤ b ∧ ∀ o, w.frozen? ⟨b, o, none⟩ = false
theorem NfR.uf {w : World} {B b : Nat} (H : NfR w B b) : UfR w B b := ⟨H.1, fun o => H.frz o⟩
theorem UfR.fr {w w' : World} {B B' b : Nat} {own : List Nat} (hlt : b < w.heap.size) (H : UfR w B b) (hf : Fr own w w') (hn : b ∉ own) (hB : B' ≤ B) : UfR w' B' b :=
  ⟨Nat.le_trans hB H.1, fun o => by rw [World.frozen?_of_block (w := w) (hf.block b hlt hn)]; exact H.2 o⟩
theorem UfR.cells {w : World} {B b : Nat} (H : UfR w B b) (g o : Nat) (vs : List Value) : UfR (w.setCells g o vs) B b := ⟨H.1, fun o' => by rw [World.frozen?_setCells]; exact H.2 o'⟩
theorem UfR.cell {w : World} {B b : Nat} (H : UfR w B b) (p : Addr) (v : Value) : UfR (w.setCell p v) B b := ⟨H.1, fun o' => by rw [World.frozen?_setCell]; exact H.2 o'⟩
theorem UfR.less {w : World} {B B' b : Nat} (H : UfR w B b) (h : B' ≤ B) : UfR w B' b := ⟨Nat.le_trans h H.1, H.2⟩
theorem kUf : RKind UfR := ⟨fun hlt h hf hn hB => UfR.fr hlt h hf hn hB⟩
theorem own_slrU {α : Type} [Inhabited α] {w : World} {enc : α → List Value} {T : TypeId} {k base n c B : Nat} {A : Option Addr} {l : List α} (h : w.ownsRow base T k (.slice A n c) n (l.flatMap enc)) (hk : ∀ x, (enc x).length = k) (hl : l.length = n) (hB : B ≤ base) : SlR w (UfR w B) enc k (A, n, c) l := by
  have := own_slrN h hk hl
  exact ⟨this.1, this.2.1, fun h0 => by
    obtain ⟨b, off, e, hb, hc⟩ := this.2.2 h0
    exact ⟨b, off, e, hb.uf.less hB, hc⟩⟩
theorem SlR.putU {α : Type} [Inhabited α] {w : World} {k : Nat} {enc : α → List Value} {h : SlC} {zs : List α} {g : Nat} (H : SlR w (UfR w (g + 2)) enc k h zs) (hk : ∀ x, 0 < (enc x).length) (o : Nat) (v : Value) : SlR (w.setCell ⟨g, o, none⟩ v) (UfR (w.setCell ⟨g, o, none⟩ v) (g + 2)) enc k h zs :=
  H.fr (fr_set w g o v) (fun b _ h => ⟨by have := h.1; simp; omega, h.cell _ _⟩) hk
theorem SlR.laterU {α : Type} [Inhabited α] {w w' : World} {B k : Nat} {enc : α → List Value} {h : SlC} {zs : List α} (H : SlR w (UfR w B) enc k h zs) (hb : Below w.heap.size w w') (hk : ∀ x, 0 < (enc x).length) : SlR w' (UfR w' B) enc k h zs :=
  H.fr (Fr.of_below (own := []) hb) (fun b hlt h => ⟨by simp, UfR.fr hlt h (Fr.of_below (own := []) hb) (by simp) (Nat.le_refl _)⟩) hk
theorem TxAt.uf {w : World} {B : Nat} {h : TxH} {t : TxT} (H : TxAt w (NfR w B) h t) : TxAt w (UfR w B) h t := H.more fun _ _ h => h.uf
/-- a row of n trees in block gs: the first k are new (blocks from hi on), the others are as they were (blocks below B) -/
structure ClSu {α β : Type} [Inhabited β] (K : Kd α β) (B hi gs n : Nat) (subs : List (Tr β)) (k : Nat) (w : World) : Prop where
  th : w.there gs 0 (n * K.k)
  old : ∀ j, k ≤ j → j < n → ∃ h, w.rangeAt gs (j * K.k) (K.enc h) ∧ TrAt K w (· < B) h subs[j]!
  new : ∀ j, j < k → ∃ h, w.rangeAt gs (j * K.k) (K.enc h) ∧ TrAt K w (UfR w hi) h subs[j]!
  uf : 0 < n → ∀ o, w.frozen? ⟨gs, o, none⟩ = false
section
variable {α β : Type} [Inhabited β] {K : Kd α β} {B hi gs n k : Nat} {subs : List (Tr β)} {w w1 w' : World}
theorem ClSu.lt (hK : KdOk K) (H : ClSu K B hi gs n subs k w) (h0 : 0 < n) : gs < w.heap.size := by
  obtain ⟨h1, _⟩ := H.th 0 (Nat.mul_pos h0 hK.pos)
  obtain ⟨u, hu⟩ := Option.isSome_iff_exists.1 h1
  exact World.block_lt_of_cell? w _ hu
theorem ClSu.below (hK : KdOk K) (H : ClSu K B hi gs n subs k w) (hb : Below w.heap.size w w') : ClSu K B hi gs n subs k w' :=
  ⟨there_below H.th hb, fun j h1 h2 => by
    obtain ⟨h, hr, ht⟩ := H.old j h1 h2
    exact ⟨h, range_below hr hb, ht.fr hK (Fr.of_below (own := []) hb) (fun _ _ h => ⟨by simp, h⟩)⟩, fun j h1 => by
    obtain ⟨h, hr, ht⟩ := H.new j h1
    exact ⟨h, range_below hr hb, ht.fr hK (Fr.of_below (own := []) hb) (fun _ hlt h => ⟨by simp, h.fr hlt (Fr.of_below (own := []) hb) (by simp) (Nat.le_refl _)⟩)⟩, fun h0 o => by
    rw [hb.frozen (p := ⟨gs, o, none⟩) (H.lt hK h0)]; exact H.uf h0 o⟩
theorem ClSu.other (hK : KdOk K) (H : ClSu K B hi gs n subs k w) {own : List Nat} (hf : Fr own w w') (hth : w'.there gs 0 (n * K.k)) (hgs : gs ∉ own) (hB : ∀ g ∈ own, B ≤ g ∧ g < hi) : ClSu K B hi gs n subs k w' := by
  have hr : ∀ {o : Nat} {cs : List Value}, w.rangeAt gs o cs → w'.rangeAt gs o cs := fun h j v hv => by
    have hu := h j v hv
    rw [hf.cell (p := ⟨gs, _ + j, none⟩) (World.block_lt_of_cell? w _ hu) hgs]; exact hu
  refine ⟨hth, fun j h1 h2 => ?_, fun j h1 => ?_, fun h0 o => by
    rw [World.frozen?_of_block (w := w) (hf.block gs (H.lt hK h0) hgs)]; exact H.uf h0 o⟩
  · obtain ⟨h, h3, ht⟩ := H.old j h1 h2
    exact ⟨h, hr h3, ht.fr hK hf (fun b _ h => ⟨fun hm => by have := (hB b hm).1; omega, h⟩)⟩
  · obtain ⟨h, h3, ht⟩ := H.new j h1
    exact ⟨h, hr h3, ht.fr hK hf (fun b hlt h => ⟨fun hm => by have := (hB b hm).2; have := h.1; omega, h.fr hlt hf (fun hm => by have := (hB b hm).2; have := h.1; omega) (Nat.le_refl _)⟩)⟩
theorem ClSu.there_row (H : ClSu K B hi gs n subs k w) (hk : k < n) : w.there gs (k * K.k) K.k := fun j hj => by
  have h1 := Nat.mul_le_mul_right K.k (show k + 1 ≤ n from hk)
  rw [Nat.add_mul, Nat.one_mul] at h1
  have := H.th (k * K.k + j) (by omega)
  rwa [Nat.zero_add] at this
/-- one element more is new -/
theorem ClSu.step (hK : KdOk K) (H : ClSu K B hi gs n subs k w1) (hb : Below w1.heap.size w1 w) {h' : α} (ht : TrAt K w (UfR w w1.heap.size) h' subs[k]!) (hk : k < n) (hgs : gs < hi) (hi1 : hi ≤ w1.heap.size) (hB : B ≤ gs) : ClSu K B hi gs n subs (k + 1) (w.setCells gs (k * K.k) (K.enc h')) := by
  have H := H.below hK hb
  have hthr := H.there_row hk
  refine ⟨World.there_setCells H.th _ _ _, fun j h1 h2 => ?_, fun j h1 => ?_, fun h0 o => by rw [World.frozen?_setCells]; exact H.uf h0 o⟩
  · obtain ⟨h, h3, ht⟩ := H.old j (by omega) h2
    have hm := Nat.mul_le_mul_right K.k (show k + 1 ≤ j from h1)
    rw [Nat.add_mul, Nat.one_mul] at hm
    exact ⟨h, World.rangeAt_setCells_apart h3 _ _ _ (.inr (.inr (by rw [hK.len]; exact hm))), ht.fr hK (fr_setCells _ _ _ _) (fun b _ h => ⟨by simp; omega, h⟩)⟩
  · by_cases e : j = k
    · subst e
      exact ⟨h', World.rangeAt_setCells_same _ _ _ _ (by rw [hK.len]; exact hthr), ht.fr hK (fr_setCells _ _ _ _) (fun b _ h => ⟨by have := h.1; simp; omega, (h.cells _ _ _).less hi1⟩)⟩
    · obtain ⟨h, h3, ht⟩ := H.new j (by omega)
      have hm := Nat.mul_le_mul_right K.k (show j + 1 ≤ k by omega)
      rw [Nat.add_mul, Nat.one_mul] at hm
      exact ⟨h, World.rangeAt_setCells_apart h3 _ _ _ (.inr (.inl (by rw [hK.len]; exact hm))), ht.fr hK (fr_setCells _ _ _ _) (fun b _ h => ⟨by have := h.1; simp; omega, h.cells _ _ _⟩)⟩
/-- all are new: the tree -/
theorem ClSu.tree [Inhabited α] (H : ClSu K B hi gs n subs n w) {h : α} {v : β} {R : Nat → Prop} (hK : KdOk K) (hl : K.loc w R h v) (hlen : subs.length = n) (hs : (K.sub h).2.1 = n) (hd : hdOk (K.sub h)) (ha : 0 < n → (K.sub h).1 = some ⟨gs, 0, none⟩ ∧ R gs) (hR : ∀ b, UfR w hi b → R b) : TrAt K w R h (.mk v subs) := by
  refine .mk h v subs (fun j => if hj : j < n then (H.new j hj).choose else default) gs 0 hl (by omega) hd (fun h0 => ha (by omega)) (fun j hj i u hu => ?_) (fun j hj => ?_)
  · have hj' : j < n := by omega
    simp only [hj', dite_true] at hu
    have := (H.new j hj').choose_spec.1 i u hu
    rwa [Nat.zero_add]
  · have hj' : j < n := by omega
    simp only [hj', dite_true]
    exact (H.new j hj').choose_spec.2.fr hK (Fr.refl [] w) (fun b _ h => ⟨by simp, hR b h⟩)
/-- the row as slices.Clone gives it -/
theorem ClSu.start [Inhabited α] (hK : KdOk K) {base c : Nat} {T : TypeId} {A : Option Addr} {L : List α} (hr : w.ownsRow base T K.k (.slice A n c) n (L.flatMap K.enc)) (hl : L.length = n) (ht : ∀ j, j < n → TrAt K w (· < B) L[j]! subs[j]!) :
    (A = none → n = 0 ∧ c = 0) ∧ n ≤ c ∧ ∃ gs, base ≤ gs ∧ (0 < n → A = some ⟨gs, 0, none⟩ ∧ gs < w.heap.size) ∧ ClSu K B w.heap.size gs n subs 0 w := by
  rcases hr.2 with ⟨e, e2⟩ | ⟨g, cap, cur, e1, h2, h3, h4, h5, h6, h7⟩
  · injection e with e e3 e4
    subst e e2 e4
    exact ⟨fun _ => ⟨rfl, rfl⟩, Nat.le_refl _, base, Nat.le_refl _, fun h => absurd h (by omega), ⟨fun j hj => absurd hj (by omega), fun j _ hj => absurd hj (by omega), fun j hj => absurd hj (by omega), fun h0 => absurd h0 (by omega)⟩⟩
  · injection e1 with e1 e3 e4
    subst e1 e4
    have hcs : n * K.k ≤ cur.size := by rw [h6]; exact Nat.mul_le_mul_right _ h4
    refine ⟨fun h => (by cases h), h4, g, h2, fun _ => ⟨rfl, (Array.getElem?_eq_some_iff.1 h3).1⟩, ⟨fun j hj => ?_, fun j _ hj => ?_, fun j hj => absurd hj (by omega), fun _ o => by simp [World.frozen?, h3]⟩⟩
    · rw [Nat.zero_add]
      have hj' : j < cur.size := by omega
      refine ⟨?_, by simp [World.frozen?, h3]⟩
      have : w.cell? ⟨g, j, none⟩ = cur[j]? := by simp [World.cell?, h3]
      rw [this, Array.getElem?_eq_getElem hj']; rfl
    · refine ⟨L[j]!, fun i u hu => ?_, ht j hj⟩
      have hf := flat_at hK.len L j i u (by omega) hu
      rw [← h7] at hf
      have hc : w.cell? ⟨g, j * K.k + i, none⟩ = cur[j * K.k + i]? := by simp [World.cell?, h3]
      rw [hc]
      rw [List.getElem?_take] at hf
      split at hf
      · simpa using hf
      · cases hf
end
end Go.Proofs.YthpjneobmmpbnaaGreatDoor
namespace Go.Proofs.YthpjneobmmpbnaaGreatDoor
open Go.RowKit Go.MapKept
def ClonedU (t : TxT) (w : World) (e : Ending) (w' : World) : Prop := (∃ h', e = .returned (txV h') ∧ TxAt w' (UfR w' w.heap.size) h' t) ∧ Below w.heap.size w w'
/-- the loop's state: k elements are copied -/
structure ClRu (w : World) (h' : TxH) (v : TxF) (subs : List TxT) (n gs hi : Nat) (Z : Array Value) (k : Nat) (wr : World) : Prop where
  s : CnSt w wr (encTx h').toArray Z 33
  l : locTx wr (fun b => UfR wr (w.heap.size + 2) b ∧ b ≠ gs) h' v
  r : ClSu kTx w.heap.size hi gs n subs k wr
  hi : hi ≤ wr.heap.size
theorem ClRu.step {w : World} {h' : TxH} {v : TxF} {subs : List TxT} {n gs hi : Nat} {Z : Array Value} {k : Nat} {wr w2 : World} (H : ClRu w h' v subs n gs hi Z k wr) (hb : Below wr.heap.size wr w2) {hh : TxH} (ht : TxAt w2 (UfR w2 wr.heap.size) hh subs[k]!) (hk : k < n) (hgs : gs < hi) (hB : w.heap.size + 2 ≤ gs) :
    ClRu w h' v subs n gs hi Z (k + 1) (w2.setCells gs (k * 16) (encTx hh)) where
  s := ⟨((fr_setCells w2 gs (k * 16) (encTx hh)).block _ (by have := H.s.s; have := hb.size; omega) (by simp; omega)).trans (H.s.call hb).c, ((fr_setCells w2 gs (k * 16) (encTx hh)).block _ (by have := H.s.s; have := hb.size; omega) (by simp; omega)).trans (H.s.call hb).z, (H.s.call hb).b.trans ((fr_setCells w2 gs (k * 16) (encTx hh)).below (H.s.call hb).b.size (by simp; omega)), Nat.le_trans (H.s.call hb).s (fr_setCells w2 gs (k * 16) (encTx hh)).size⟩
  l := kTxOk.loc (kTxOk.loc (R' := fun b => UfR w2 (w.heap.size + 2) b ∧ b ≠ gs) H.l (Fr.of_below (own := []) hb) (fun b hlt h => ⟨by simp, UfR.fr hlt h.1 (Fr.of_below (own := []) hb) (by simp) (Nat.le_refl _), h.2⟩)) (fr_setCells w2 gs (k * 16) (encTx hh)) (fun b _ h => ⟨by simpa using h.2, h.1.cells _ _ _, h.2⟩)
  r := H.r.step kTxOk hb ht hk hgs H.hi (by omega)
  hi := Nat.le_trans H.hi (Nat.le_trans hb.size (fr_setCells w2 gs (k * 16) (encTx hh)).size)

set_option linter.unusedSimpArgs false in
set_option maxRecDepth 100000 in
set_option maxHeartbeats 20000000 in
theorem clonedU_any : ∀ (t : TxT) (h : TxH) (w : World) (R : Nat → Prop), TxAt w R h t → TxOk 1048576 t → Calls Tryz.prog 56 #[txV h] w (ClonedU t w) := by
  refine Tr.ind ?_
  intro v subs ih h w R ht0 hok
  have ht : TxAt w (· < w.heap.size) h (.mk v subs) := ht0.more (fun b hb _ => hb)
  have hl := ht.loc
  obtain ⟨L, hL, hsub⟩ := ht.subs_at
  have hlen := ht.len
  have hsm := hok.top
  have hb1 : Below w.heap.size w ((w.alloc (.cells #[.int .i32 h.n.ty, .string h.n.path, slV h.d, slV h.a, .int .i64 h.n.ow, .int .i32 h.n.ve, .int .i32 h.n.cr, .bool h.n.qh, .int .i64 h.n.qc, .int .i64 h.n.qb, .int .i64 h.n.si, .int .i32 h.n.st, slV h.i, slV h.p, .int .i32 h.n.co, slV h.s] 33)).alloc (.cells #[.int .i32 0, .string ⟨#[]⟩, .slice none 0 0, .slice none 0 0, .int .i64 0, .int .i32 0, .int .i32 0, .bool false, .int .i64 0, .int .i64 0, .int .i64 0, .int .i32 0, .slice none 0 0, .slice none 0 0, .int .i32 0, .slice none 0 0] 33)) := ((Below.refl _ w).alloc (Nat.le_refl _) _).alloc (by simp) _
  have HS := Lib.hid (CnSt.start w #[.int .i32 h.n.ty, .string h.n.path, slV h.d, slV h.a, .int .i64 h.n.ow, .int .i32 h.n.ve, .int .i32 h.n.cr, .bool h.n.qh, .int .i64 h.n.qc, .int .i64 h.n.qb, .int .i64 h.n.si, .int .i32 h.n.st, slV h.i, slV h.p, .int .i32 h.n.co, slV h.s] #[.int .i32 0, .string ⟨#[]⟩, .slice none 0 0, .slice none 0 0, .int .i64 0, .int .i32 0, .int .i32 0, .bool false, .int .i64 0, .int .i64 0, .int .i64 0, .int .i32 0, .slice none 0 0, .slice none 0 0, .int .i32 0, .slice none 0 0] 33)
  have HCd := Lib.hid (fun (W : World) (hW : Below w.heap.size w W) => cloneByte_any h.d.1 h.d.2.1 h.d.2.2 v.data W ((hl.2.1.sl (fun _ => by simp [enc8])).belowMore hW hW.size) hl.2.1.hd.1 (by have h1 := hsm.2.2.1; have h2 := hl.2.1.1; simp only [Tr.v, Tr.subs] at *; omega))
  have HLd := Lib.hid hl.2.1.len
  have HCa := Lib.hid (fun (W : World) (hW : Below w.heap.size w W) => cloneAcl_any h.a.1 h.a.2.1 h.a.2.2 v.acl W ((hl.2.2.1.sl (fun _ => by simp [encAcl])).belowMore hW hW.size) hl.2.2.1.hd.1 (by have h1 := hsm.2.2.2.1; have h2 := hl.2.2.1.1; simp only [Tr.v, Tr.subs] at *; omega))
  have HLa := Lib.hid hl.2.2.1.len
  have HCi := Lib.hid (fun (W : World) (hW : Below w.heap.size w W) => cloneIds_any h.i.1 h.i.2.1 h.i.2.2 v.ids W ((hl.2.2.2.1.sl (fun _ => by simp [encId])).belowMore hW hW.size) hl.2.2.2.1.hd.1 (by have h1 := hsm.2.2.2.2.1; have h2 := hl.2.2.2.1.1; simp only [Tr.v, Tr.subs] at *; omega))
  have HLi := Lib.hid hl.2.2.2.1.len
  have HCp := Lib.hid (fun (W : World) (hW : Below w.heap.size w W) => cloneStr_any h.p.1 h.p.2.1 h.p.2.2 v.paths W ((hl.2.2.2.2.sl (fun _ => by simp [encStr])).belowMore hW hW.size) hl.2.2.2.2.hd.1 (by have h1 := hsm.2.2.2.2.2.1; have h2 := hl.2.2.2.2.1; simp only [Tr.v, Tr.subs] at *; omega))
  have HLp := Lib.hid hl.2.2.2.2.len
  have HCs := Lib.hid (fun (W : World) (hW : Below w.heap.size w W) => cloneTx_any h.s.1 h.s.2.1 h.s.2.2 L W ((hL.sl (fun _ => by simp [encTx])).belowMore hW hW.size) hL.hd.1 (Nat.le_trans (show h.s.2.1 ≤ 1048576 by have h1 := hsm.2.2.2.2.2.2.1; rw [hlen] at h1; exact h1) (by omega)))
  have HLs := Lib.hid hL.len
  have HSUB := Lib.hid hsub; have HLEN := Lib.hid (show subs.length = h.s.2.1 from hlen); have HN := Lib.hid hl.1
  have HIH := Lib.hid ih; have HOK := Lib.hid (fun k (hk : k < subs.length) => hok.subAt (j := k) hk)
  have HSB := Lib.hid (show h.s.2.1 ≤ 1048576 by have h1 := hsm.2.2.2.2.2.2.1; rw [hlen] at h1; exact h1)
  have HB := Lib.hid hb1
  clear ht0 ht hl hL hsub hlen hsm hb1 ih hok
  go_enter Tryz.func56, Tryz.ntmps56
  go_wp2_with (first
    | (apply wpList_storeTop 33 33; exact rfl; exact rfl; exact rfl; (first | (with_reducible rfl) | (exact sz1 _ _) | (exact sz2 _ _ _) | (exact sz3 _ _ _ _)); exact rfl; exact infTx; exact rfl; simp [Value.oneCell'])
    | fail)
  refine (HCd.out _ HS.out.b).mono ?_
  generalize ((w.alloc (.cells #[.int .i32 h.n.ty, .string h.n.path, slV h.d, slV h.a, .int .i64 h.n.ow, .int .i32 h.n.ve, .int .i32 h.n.cr, .bool h.n.qh, .int .i64 h.n.qc, .int .i64 h.n.qb, .int .i64 h.n.si, .int .i32 h.n.st, slV h.i, slV h.p, .int .i32 h.n.co, slV h.s] 33)).alloc (.cells #[.int .i32 0, .string ⟨#[]⟩, .slice none 0 0, .slice none 0 0, .int .i64 0, .int .i32 0, .int .i32 0, .bool false, .int .i64 0, .int .i64 0, .int .i64 0, .int .i32 0, .slice none 0 0, .slice none 0 0, .int .i32 0, .slice none 0 0] 33)) = V0 at *
  rintro e w0 ⟨⟨A0, c0, rfl, hr⟩, hb⟩
  have HRd := Lib.hid hr; have HSZ0 := Lib.hid (show w.heap.size + 2 ≤ V0.heap.size from HS.out.s); have HBX0 := Lib.hid hb
  replace HRd := Lib.hid (own_slrU hr (fun _ => rfl) HLd.out HSZ0.out)
  replace HS := Lib.hid (HS.out.call hb)
  have z0 := HS.out.cell (i := 2) (v := slV h.d) rfl
  have f0 := HS.out.frz 2
  have y0 := HS.out.cell (i := 3) (v := slV h.a) rfl
  clear hr hb
  go_wp2_with fail
  replace HS := Lib.hid (HS.out.set 2 (.slice A0 h.d.2.1 c0))
  replace HS := Lib.hid (show CnSt w (w0.setCell ⟨w.heap.size, 2, none⟩ (.slice A0 h.d.2.1 c0)) #[.int .i32 h.n.ty, .string h.n.path, .slice A0 h.d.2.1 c0, slV h.a, .int .i64 h.n.ow, .int .i32 h.n.ve, .int .i32 h.n.cr, .bool h.n.qh, .int .i64 h.n.qc, .int .i64 h.n.qb, .int .i64 h.n.si, .int .i32 h.n.st, slV h.i, slV h.p, .int .i32 h.n.co, slV h.s] _ _ from HS.out)
  replace HRd := Lib.hid (HRd.out.putU (fun _ => by simp [enc8]) 2 (.slice A0 h.d.2.1 c0))
  generalize w0.setCell ⟨w.heap.size, 2, none⟩ (.slice A0 h.d.2.1 c0) = V1 at *
  clear z0 f0 y0 HSZ0 HBX0
  refine (HCa.out _ HS.out.b).mono ?_
  rintro e w1 ⟨⟨A1, c1, rfl, hr⟩, hb⟩
  have HRa := Lib.hid hr; have HSZ1 := Lib.hid (show w.heap.size + 2 ≤ V1.heap.size from HS.out.s); have HBX1 := Lib.hid hb
  replace HRd := Lib.hid (HRd.out.laterU hb (fun _ => by simp [enc8]))
  replace HRa := Lib.hid (own_slrU hr (fun _ => rfl) HLa.out HSZ1.out)
  replace HS := Lib.hid (HS.out.call hb)
  have z1 := HS.out.cell (i := 3) (v := slV h.a) rfl
  have f1 := HS.out.frz 3
  have y1 := HS.out.cell (i := 12) (v := slV h.i) rfl
  clear hr hb
  go_wp2_with fail
  replace HS := Lib.hid (HS.out.set 3 (.slice A1 h.a.2.1 c1))
  replace HS := Lib.hid (show CnSt w (w1.setCell ⟨w.heap.size, 3, none⟩ (.slice A1 h.a.2.1 c1)) #[.int .i32 h.n.ty, .string h.n.path, .slice A0 h.d.2.1 c0, .slice A1 h.a.2.1 c1, .int .i64 h.n.ow, .int .i32 h.n.ve, .int .i32 h.n.cr, .bool h.n.qh, .int .i64 h.n.qc, .int .i64 h.n.qb, .int .i64 h.n.si, .int .i32 h.n.st, slV h.i, slV h.p, .int .i32 h.n.co, slV h.s] _ _ from HS.out)
  replace HRd := Lib.hid (HRd.out.putU (fun _ => by simp [enc8]) 3 (.slice A1 h.a.2.1 c1))
  replace HRa := Lib.hid (HRa.out.putU (fun _ => by simp [encAcl]) 3 (.slice A1 h.a.2.1 c1))
  generalize w1.setCell ⟨w.heap.size, 3, none⟩ (.slice A1 h.a.2.1 c1) = V2 at *
  clear z1 f1 y1 HSZ1 HBX1
  refine (HCi.out _ HS.out.b).mono ?_
  rintro e w2 ⟨⟨A2, c2, rfl, hr⟩, hb⟩
  have HRi := Lib.hid hr; have HSZ2 := Lib.hid (show w.heap.size + 2 ≤ V2.heap.size from HS.out.s); have HBX2 := Lib.hid hb
  replace HRd := Lib.hid (HRd.out.laterU hb (fun _ => by simp [enc8]))
  replace HRa := Lib.hid (HRa.out.laterU hb (fun _ => by simp [encAcl]))
  replace HRi := Lib.hid (own_slrU hr (fun _ => rfl) HLi.out HSZ2.out)
  replace HS := Lib.hid (HS.out.call hb)
  have z2 := HS.out.cell (i := 12) (v := slV h.i) rfl
  have f2 := HS.out.frz 12
  have y2 := HS.out.cell (i := 13) (v := slV h.p) rfl
  clear hr hb
  go_wp2_with fail
  replace HS := Lib.hid (HS.out.set 12 (.slice A2 h.i.2.1 c2))
  replace HS := Lib.hid (show CnSt w (w2.setCell ⟨w.heap.size, 12, none⟩ (.slice A2 h.i.2.1 c2)) #[.int .i32 h.n.ty, .string h.n.path, .slice A0 h.d.2.1 c0, .slice A1 h.a.2.1 c1, .int .i64 h.n.ow, .int .i32 h.n.ve, .int .i32 h.n.cr, .bool h.n.qh, .int .i64 h.n.qc, .int .i64 h.n.qb, .int .i64 h.n.si, .int .i32 h.n.st, .slice A2 h.i.2.1 c2, slV h.p, .int .i32 h.n.co, slV h.s] _ _ from HS.out)
  replace HRd := Lib.hid (HRd.out.putU (fun _ => by simp [enc8]) 12 (.slice A2 h.i.2.1 c2))
  replace HRa := Lib.hid (HRa.out.putU (fun _ => by simp [encAcl]) 12 (.slice A2 h.i.2.1 c2))
  replace HRi := Lib.hid (HRi.out.putU (fun _ => by simp [encId]) 12 (.slice A2 h.i.2.1 c2))
  generalize w2.setCell ⟨w.heap.size, 12, none⟩ (.slice A2 h.i.2.1 c2) = V3 at *
  clear z2 f2 y2 HSZ2 HBX2
  refine (HCp.out _ HS.out.b).mono ?_
  rintro e w3 ⟨⟨A3, c3, rfl, hr⟩, hb⟩
  have HRp := Lib.hid hr; have HSZ3 := Lib.hid (show w.heap.size + 2 ≤ V3.heap.size from HS.out.s); have HBX3 := Lib.hid hb
  replace HRd := Lib.hid (HRd.out.laterU hb (fun _ => by simp [enc8]))
  replace HRa := Lib.hid (HRa.out.laterU hb (fun _ => by simp [encAcl]))
  replace HRi := Lib.hid (HRi.out.laterU hb (fun _ => by simp [encId]))
  replace HRp := Lib.hid (own_slrU hr (fun _ => rfl) HLp.out HSZ3.out)
  replace HS := Lib.hid (HS.out.call hb)
  have z3 := HS.out.cell (i := 13) (v := slV h.p) rfl
  have f3 := HS.out.frz 13
  have y3 := HS.out.cell (i := 15) (v := slV h.s) rfl
  clear hr hb
  go_wp2_with fail
  replace HS := Lib.hid (HS.out.set 13 (.slice A3 h.p.2.1 c3))
  replace HS := Lib.hid (show CnSt w (w3.setCell ⟨w.heap.size, 13, none⟩ (.slice A3 h.p.2.1 c3)) #[.int .i32 h.n.ty, .string h.n.path, .slice A0 h.d.2.1 c0, .slice A1 h.a.2.1 c1, .int .i64 h.n.ow, .int .i32 h.n.ve, .int .i32 h.n.cr, .bool h.n.qh, .int .i64 h.n.qc, .int .i64 h.n.qb, .int .i64 h.n.si, .int .i32 h.n.st, .slice A2 h.i.2.1 c2, .slice A3 h.p.2.1 c3, .int .i32 h.n.co, slV h.s] _ _ from HS.out)
  replace HRd := Lib.hid (HRd.out.putU (fun _ => by simp [enc8]) 13 (.slice A3 h.p.2.1 c3))
  replace HRa := Lib.hid (HRa.out.putU (fun _ => by simp [encAcl]) 13 (.slice A3 h.p.2.1 c3))
  replace HRi := Lib.hid (HRi.out.putU (fun _ => by simp [encId]) 13 (.slice A3 h.p.2.1 c3))
  replace HRp := Lib.hid (HRp.out.putU (fun _ => by simp [encStr]) 13 (.slice A3 h.p.2.1 c3))
  generalize w3.setCell ⟨w.heap.size, 13, none⟩ (.slice A3 h.p.2.1 c3) = V4 at *
  clear z3 f3 y3 HSZ3 HBX3
  refine (HCs.out _ HS.out.b).mono ?_
  rintro e w4 ⟨⟨A4, c4, rfl, hr⟩, hb⟩
  have HRs := Lib.hid hr; have HSZ4 := Lib.hid (show w.heap.size + 2 ≤ V4.heap.size from HS.out.s); have HBX4 := Lib.hid hb
  replace HRd := Lib.hid (HRd.out.fr (R' := fun b => UfR w4 (w.heap.size + 2) b ∧ b < V4.heap.size) (Fr.of_below (own := []) hb) (fun b hlt h => ⟨by simp, UfR.fr hlt h (Fr.of_below (own := []) hb) (by simp) (Nat.le_refl _), hlt⟩) (fun _ => by simp [enc8]))
  replace HRa := Lib.hid (HRa.out.fr (R' := fun b => UfR w4 (w.heap.size + 2) b ∧ b < V4.heap.size) (Fr.of_below (own := []) hb) (fun b hlt h => ⟨by simp, UfR.fr hlt h (Fr.of_below (own := []) hb) (by simp) (Nat.le_refl _), hlt⟩) (fun _ => by simp [encAcl]))
  replace HRi := Lib.hid (HRi.out.fr (R' := fun b => UfR w4 (w.heap.size + 2) b ∧ b < V4.heap.size) (Fr.of_below (own := []) hb) (fun b hlt h => ⟨by simp, UfR.fr hlt h (Fr.of_below (own := []) hb) (by simp) (Nat.le_refl _), hlt⟩) (fun _ => by simp [encId]))
  replace HRp := Lib.hid (HRp.out.fr (R' := fun b => UfR w4 (w.heap.size + 2) b ∧ b < V4.heap.size) (Fr.of_below (own := []) hb) (fun b hlt h => ⟨by simp, UfR.fr hlt h (Fr.of_below (own := []) hb) (by simp) (Nat.le_refl _), hlt⟩) (fun _ => by simp [encStr]))
  replace HS := Lib.hid (HS.out.call hb)
  have z4 := HS.out.cell (i := 15) (v := slV h.s) rfl
  have f4 := HS.out.frz 15
  clear hr hb
  go_wp2_with fail
  obtain ⟨hA, hnc, gs, hgs, hgA, hst⟩ := ClSu.start kTxOk (B := w.heap.size) (subs := subs) HRs.out HLs.out (fun j hj => (HSUB.out j hj).fr kTxOk (Fr.of_below (own := []) HS.out.b) (fun b hlt _ => ⟨by simp, hlt⟩))
  have hst' := hst.other kTxOk (fr_set w4 w.heap.size 15 (.slice A4 h.s.2.1 c4)) (World.there_setCells hst.th w.heap.size 15 [.slice A4 h.s.2.1 c4]) (by have := HSZ4.out; simp; omega) (fun g hg => by have := HS.out.s; simp at hg; omega)
  have HR0 := Lib.hid (show ClRu w ⟨h.n, (A0, h.d.2.1, c0), (A1, h.a.2.1, c1), (A2, h.i.2.1, c2), (A3, h.p.2.1, c3), (A4, h.s.2.1, c4)⟩ v subs h.s.2.1 gs w4.heap.size _ 0 (w4.setCell ⟨w.heap.size, 15, none⟩ (.slice A4 h.s.2.1 c4)) from
    ⟨HS.out.set 15 _, ⟨HN.out, HRd.out.fr (fr_set _ _ _ _) (fun b _ h => ⟨by have := h.1.1; simp; omega, h.1.cell _ _, by have := HBX4.out.size; omega⟩) (fun _ => by simp [enc8]), HRa.out.fr (fr_set _ _ _ _) (fun b _ h => ⟨by have := h.1.1; simp; omega, h.1.cell _ _, by omega⟩) (fun _ => by simp [encAcl]), HRi.out.fr (fr_set _ _ _ _) (fun b _ h => ⟨by have := h.1.1; simp; omega, h.1.cell _ _, by omega⟩) (fun _ => by simp [encId]), HRp.out.fr (fr_set _ _ _ _) (fun b _ h => ⟨by have := h.1.1; simp; omega, h.1.cell _ _, by omega⟩) (fun _ => by simp [encStr])⟩, hst', (fr_set w4 w.heap.size 15 _).size⟩)
  have HA := Lib.hid (And.intro hA (And.intro hnc hgA)); have HGS := Lib.hid (show w.heap.size + 2 ≤ gs from Nat.le_trans HSZ4.out hgs); have HHI := Lib.hid (show 0 < h.s.2.1 → gs < w4.heap.size from fun h0 => (hgA h0).2)
  clear hA hnc hgs hgA hst hst' HRd HRa HRi HRp HRs HCd HCa HCi HCp HCs HLd HLa HLi HLp HLs z4 f4 HS HSUB HB
  generalize w4.setCell ⟨w.heap.size, 15, none⟩ (.slice A4 h.s.2.1 c4) = V5 at *
  have HSH := Lib.hid (show w.heap.size + 2 ≤ w4.heap.size from Nat.le_trans HSZ4.out HBX4.out.size)
  clear HBX4 HSZ4
  generalize w4.heap.size = hi at *
  go_loopw [30] (fun i wr => ∃ k : Nat, i = .int .i64 ↑k ∧ k ≤ h.s.2.1 ∧ ClRu w ⟨h.n, (A0, h.d.2.1, c0), (A1, h.a.2.1, c1), (A2, h.i.2.1, c2), (A3, h.p.2.1, c3), (A4, h.s.2.1, c4)⟩ v subs h.s.2.1 gs hi #[.int .i32 0, .string ⟨#[]⟩, .slice none 0 0, .slice none 0 0, .int .i64 0, .int .i32 0, .int .i32 0, .bool false, .int .i64 0, .int .i64 0, .int .i64 0, .int .i32 0, .slice none 0 0, .slice none 0 0, .int .i32 0, .slice none 0 0] k wr) (fun i _ => h.s.2.1 - (RowKit.intOf i).toNat)
  case atStart => exact ⟨0, rfl, Nat.zero_le _, HR0.out⟩
  case round =>
    obtain ⟨k, rfl, hk, hR⟩ := hrel
    have hsb := HSB.out
    by_cases hlt : k < h.s.2.1
    · have hA4 := (HA.out.2.2 (by omega)).1
      have hb9 : Below wr.heap.size wr wr := Below.refl _ _
      obtain ⟨hh, hr, htk⟩ := hR.r.old k (Nat.le_refl _) hlt
      have HIHk := Lib.hid (fun (W : World) (hW : Below wr.heap.size wr W) => HIH.out k (by rw [HLEN.out]; exact hlt) hh W _ (htk.fr kTxOk (Fr.of_below (own := []) hW) (fun b hb h => ⟨by simp, h⟩)) (HOK.out k (by rw [HLEN.out]; exact hlt)))
      have HR := Lib.hid hR
      have x15 : wr.cell? ⟨w.heap.size, 15, none⟩ = some (.slice A4 h.s.2.1 c4) := hR.s.cell rfl
      have HLT := Lib.hid hlt
      subst hA4
      obtain ⟨W9, HW9⟩ : ∃ W9 : World, Hid (W9 = wr.alloc (.cells #[.int .i32 hh.n.ty, .string hh.n.path, slV hh.d, slV hh.a, .int .i64 hh.n.ow, .int .i32 hh.n.ve, .int .i32 hh.n.cr, .bool hh.n.qh, .int .i64 hh.n.qc, .int .i64 hh.n.qb, .int .i64 hh.n.si, .int .i32 hh.n.st, slV hh.i, slV hh.p, .int .i32 hh.n.co, slV hh.s] 33)) := ⟨_, Lib.hid rfl⟩
      have hbw : Below wr.heap.size wr W9 := HW9.out ▸ (Below.refl _ wr).alloc (Nat.le_refl _) _
      have hg9 : W9.heap[wr.heap.size]? = some (.cells #[.int .i32 hh.n.ty, .string hh.n.path, slV hh.d, slV hh.a, .int .i64 hh.n.ow, .int .i32 hh.n.ve, .int .i32 hh.n.cr, .bool hh.n.qh, .int .i64 hh.n.qc, .int .i64 hh.n.qb, .int .i64 hh.n.si, .int .i32 hh.n.st, slV hh.i, slV hh.p, .int .i32 hh.n.co, slV hh.s] 33 (0, 0)) := HW9.out ▸ heap_alloc_new wr _
      have HSO := Lib.hid (fun (W : World) (hW : Below W9.heap.size W9 W) => And.intro (hbw.trans (hW.mono hbw.size)) (And.intro (keep1 x15 (hbw.trans (hW.mono hbw.size))) (range_below (rangeAt_heapC (pre := []) (mid := encTx hh) (post := []) hg9 rfl rfl) hW)))
      have S0 := HSO.out W9 (Below.refl _ _)
      clear hR x15 htk hbw hg9
      go_wp2_with (first
        | (apply wpList_loadMid 33; exact rfl; exact rfl; exact rfl; assumption; exact undTx; exact rfl; exact infTx)
        | (apply wpList_storeTop 33 33; exact rfl; exact rfl; exact rfl; (first | (with_reducible rfl) | (exact sz1 _ _) | (exact sz2 _ _ _) | (exact sz3 _ _ _ _)); exact rfl; exact infTx; exact rfl; simp [Value.oneCell'])
        | fail)
      rw [← HW9.out]
      refine wp_region_held_drew (S := fun w' => w'.cell? ⟨w.heap.size, 15, none⟩ = some (.slice (some ⟨gs, 0, none⟩) h.s.2.1 c4) ∧ w'.rangeAt wr.heap.size 0 (encTx hh)) (by kernel_rfl) (HSO.out _ (drew_self _)).2 (fun hHeld => ?_)
      refine wpAnyH_take (i := 0) (v := .pointer (some ⟨w.heap.size, 15, none⟩)) rfl (by kernel_rfl) (by kernel_rfl) (by kernel_rfl) (fun _ _ _ h => h) (Or.inl ⟨by rfl, by intro w hSw; clear hSw; go_simp⟩) (by assumption) ?_
      simp only [Act.put, List.setIfInBounds_toArray, List.set_cons_zero, List.set_cons_succ]
      refine wpAnyH_take (i := 1) (v := .slice (some ⟨gs, 0, none⟩) h.s.2.1 c4) rfl (by kernel_rfl) (by kernel_rfl) (by kernel_rfl) (fun _ _ _ h => h) (Or.inl ⟨by rfl, by intro w hSw; obtain ⟨hSw, _⟩ := hSw; go_simp⟩) (by assumption) ?_
      simp only [Act.put, List.setIfInBounds_toArray, List.set_cons_zero, List.set_cons_succ]
      refine wpAnyH_take (i := 2) (v := .int .i64 ↑k) rfl (by kernel_rfl) (by kernel_rfl) (by kernel_rfl) (fun _ _ _ h => h) (Or.inl ⟨by rfl, by intro w hSw; clear hSw; go_simp⟩) (by assumption) ?_
      simp only [Act.put, List.setIfInBounds_toArray, List.set_cons_zero, List.set_cons_succ]
      refine wpAnyH_take (i := 3) (v := .agg (encTx hh).toArray) rfl (by kernel_rfl) (by kernel_rfl) (by kernel_rfl) (fun _ _ _ h => h) (yieldsIf_load_mid (by rfl) 33 _ rfl wr.heap.size 0 rfl (encTx hh) _ (fun _ h => h.2) undTx rfl infTx) (by assumption) ?_
      simp only [Act.put, List.setIfInBounds_toArray, List.set_cons_zero, List.set_cons_succ]
      refine wpAnyH_ready (rs := [4]) (by kernel_rfl) (by simp) (AllReadyH.cons rfl (fun K hK => ?_) AllReadyH.nil)
      go_simp
      refine (HIHk.out _ (HSO.out _ (drew_self _)).1).mono ?_
      rintro e w6 ⟨⟨h6, rfl, ht6⟩, hb6⟩
      dsimp only
      refine hK.out _ _ (HSO.out _ ((drew_self _).trans (hb6.mono (drew_self _).size))).2 (fun hHeld2 => ?_)
      clear hK K
      refine wpAnyH_take (i := 5) (v := .pointer (some ⟨gs, k * 16, none⟩)) rfl (by kernel_rfl) (by kernel_rfl) (by kernel_rfl) (fun _ _ _ h => h) (Or.inl ⟨by rfl, by intro w hSw; clear hSw; go_simp⟩) (by assumption) ?_
      simp only [Act.put, List.setIfInBounds_toArray, List.set_cons_zero, List.set_cons_succ]
      refine wpAnyH_ready (rs := [6]) (by kernel_rfl) (by simp) (AllReadyH.cons rfl (fun K hK => ?_) AllReadyH.nil)
      rw [if_pos (by rfl)]
      have hbA := (HSO.out _ (drew_self _)).1.trans (hb6.mono (HSO.out _ (drew_self _)).1.size)
      have hth := HR.out.r.there_row hlt
      refine wp_store_mid 33 _ _ rfl gs (k * 16) (encTx h6).toArray rfl rfl (there_below hth hbA) infTx (oneTx h6) ?_
      simp only [Act.put, List.setIfInBounds_toArray, List.set_cons_zero, List.set_cons_succ]
      have hFC := fr_setCells w6 gs (k * 16) (encTx h6)
      refine hK.out _ _ ⟨?_, ?_⟩ (fun hHeld3 => ?_)
      · have h1 := HR.out.s.s; have h2 := HGS.out
        exact (hFC.cell (p := ⟨w.heap.size, 15, none⟩) (by have := hbA.size; simp only; omega) (by simp; omega)).trans hHeld2.1
      · have h1 := HHI.out (by omega); have h2 := HR.out.hi
        exact World.rangeAt_setCells_apart hHeld2.2 _ _ _ (.inl (by omega))
      clear hK K
      refine wpAnyH_done (by kernel_rfl) ?_ _
      have HX := Lib.hid (HR.out.step hbA (hh := h6) (TrAt.fr kTxOk ht6 (Fr.refl [] w6) (fun b _ h => ⟨by simp, Nat.le_trans (HSO.out _ (drew_self _)).1.size h.1, h.2⟩)) hlt (HHI.out (by omega)) HGS.out)
      have hlk := HLT.out
      clear hFC hth hbA hHeld3 hHeld2 hHeld HR HSO HR0 ht6 hb6
      (try dsimp only [List.getElem_toArray, List.getElem_cons_succ, List.getElem_cons_zero])
      go_wp2_with fail
      go_roundw
      case rel => exact ⟨k + 1, by go_num, by omega, HX.out⟩
      case measure => show h.s.2.1 - ((↑k + 1 : Int)).toNat < h.s.2.1 - (↑k : Int).toNat; omega
    · have hkn : k = h.s.2.1 := by omega
      subst hkn
      have gC : wr.heap[w.heap.size]? = some (.cells #[.int .i32 h.n.ty, .string h.n.path, .slice A0 h.d.2.1 c0, .slice A1 h.a.2.1 c1, .int .i64 h.n.ow, .int .i32 h.n.ve, .int .i32 h.n.cr, .bool h.n.qh, .int .i64 h.n.qc, .int .i64 h.n.qb, .int .i64 h.n.si, .int .i32 h.n.st, .slice A2 h.i.2.1 c2, .slice A3 h.p.2.1 c3, .int .i32 h.n.co, .slice A4 h.s.2.1 c4] 33 (0, 0)) := hR.s.c
      have gZ := hR.s.z
      have HF := Lib.hid (fr_setRow9 wr (w.heap.size + 1) (encTx ⟨h.n, (A0, h.d.2.1, c0), (A1, h.a.2.1, c1), (A2, h.i.2.1, c2), (A3, h.p.2.1, c3), (A4, h.s.2.1, c4)⟩).toArray)
      have HTH := Lib.hid (hR.r.other kTxOk HF.out (there_fr9 hR.r.th HF.out (by have := HGS.out; simp; omega)) (by have := HGS.out; simp; omega) (fun g hg => by have := HSH.out; simp at hg; omega))
      have HR := Lib.hid hR
      clear hR HR0
      go_wp2_with (first
        | (apply wpList_loadRow 33 33; exact rfl; exact rfl; exact rfl; (first | assumption | (refine heap_under ?_; assumption) | (exact heap_s0 _ _) | (exact heap_s1 _ _ _) | (exact heap_s2 _ _ _ _) | (exact heap_s3 _ _ _ _ _) | (exact heap_under (heap_s0 _ _)) | (exact heap_under (heap_s1 _ _ _)) | (exact heap_under (heap_s2 _ _ _ _)) | (exact heap_under (heap_under (heap_s0 _ _))) | (exact heap_under (heap_under (heap_s1 _ _ _))) | (exact heap_under (heap_under (heap_under (heap_s0 _ _))))); exact undTx; exact rfl; exact infTx)
        | (apply wpList_storeRow 33 33; exact rfl; exact rfl; exact rfl; exact rfl; (first | assumption | (refine heap_under ?_; assumption) | (exact heap_s0 _ _) | (exact heap_s1 _ _ _) | (exact heap_s2 _ _ _ _) | (exact heap_s3 _ _ _ _ _) | (exact heap_under (heap_s0 _ _)) | (exact heap_under (heap_s1 _ _ _)) | (exact heap_under (heap_s2 _ _ _ _)) | (exact heap_under (heap_under (heap_s0 _ _))) | (exact heap_under (heap_under (heap_s1 _ _ _))) | (exact heap_under (heap_under (heap_under (heap_s0 _ _))))); exact infTx; exact rfl; simp [Value.oneCell'])
        | fail)
      have hTR : TxAt (wr.setRow (w.heap.size + 1) (encTx ⟨h.n, (A0, h.d.2.1, c0), (A1, h.a.2.1, c1), (A2, h.i.2.1, c2), (A3, h.p.2.1, c3), (A4, h.s.2.1, c4)⟩).toArray) (UfR (wr.setRow (w.heap.size + 1) (encTx ⟨h.n, (A0, h.d.2.1, c0), (A1, h.a.2.1, c1), (A2, h.i.2.1, c2), (A3, h.p.2.1, c3), (A4, h.s.2.1, c4)⟩).toArray) w.heap.size) ⟨h.n, (A0, h.d.2.1, c0), (A1, h.a.2.1, c1), (A2, h.i.2.1, c2), (A3, h.p.2.1, c3), (A4, h.s.2.1, c4)⟩ (.mk v subs) :=
        HTH.out.tree kTxOk (kTxOk.loc HR.out.l HF.out (fun b hlt h => ⟨by have := h.1.1; simp; omega, UfR.fr hlt h.1 HF.out (by have := h.1.1; simp; omega) (by omega)⟩)) HLEN.out rfl ⟨HA.out.1, HA.out.2.1⟩ (fun h0 => ⟨(HA.out.2.2 h0).1, by have := HGS.out; omega, HTH.out.uf h0⟩) (fun b hb => hb.less (by have := HSH.out; omega))
      exact bodyPost_cell rfl rfl (setRow_heap _ _ _ _ _ _ gZ) undTx rfl infTx rfl ⟨⟨_, rfl, hTR⟩, below_setRow HR.out.s.b (by omega) _⟩

end Go.Proofs.YthpjneobmmpbnaaGreatDoor
namespace Go.Proofs.YthpjneobmmpbnaaGreatDoor
open Go.RowKit Go.MapKept
def CloneDlU (t : DlT) (w : World) (e : Ending) (w' : World) : Prop := (∃ h', e = .returned (dlV h') ∧ DlAt w' (UfR w' w.heap.size) h' t) ∧ Below w.heap.size w w'
theorem stepsU_any (h : DlH) (d : DlT) (w : World) (R : Nat → Prop) (hd : DlAt w R h d) (hE : Env w) (hsm : DlSm 1048576 d) : Calls Tryz.prog 23 #[dlV h] w (StepsP UfR (stepsD d) w) :=
  steps13_any (RR := UfR) kUf (fun _ _ _ h => h.1) (fun t h w R ht hok => clonedU_any t h w R ht hok) h d w R hd hE hsm
set_option maxRecDepth 100000 in
set_option maxHeartbeats 20000000 in
theorem cloneDlU_any (h : DlH) (t : DlT) (w : World) (R : Nat → Prop) (ht : DlAt w R h t) (hok : DlSm 1048576 t) : Calls Tryz.prog 33 #[dlV h] w (CloneDlU t w) := by
  have HS := Lib.hid (CnSt.start w #[.int .i64 h.se, .int .i32 h.xi, .int .i64 h.zx, .int .i64 h.ti, .int .i32 h.t.n.ty, .string h.t.n.path, slV h.t.d, slV h.t.a, .int .i64 h.t.n.ow, .int .i32 h.t.n.ve, .int .i32 h.t.n.cr, .bool h.t.n.qh, .int .i64 h.t.n.qc, .int .i64 h.t.n.qb, .int .i64 h.t.n.si, .int .i32 h.t.n.st, slV h.t.i, slV h.t.p, .int .i32 h.t.n.co, slV h.t.s] #[.int .i64 0, .int .i32 0, .int .i64 0, .int .i64 0, .int .i32 0, .string ⟨#[]⟩, .slice none 0 0, .slice none 0 0, .int .i64 0, .int .i32 0, .int .i32 0, .bool false, .int .i64 0, .int .i64 0, .int .i64 0, .int .i32 0, .slice none 0 0, .slice none 0 0, .int .i32 0, .slice none 0 0] 35)
  have HC := Lib.hid (fun (W : World) (hW : Below w.heap.size w W) => clonedU_any t.t h.t W _ (TrAt.fr kTxOk (R' := R) ht.2 (Fr.of_below (own := []) hW) (fun b _ h => ⟨by simp, h⟩)) hok.2)
  have HE := Lib.hid ht.1
  have r0 : ((w.alloc (.cells #[.int .i64 h.se, .int .i32 h.xi, .int .i64 h.zx, .int .i64 h.ti, .int .i32 h.t.n.ty, .string h.t.n.path, slV h.t.d, slV h.t.a, .int .i64 h.t.n.ow, .int .i32 h.t.n.ve, .int .i32 h.t.n.cr, .bool h.t.n.qh, .int .i64 h.t.n.qc, .int .i64 h.t.n.qb, .int .i64 h.t.n.si, .int .i32 h.t.n.st, slV h.t.i, slV h.t.p, .int .i32 h.t.n.co, slV h.t.s] 35)).alloc (.cells #[.int .i64 0, .int .i32 0, .int .i64 0, .int .i64 0, .int .i32 0, .string ⟨#[]⟩, .slice none 0 0, .slice none 0 0, .int .i64 0, .int .i32 0, .int .i32 0, .bool false, .int .i64 0, .int .i64 0, .int .i64 0, .int .i32 0, .slice none 0 0, .slice none 0 0, .int .i32 0, .slice none 0 0] 35)).rangeAt w.heap.size 4 (encTx h.t) := rangeAt_heapC (pre := [.int .i64 h.se, .int .i32 h.xi, .int .i64 h.zx, .int .i64 h.ti]) (mid := encTx h.t) (post := []) HS.out.c rfl rfl
  clear ht hok
  go_enter Tryz.func33, Tryz.ntmps33
  go_wp2_with (first
    | (apply wpList_storeTop 35 35; exact rfl; exact rfl; exact rfl; (first | (with_reducible rfl) | (exact sz1 _ _) | (exact sz2 _ _ _) | (exact sz3 _ _ _ _)); exact rfl; exact infDl; exact rfl; simp [Value.oneCell'])
    | (apply wpList_loadMid 33; exact rfl; exact rfl; exact rfl; assumption; exact undTx; exact rfl; exact infTx)
    | fail)
  refine (HC.out _ HS.out.b).mono ?_
  generalize ((w.alloc (.cells #[.int .i64 h.se, .int .i32 h.xi, .int .i64 h.zx, .int .i64 h.ti, .int .i32 h.t.n.ty, .string h.t.n.path, slV h.t.d, slV h.t.a, .int .i64 h.t.n.ow, .int .i32 h.t.n.ve, .int .i32 h.t.n.cr, .bool h.t.n.qh, .int .i64 h.t.n.qc, .int .i64 h.t.n.qb, .int .i64 h.t.n.si, .int .i32 h.t.n.st, slV h.t.i, slV h.t.p, .int .i32 h.t.n.co, slV h.t.s] 35)).alloc (.cells #[.int .i64 0, .int .i32 0, .int .i64 0, .int .i64 0, .int .i32 0, .string ⟨#[]⟩, .slice none 0 0, .slice none 0 0, .int .i64 0, .int .i32 0, .int .i32 0, .bool false, .int .i64 0, .int .i64 0, .int .i64 0, .int .i32 0, .slice none 0 0, .slice none 0 0, .int .i32 0, .slice none 0 0] 35)) = V0 at *
  rintro e w1 ⟨⟨h6, rfl, ht6⟩, hb⟩
  have HB1 := Lib.hid hb
  have HSZ := Lib.hid HS.out.s
  replace HS := Lib.hid (HS.out.call hb)
  have hth : w1.there w.heap.size 4 16 := there_heap HS.out.c _ _ (Nat.le_refl _)
  have hF := fr_setCells w1 w.heap.size 4 (encTx h6)
  have gZ : (w1.setCells w.heap.size 4 (encTx h6)).heap[w.heap.size + 1]? = some (.cells #[.int .i64 0, .int .i32 0, .int .i64 0, .int .i64 0, .int .i32 0, .string ⟨#[]⟩, .slice none 0 0, .slice none 0 0, .int .i64 0, .int .i32 0, .int .i32 0, .bool false, .int .i64 0, .int .i64 0, .int .i64 0, .int .i32 0, .slice none 0 0, .slice none 0 0, .int .i32 0, .slice none 0 0] 35 (0, 0)) := (hF.block _ (by have := HS.out.s; omega) (by simp)).trans HS.out.z
  have hp : (w1.setCells w.heap.size 4 (encTx h6)).rangeAt w.heap.size 0 [.int .i64 h.se, .int .i32 h.xi, .int .i64 h.zx, .int .i64 h.ti] := World.rangeAt_setCells_apart (rangeAt_heapC (pre := []) (mid := [.int .i64 h.se, .int .i32 h.xi, .int .i64 h.zx, .int .i64 h.ti]) (post := [.int .i32 h.t.n.ty, .string h.t.n.path, slV h.t.d, slV h.t.a, .int .i64 h.t.n.ow, .int .i32 h.t.n.ve, .int .i32 h.t.n.cr, .bool h.t.n.qh, .int .i64 h.t.n.qc, .int .i64 h.t.n.qb, .int .i64 h.t.n.si, .int .i32 h.t.n.st, slV h.t.i, slV h.t.p, .int .i32 h.t.n.co, slV h.t.s]) HS.out.c rfl rfl) _ _ _ (.inr (.inl (by simp)))
  have hrr : (w1.setCells w.heap.size 4 (encTx h6)).rangeAt w.heap.size 0 (encDl ⟨h.se, h.xi, h.zx, h.ti, h6⟩) := rangeAt_join hp (World.rangeAt_setCells_same w1 w.heap.size 4 (encTx h6) hth) rfl
  have ht7 : TxAt (w1.setCells w.heap.size 4 (encTx h6)) (UfR (w1.setCells w.heap.size 4 (encTx h6)) (w.heap.size + 2)) h6 t.t := TrAt.fr kTxOk ht6 hF (fun b _ h => ⟨by have := HSZ.out; have := h.1; simp; omega, (h.cells _ _ _).less HSZ.out⟩)
  have HT7 := Lib.hid ht7; have HG := Lib.hid (And.intro (hF.below HS.out.b.size (by simp)) gZ)
  have HF := Lib.hid hF
  clear ht6 hb ht7 hp hF
  go_wp2_with (first
    | (apply wpList_storeMid 33; exact rfl; exact rfl; exact rfl; exact rfl; assumption; exact infTx; simp [Value.oneCell'])
    | (apply wpList_loadMid 35; exact rfl; exact rfl; exact rfl; assumption; exact undDl; exact rfl; exact infDl)
    | (apply wpList_storeRow 35 35; exact rfl; exact rfl; exact rfl; exact rfl; (first | assumption | (refine heap_under ?_; assumption) | (exact heap_s0 _ _) | (exact heap_s1 _ _ _) | (exact heap_s2 _ _ _ _) | (exact heap_s3 _ _ _ _ _) | (exact heap_under (heap_s0 _ _)) | (exact heap_under (heap_s1 _ _ _)) | (exact heap_under (heap_s2 _ _ _ _)) | (exact heap_under (heap_under (heap_s0 _ _))) | (exact heap_under (heap_under (heap_s1 _ _ _))) | (exact heap_under (heap_under (heap_under (heap_s0 _ _))))); exact infDl; exact rfl; simp [Value.oneCell'])
    | fail)
  have hFr := fr_setRow9 (w1.setCells w.heap.size 4 (encTx h6)) (w.heap.size + 1) (encDl ⟨h.se, h.xi, h.zx, h.ti, h6⟩).toArray
  exact bodyPost_cell rfl rfl (setRow_heap _ _ _ _ _ _ gZ) undDl rfl infDl rfl ⟨⟨⟨h.se, h.xi, h.zx, h.ti, h6⟩, rfl, ⟨HE.out, TrAt.fr kTxOk HT7.out hFr (fun b hlt h => ⟨by have := h.1; simp; omega, UfR.fr hlt h hFr (by have := h.1; simp; omega) (by omega)⟩)⟩⟩, below_setRow (HS.out.b.trans HG.out.1) (by omega) _⟩
end Go.Proofs.YthpjneobmmpbnaaGreatDoor
namespace Go.Proofs.YthpjneobmmpbnaaGreatDoor
open Go.RowKit Go.MapKept Go.Maps
/-- a value of the same kind -/
def SK (u v : Value) : Prop := u = v ∨ (∃ k x y, u = .int k x ∧ v = .int k y) ∨ ∃ s t, u = .string s ∧ v = .string t
theorem SK.refl (u : Value) : SK u u := .inl rfl
theorem SK.trans {u v z : Value} (h : SK u v) (h2 : SK v z) : SK u z := by
  rcases h with rfl | ⟨k, x, y, rfl, rfl⟩ | ⟨s, t, rfl, rfl⟩
  · exact h2
  · rcases h2 with rfl | ⟨k2, x2, y2, e, rfl⟩ | ⟨s2, t2, e, _⟩
    · exact .inr (.inl ⟨_, _, _, rfl, rfl⟩)
    · injection e with e1 _; subst e1; exact .inr (.inl ⟨_, _, _, rfl, rfl⟩)
    · cases e
  · rcases h2 with rfl | ⟨k2, x2, y2, e, _⟩ | ⟨s2, t2, e, rfl⟩
    · exact .inr (.inr ⟨_, _, rfl, rfl⟩)
    · cases e
    · exact .inr (.inr ⟨_, _, rfl, rfl⟩)
theorem SK.slice {A : Option Addr} {n c : Nat} {v : Value} (h : SK (.slice A n c) v) : v = .slice A n c := by
  rcases h with h | ⟨_, _, _, e, _⟩ | ⟨_, _, e, _⟩
  · exact h.symm
  · cases e
  · cases e
theorem SK.bool {b : Bool} {v : Value} (h : SK (.bool b) v) : v = .bool b := by
  rcases h with h | ⟨_, _, _, e, _⟩ | ⟨_, _, e, _⟩
  · exact h.symm
  · cases e
  · cases e
theorem SK.int {k : IntKind} {x : Int} {v : Value} (h : SK (.int k x) v) : ∃ y, v = .int k y := by
  rcases h with h | ⟨_, _, y, e, rfl⟩ | ⟨_, _, e, _⟩
  · exact ⟨x, h.symm⟩
  · injection e with e1 _; subst e1; exact ⟨y, rfl⟩
  · cases e
theorem SK.str {s : ByteArray} {v : Value} (h : SK (.string s) v) : ∃ t, v = .string t := by
  rcases h with h | ⟨_, _, _, e, _⟩ | ⟨_, t, e, rfl⟩
  · exact ⟨s, h.symm⟩
  · cases e
  · exact ⟨t, rfl⟩
/-- cells from B on keep their kind -/
structure Mild (B : Nat) (w w' : World) : Prop where
  b : Below B w w'
  k : ∀ (p : Addr) u, w.cell? p = some u → ∃ v, w'.cell? p = some v ∧ SK u v
  f : ∀ b, b < w.heap.size → (∀ o, w.frozen? ⟨b, o, none⟩ = false) → ∀ o, w'.frozen? ⟨b, o, none⟩ = false
section
variable {B : Nat} {w w' w2 : World}
theorem Mild.refl (B : Nat) (w : World) : Mild B w w := ⟨Below.refl _ _, fun _ u h => ⟨u, h, .refl _⟩, fun _ _ h => h⟩
theorem Mild.trans (h : Mild B w w') (h2 : Mild B w' w2) : Mild B w w2 := ⟨h.b.trans h2.b, fun p u hu => by
  obtain ⟨v, h3, h4⟩ := h.k p u hu
  obtain ⟨z, h5, h6⟩ := h2.k p v h3
  exact ⟨z, h5, h4.trans h6⟩, fun b hb hf => h2.f b (Nat.lt_of_lt_of_le hb h.b.size) (h.f b hb hf)⟩
theorem Mild.of_below (hb : Below w.heap.size w w') (hB : B ≤ w.heap.size) : Mild B w w' := ⟨hb.mono hB, fun p u hu => ⟨u, keep1 hu hb, .refl _⟩, fun b hb' hf o => by rw [hb.frozen (p := ⟨b, o, none⟩) hb']; exact hf o⟩
theorem Mild.set (w : World) {p : Addr} {u v : Value} (hp : w.cell? p = some u) (hs : SK u v) (hB : B ≤ p.block) : Mild B w (w.setCell p v) := ⟨(Below.refl B w).setCell hB v, fun q z hz => by
  by_cases e : p = q
  · subst e
    rw [hp] at hz; injection hz with hz; subst hz
    exact ⟨v, World.cell?_setCell_same w _ _ hp, hs⟩
  · exact ⟨z, (World.cell?_setCell_other w _ _ _ e).trans hz, .refl _⟩, fun b _ hf o => by rw [World.frozen?_setCell]; exact hf o⟩
theorem Mild.drew (h : Mild B w w') (hB : B ≤ w.heap.size) : Mild B w w'.drew := h.trans (.of_below (drew_self w') (Nat.le_trans hB h.b.size))
theorem Mild.slice (h : Mild B w w') {p : Addr} {A : Option Addr} {n c : Nat} (hp : w.cell? p = some (.slice A n c)) : w'.cell? p = some (.slice A n c) := by
  obtain ⟨v, h1, h2⟩ := h.k p _ hp
  rw [h1, h2.slice]
theorem Mild.uf (h : Mild B w w') {b : Nat} (hb : b < w.heap.size) (H : UfR w B b) : UfR w' B b := ⟨H.1, h.f b hb H.2⟩
end
/-- a row of cells of kinds F, in a block of R -/
def RowK (w : World) (R : Nat → Prop) (s : SlC) (k : Nat) (F : Nat → Value → Prop) : Prop := s.2.1 ≤ 1048576 ∧ (0 < s.2.1 → ∃ b off, s.1 = some ⟨b, off, none⟩ ∧ R b ∧ ∀ j, j < s.2.1 → ∀ i, i < k → ∃ u, w.cell? ⟨b, off + j * k + i, none⟩ = some u ∧ F i u)
theorem RowK.mild {w w' : World} {B : Nat} {s : SlC} {k : Nat} {F : Nat → Value → Prop} (H : RowK w (UfR w B) s k F) (hm : Mild B w w') (hF : ∀ i u v, F i u → SK u v → F i v) (hk : 0 < k) : RowK w' (UfR w' B) s k F := ⟨H.1, fun h0 => by
  obtain ⟨b, off, e, hb, hc⟩ := H.2 h0
  obtain ⟨u, hu, _⟩ := hc 0 h0 0 hk
  refine ⟨b, off, e, hm.uf (World.block_lt_of_cell? w _ hu) hb, fun j hj i hi => ?_⟩
  obtain ⟨u, hu, hf⟩ := hc j hj i hi
  obtain ⟨v, hv, hs⟩ := hm.k _ _ hu
  exact ⟨v, hv, hF i u v hf hs⟩⟩
theorem RowK.of {α : Type} [Inhabited α] {w : World} {R R' : Nat → Prop} {enc : α → List Value} {s : SlC} {k : Nat} {zs : List α} {F : Nat → Value → Prop} (H : SlR w R enc k s zs) (hs : zs.length ≤ 1048576) (hR : ∀ b, R b → R' b) (hF : ∀ x i, i < k → ∃ u, (enc x)[i]? = some u ∧ F i u) : RowK w R' s k F := ⟨by rw [← H.1]; exact hs, fun h0 => by
  obtain ⟨b, off, e, hb, hc⟩ := H.2.2 h0
  refine ⟨b, off, e, hR b hb, fun j hj i hi => ?_⟩
  obtain ⟨u, hu, hf⟩ := hF zs[j]! i hi
  exact ⟨u, hc j hj i u hu, hf⟩⟩
def fU8 (_ : Nat) (u : Value) : Prop := ∃ x, u = .int .u8 x
def fI (i : Nat) (u : Value) : Prop := i = 0 → ∃ x, u = .int .i32 x
def fS (i : Nat) (u : Value) : Prop := i = 0 → ∃ s, u = .string s
theorem fU8.sk (i : Nat) (u v : Value) (h : fU8 i u) (hs : SK u v) : fU8 i v := by obtain ⟨x, rfl⟩ := h; exact hs.int
theorem fI.sk (i : Nat) (u v : Value) (h : fI i u) (hs : SK u v) : fI i v := fun e => by obtain ⟨x, rfl⟩ := h e; exact hs.int
theorem fS.sk (i : Nat) (u v : Value) (h : fS i u) (hs : SK u v) : fS i v := fun e => by obtain ⟨x, rfl⟩ := h e; exact hs.str
/-- what spoil asks of a transaction's rows -/
def locSh (w : World) (R : Nat → Prop) (h : TxH) (_ : TxF) : Prop := RowK w R h.d 1 fU8 ∧ RowK w R h.a 3 fI ∧ RowK w R h.p 1 fS ∧ RowK w R h.i 2 fS ∧ h.s.2.1 ≤ 1048576
@[reducible] def kSh : Kd TxH TxF := ⟨encTx, 16, TxH.s, locSh⟩
abbrev Sh (w : World) (B : Nat) (h : TxH) (t : TxT) : Prop := TrAt kSh w (UfR w B) h t
def SameH (h h' : TxH) : Prop := h.d = h'.d ∧ h.a = h'.a ∧ h.i = h'.i ∧ h.p = h'.p ∧ h.s = h'.s
theorem encTx_sk (h : TxH) (f : Nat → Value) (hf : ∀ i u, (encTx h)[i]? = some u → SK u (f i)) : ∃ h', SameH h h' ∧ ∀ i u, (encTx h')[i]? = some u → u = f i := by
  obtain ⟨x0, e0⟩ := (hf 0 _ rfl).int
  obtain ⟨x1, e1⟩ := (hf 1 _ rfl).str
  have e2 := (hf 2 _ rfl).slice
  have e3 := (hf 3 _ rfl).slice
  obtain ⟨x4, e4⟩ := (hf 4 _ rfl).int
  obtain ⟨x5, e5⟩ := (hf 5 _ rfl).int
  obtain ⟨x6, e6⟩ := (hf 6 _ rfl).int
  have e7 := (hf 7 _ rfl).bool
  obtain ⟨x8, e8⟩ := (hf 8 _ rfl).int
  obtain ⟨x9, e9⟩ := (hf 9 _ rfl).int
  obtain ⟨x10, e10⟩ := (hf 10 _ rfl).int
  obtain ⟨x11, e11⟩ := (hf 11 _ rfl).int
  have e12 := (hf 12 _ rfl).slice
  have e13 := (hf 13 _ rfl).slice
  obtain ⟨x14, e14⟩ := (hf 14 _ rfl).int
  have e15 := (hf 15 _ rfl).slice
  refine ⟨⟨⟨x0, x1, x4, x5, x6, h.n.qh, x8, x9, x10, x11, x14⟩, h.d, h.a, h.i, h.p, h.s⟩, ⟨rfl, rfl, rfl, rfl, rfl⟩, fun i u hu => ?_⟩
  match i, hu with
  | 0, hu => injection hu with hu; rw [← hu, e0]
  | 1, hu => injection hu with hu; rw [← hu, e1]
  | 2, hu => injection hu with hu; rw [← hu, e2]
  | 3, hu => injection hu with hu; rw [← hu, e3]
  | 4, hu => injection hu with hu; rw [← hu, e4]
  | 5, hu => injection hu with hu; rw [← hu, e5]
  | 6, hu => injection hu with hu; rw [← hu, e6]
  | 7, hu => injection hu with hu; rw [← hu, e7]
  | 8, hu => injection hu with hu; rw [← hu, e8]
  | 9, hu => injection hu with hu; rw [← hu, e9]
  | 10, hu => injection hu with hu; rw [← hu, e10]
  | 11, hu => injection hu with hu; rw [← hu, e11]
  | 12, hu => injection hu with hu; rw [← hu, e12]
  | 13, hu => injection hu with hu; rw [← hu, e13]
  | 14, hu => injection hu with hu; rw [← hu, e14]
  | 15, hu => injection hu with hu; rw [← hu, e15]
  | i + 16, hu => simp [encTx] at hu
theorem locSh.same {w : World} {R : Nat → Prop} {h h' : TxH} {v : TxF} (H : locSh w R h v) (hs : SameH h h') : locSh w R h' v := by
  obtain ⟨e1, e2, e3, e4, e5⟩ := hs
  unfold locSh at H ⊢
  rw [← e1, ← e2, ← e3, ← e4, ← e5]; exact H
theorem locSh.mild {w w' : World} {B : Nat} {h : TxH} {v : TxF} (H : locSh w (UfR w B) h v) (hm : Mild B w w') : locSh w' (UfR w' B) h v :=
  ⟨H.1.mild hm fU8.sk (by decide), H.2.1.mild hm fI.sk (by decide), H.2.2.1.mild hm fS.sk (by decide), H.2.2.2.1.mild hm fS.sk (by decide), H.2.2.2.2⟩
theorem Sh.mild {w w' : World} {B : Nat} {h : TxH} {t : TxT} (H : Sh w B h t) (hm : Mild B w w') : ∀ h', SameH h h' → Sh w' B h' t := by
  induction H with
  | mk h v subs H b off l ls hs at_ cells _ ih =>
    intro h' hsame
    have key : ∀ j, j < h.s.2.1 → ∃ h'', SameH (H j) h'' ∧ ∀ i u, (encTx h'')[i]? = some u → w'.cell? ⟨b, off + j * 16 + i, none⟩ = some u := fun j hj => by
      have hex : ∀ i, ∃ v, ∀ u, (encTx (H j))[i]? = some u → w'.cell? ⟨b, off + j * 16 + i, none⟩ = some v ∧ SK u v := fun i => by
        cases hu : (encTx (H j))[i]? with
        | none => exact ⟨undef, fun u h => by cases h⟩
        | some u =>
          obtain ⟨v, h1, h2⟩ := hm.k _ _ (cells j hj i u hu)
          exact ⟨v, fun u' h => by injection h with h; subst h; exact ⟨h1, h2⟩⟩
      obtain ⟨h'', h1, h2⟩ := encTx_sk (H j) (fun i => (hex i).choose) fun i u hu => ((hex i).choose_spec u hu).2
      refine ⟨h'', h1, fun i u hu => ?_⟩
      have hi : i < 16 := (List.getElem?_eq_some_iff.1 hu).1
      have := (hex i).choose_spec (encTx (H j))[i] (List.getElem?_eq_getElem hi)
      rw [h2 i u hu]; exact this.1
    have hse : h'.s = h.s := hsame.2.2.2.2.symm
    refine .mk h' v subs (fun j => if hj : j < h.s.2.1 then (key j hj).choose else default) b off (locSh.same (v := v) (locSh.mild (v := v) l hm) hsame) (by show subs.length = h'.s.2.1; rw [hse]; exact ls) (by show hdOk h'.s; rw [hse]; exact hs) (fun h0 => ?_) (fun j hj i u hu => ?_) (fun j hj => ?_)
    · have h0 : 0 < h'.s.2.1 := h0
      rw [hse] at h0
      have h1 := at_ h0
      obtain ⟨u, hu⟩ : ∃ u, (encTx (H 0))[0]? = some u := ⟨_, rfl⟩
      exact ⟨by show h'.s.1 = _; rw [hse]; exact h1.1, hm.uf (World.block_lt_of_cell? w _ (cells 0 h0 0 u hu)) h1.2⟩
    · have hj : j < h'.s.2.1 := hj
      rw [hse] at hj
      simp only [hj, dite_true] at hu
      exact (key j hj).choose_spec.2 i u hu
    · have hj : j < h'.s.2.1 := hj
      rw [hse] at hj
      simp only [hj, dite_true]
      exact ih j hj _ (key j hj).choose_spec.1
theorem Sh.of {w : World} {R : Nat → Prop} {B : Nat} {h : TxH} {t : TxT} (H : TxAt w R h t) (hR : ∀ b, R b → UfR w B b) : TxOk 1048576 t → Sh w B h t := by
  induction H with
  | mk h v subs H b off l ls hs at_ cells _ ih =>
    intro hok
    have hsm := hok.top
    obtain ⟨-, -, s1, s2, s3, s4, s5, -⟩ := hsm
    have ls' : subs.length = h.s.2.1 := ls
    exact .mk h v subs H b off ⟨RowK.of l.2.1 s1 hR (fun x i hi => by
        obtain rfl : i = 0 := by omega
        exact ⟨_, rfl, _, rfl⟩), RowK.of l.2.2.1 s2 hR (fun x i hi => ⟨(encAcl x)[i], List.getElem?_eq_getElem hi, fun e => by subst e; exact ⟨_, rfl⟩⟩), RowK.of l.2.2.2.2 s4 hR (fun x i hi => by
        obtain rfl : i = 0 := by omega
        exact ⟨_, rfl, fun _ => ⟨_, rfl⟩⟩), RowK.of l.2.2.2.1 s3 hR (fun x i hi => ⟨(encId x)[i], List.getElem?_eq_getElem hi, fun e => by subst e; exact ⟨_, rfl⟩⟩), by
        have s5 : subs.length ≤ 1048576 := s5
        rw [← ls']; exact s5⟩ ls hs (fun h0 => ⟨(at_ h0).1, hR _ (at_ h0).2⟩) cells fun j hj => ih j hj (hok.subAt (by
        have hj : j < h.s.2.1 := hj
        show j < subs.length
        omega))
def SpoilP (B : Nat) (w : World) (e : Ending) (w' : World) : Prop := e = .returned (.tuple #[]) ∧ Mild B w w'
set_option linter.unusedSimpArgs false in
set_option maxRecDepth 100000 in
set_option maxHeartbeats 4000000 in
theorem spoil13_any : ∀ (t : TxT) (h : TxH) (w : World) (B : Nat), Sh w B h t → B ≤ w.heap.size → Calls Tryz.prog 32 #[txV h] w (SpoilP B w) := by
  refine Tr.ind ?_
  intro v subs ih h w B hsh hB
  have hb1 : Below w.heap.size w (w.alloc (.cells #[.int .i32 h.n.ty, .string h.n.path, slV h.d, slV h.a, .int .i64 h.n.ow, .int .i32 h.n.ve, .int .i32 h.n.cr, .bool h.n.qh, .int .i64 h.n.qc, .int .i64 h.n.qb, .int .i64 h.n.si, .int .i32 h.n.st, slV h.i, slV h.p, .int .i32 h.n.co, slV h.s] 33)) := (Below.refl _ w).alloc (Nat.le_refl _) _
  have HM0 := Lib.hid (Mild.of_below (B := B) hb1 hB)
  have HS0 := Lib.hid (Sh.mild hsh HM0.out h ⟨rfl, rfl, rfl, rfl, rfl⟩)
  have HG0 := Lib.hid (heap_s0 w (.cells #[.int .i32 h.n.ty, .string h.n.path, slV h.d, slV h.a, .int .i64 h.n.ow, .int .i32 h.n.ve, .int .i32 h.n.cr, .bool h.n.qh, .int .i64 h.n.qc, .int .i64 h.n.qb, .int .i64 h.n.si, .int .i32 h.n.st, slV h.i, slV h.p, .int .i32 h.n.co, slV h.s] 33))
  have HIH := Lib.hid ih
  have HBB := Lib.hid (show B ≤ (w.alloc (.cells #[.int .i32 h.n.ty, .string h.n.path, slV h.d, slV h.a, .int .i64 h.n.ow, .int .i32 h.n.ve, .int .i32 h.n.cr, .bool h.n.qh, .int .i64 h.n.qc, .int .i64 h.n.qb, .int .i64 h.n.si, .int .i32 h.n.st, slV h.i, slV h.p, .int .i32 h.n.co, slV h.s] 33)).heap.size from Nat.le_trans hB hb1.size)
  have HLN := Lib.hid (show subs.length = h.s.2.1 from TrAt.len hsh)
  clear hsh ih hb1
  go_enter Tryz.func32, Tryz.ntmps32
  go_upto_region 1 with fail
  change Code.wp _ _ _ _ (w.alloc (.cells #[.int .i32 h.n.ty, .string h.n.path, slV h.d, slV h.a, .int .i64 h.n.ow, .int .i32 h.n.ve, .int .i32 h.n.cr, .bool h.n.qh, .int .i64 h.n.qc, .int .i64 h.n.qb, .int .i64 h.n.si, .int .i32 h.n.st, slV h.i, slV h.p, .int .i32 h.n.co, slV h.s] 33))
  generalize w.alloc (.cells #[.int .i32 h.n.ty, .string h.n.path, slV h.d, slV h.a, .int .i64 h.n.ow, .int .i32 h.n.ve, .int .i32 h.n.cr, .bool h.n.qh, .int .i64 h.n.qc, .int .i64 h.n.qb, .int .i64 h.n.si, .int .i32 h.n.st, slV h.i, slV h.p, .int .i32 h.n.co, slV h.s] 33) = W0 at *
  have HL0 := Lib.hid (show locSh W0 (UfR W0 B) h v from TrAt.loc HS0.out)
  go_wp2_with fail
  go_loopw [2] (fun i wr => ∃ k : Nat, i = .int .i64 ↑k ∧ k ≤ h.d.2.1 ∧ Mild B W0 wr) (fun i _ => h.d.2.1 - (RowKit.intOf i).toNat)
  case atStart => exact ⟨0, rfl, Nat.zero_le _, Mild.refl _ _⟩
  case round =>
  obtain ⟨k, rfl, hk, hm⟩ := hrel
  have HM := Lib.hid hm
  clear hm
  have hc0 := HM.out.slice (p := ⟨w.heap.size, 2, none⟩) (A := h.d.1) (n := h.d.2.1) (c := h.d.2.2) (by rw [cellH HG0.out]; rfl)
  have hn0 := HL0.out.1.1
  by_cases hlt : k < h.d.2.1
  · obtain ⟨b, off, e, hb, hr⟩ := (RowK.mild HL0.out.1 HM.out fU8.sk (by decide)).2 (by omega)
    obtain ⟨u, hx, hu⟩ := hr k hlt 0 (by decide)
    have hf := hb.2 (off + k * 1 + 0)
    obtain ⟨x, rfl⟩ := hu
    rw [Nat.mul_one, Nat.add_zero] at hf hx
    have hc : wr.cell? ⟨w.heap.size, 2, none⟩ = some (.slice (some ⟨b, off, none⟩) h.d.2.1 h.d.2.2) := by rw [hc0, ← e]
    have hki : (k : Int) < (h.d.2.1 : Int) := by omega
    have hk0 : (0 : Int) ≤ (k : Int) := by omega
    have HK := Lib.hid hlt
    have HBK := Lib.hid (show B ≤ b from hb.1)
    have HMS := Lib.hid (fun (v : Value) (hv : SK (.int .u8 x) v) => HM.out.trans (Mild.set wr hx hv HBK.out))
    clear e hc0 hr hb
    go_wp2_with fail
    go_region
    go_wp2_with fail
    go_roundw
    case rel => exact ⟨k + 1, by go_num, by have := HK.out; omega, (HMS.out _ (.inr (.inl ⟨_, _, _, rfl, rfl⟩))).drew HBB.out⟩
    case measure => have := HK.out; show h.d.2.1 - ((↑k + 1 : Int)).toNat < h.d.2.1 - (↑k : Int).toNat; omega
  · obtain rfl : k = h.d.2.1 := by omega
    clear hlt
    go_wp2_with fail
    go_loopw [3] (fun i wr => ∃ k : Nat, i = .int .i64 ↑k ∧ k ≤ h.a.2.1 ∧ Mild B W0 wr) (fun i _ => h.a.2.1 - (RowKit.intOf i).toNat)
    case atStart => exact ⟨0, rfl, Nat.zero_le _, HM.out⟩
    case round =>
    clear HM; obtain ⟨k, rfl, hk, hm⟩ := hrel
    have HM := Lib.hid hm
    clear hm
    have hc0 := HM.out.slice (p := ⟨w.heap.size, 3, none⟩) (A := h.a.1) (n := h.a.2.1) (c := h.a.2.2) (by rw [cellH HG0.out]; rfl)
    have hn0 := HL0.out.2.1.1
    by_cases hlt : k < h.a.2.1
    · obtain ⟨b, off, e, hb, hr⟩ := (RowK.mild HL0.out.2.1 HM.out fI.sk (by decide)).2 (by omega)
      obtain ⟨u, hx, hu⟩ := hr k hlt 0 (by decide)
      have hf := hb.2 (off + k * 3 + 0)
      obtain ⟨x, rfl⟩ := hu rfl
      rw [Nat.add_zero] at hf hx
      have hc : wr.cell? ⟨w.heap.size, 3, none⟩ = some (.slice (some ⟨b, off, none⟩) h.a.2.1 h.a.2.2) := by rw [hc0, ← e]
      have hki : (k : Int) < (h.a.2.1 : Int) := by omega
      have hk0 : (0 : Int) ≤ (k : Int) := by omega
      have HK := Lib.hid hlt
      have HBK := Lib.hid (show B ≤ b from hb.1)
      have HMS := Lib.hid (fun (v : Value) (hv : SK (.int .i32 x) v) => HM.out.trans (Mild.set wr hx hv HBK.out))
      clear e hc0 hr hb hu
      go_wp2_with fail
      go_roundw
      case rel => exact ⟨k + 1, by go_num, by have := HK.out; omega, HMS.out _ (.inr (.inl ⟨_, _, _, rfl, rfl⟩))⟩
      case measure => have := HK.out; show h.a.2.1 - ((↑k + 1 : Int)).toNat < h.a.2.1 - (↑k : Int).toNat; omega
    · obtain rfl : k = h.a.2.1 := by omega
      clear hlt
      go_wp2_with fail
      go_loopw [4] (fun i wr => ∃ k : Nat, i = .int .i64 ↑k ∧ k ≤ h.p.2.1 ∧ Mild B W0 wr) (fun i _ => h.p.2.1 - (RowKit.intOf i).toNat)
      case atStart => exact ⟨0, rfl, Nat.zero_le _, HM.out⟩
      case round =>
      clear HM; obtain ⟨k, rfl, hk, hm⟩ := hrel
      have HM := Lib.hid hm
      clear hm
      have hc0 := HM.out.slice (p := ⟨w.heap.size, 13, none⟩) (A := h.p.1) (n := h.p.2.1) (c := h.p.2.2) (by rw [cellH HG0.out]; rfl)
      have hn0 := HL0.out.2.2.1.1
      by_cases hlt : k < h.p.2.1
      · obtain ⟨b, off, e, hb, hr⟩ := (RowK.mild HL0.out.2.2.1 HM.out fS.sk (by decide)).2 (by omega)
        obtain ⟨u, hx, hu⟩ := hr k hlt 0 (by decide)
        have hf := hb.2 (off + k * 1 + 0)
        obtain ⟨x, rfl⟩ := hu rfl
        rw [Nat.mul_one, Nat.add_zero] at hf hx
        have hc : wr.cell? ⟨w.heap.size, 13, none⟩ = some (.slice (some ⟨b, off, none⟩) h.p.2.1 h.p.2.2) := by rw [hc0, ← e]
        have hki : (k : Int) < (h.p.2.1 : Int) := by omega
        have hk0 : (0 : Int) ≤ (k : Int) := by omega
        have HK := Lib.hid hlt
        have HBK := Lib.hid (show B ≤ b from hb.1)
        have HMS := Lib.hid (fun (v : Value) (hv : SK (.string x) v) => HM.out.trans (Mild.set wr hx hv HBK.out))
        clear e hc0 hr hb hu
        go_wp2_with fail
        go_roundw
        case rel => exact ⟨k + 1, by go_num, by have := HK.out; omega, HMS.out _ (.inr (.inr ⟨_, _, rfl, rfl⟩))⟩
        case measure => have := HK.out; show h.p.2.1 - ((↑k + 1 : Int)).toNat < h.p.2.1 - (↑k : Int).toNat; omega
      · obtain rfl : k = h.p.2.1 := by omega
        clear hlt
        go_wp2_with fail
        go_loopw [5] (fun i wr => ∃ k : Nat, i = .int .i64 ↑k ∧ k ≤ h.i.2.1 ∧ Mild B W0 wr) (fun i _ => h.i.2.1 - (RowKit.intOf i).toNat)
        case atStart => exact ⟨0, rfl, Nat.zero_le _, HM.out⟩
        case round =>
        clear HM; obtain ⟨k, rfl, hk, hm⟩ := hrel
        have HM := Lib.hid hm
        clear hm
        have hc0 := HM.out.slice (p := ⟨w.heap.size, 12, none⟩) (A := h.i.1) (n := h.i.2.1) (c := h.i.2.2) (by rw [cellH HG0.out]; rfl)
        have hn0 := HL0.out.2.2.2.1.1
        by_cases hlt : k < h.i.2.1
        · obtain ⟨b, off, e, hb, hr⟩ := (RowK.mild HL0.out.2.2.2.1 HM.out fS.sk (by decide)).2 (by omega)
          obtain ⟨u, hx, hu⟩ := hr k hlt 0 (by decide)
          have hf := hb.2 (off + k * 2 + 0)
          obtain ⟨x, rfl⟩ := hu rfl
          rw [Nat.add_zero] at hf hx
          have hc : wr.cell? ⟨w.heap.size, 12, none⟩ = some (.slice (some ⟨b, off, none⟩) h.i.2.1 h.i.2.2) := by rw [hc0, ← e]
          have hki : (k : Int) < (h.i.2.1 : Int) := by omega
          have hk0 : (0 : Int) ≤ (k : Int) := by omega
          have HK := Lib.hid hlt
          have HBK := Lib.hid (show B ≤ b from hb.1)
          have HMS := Lib.hid (fun (v : Value) (hv : SK (.string x) v) => HM.out.trans (Mild.set wr hx hv HBK.out))
          clear e hc0 hr hb hu
          go_wp2_with fail
          go_roundw
          case rel => exact ⟨k + 1, by go_num, by have := HK.out; omega, HMS.out _ (.inr (.inr ⟨_, _, rfl, rfl⟩))⟩
          case measure => have := HK.out; show h.i.2.1 - ((↑k + 1 : Int)).toNat < h.i.2.1 - (↑k : Int).toNat; omega
        · obtain rfl : k = h.i.2.1 := by omega
          clear hlt
          go_wp2_with fail
          go_loopw [6] (fun i wr => ∃ k : Nat, i = .int .i64 ↑k ∧ k ≤ h.s.2.1 ∧ Mild B W0 wr) (fun i _ => h.s.2.1 - (RowKit.intOf i).toNat)
          case atStart => exact ⟨0, rfl, Nat.zero_le _, HM.out⟩
          case round =>
          clear HM; obtain ⟨k, rfl, hk, hm⟩ := hrel
          have HM := Lib.hid hm
          clear hm
          have hc0 := HM.out.slice (p := ⟨w.heap.size, 15, none⟩) (A := h.s.1) (n := h.s.2.1) (c := h.s.2.2) (by rw [cellH HG0.out]; rfl)
          have hn0 := HL0.out.2.2.2.2
          by_cases hlt : k < h.s.2.1
          · have hsw := Sh.mild HS0.out HM.out h ⟨rfl, rfl, rfl, rfl, rfl⟩
            obtain ⟨L, hL, hsub⟩ := TrAt.subs_at hsw
            obtain ⟨b, off, e, hb, hr⟩ := hL.2.2 (show 0 < h.s.2.1 by omega)
            have e : h.s.1 = some ⟨b, off, none⟩ := e
            have hrg : wr.rangeAt b (off + k * 16) (encTx L[k]!) := fun i u hu => hr k hlt i u hu
            have hc : wr.cell? ⟨w.heap.size, 15, none⟩ = some (.slice (some ⟨b, off, none⟩) h.s.2.1 h.s.2.2) := by rw [hc0, ← e]
            have hpc : wr.cell? ⟨b, off + k * 16 + 1, none⟩ = some (.string L[k]!.n.path) := hr k hlt 1 _ rfl
            have hki : (k : Int) < (h.s.2.1 : Int) := by omega
            have hk0 : (0 : Int) ≤ (k : Int) := by omega
            have HK := Lib.hid hlt
            have HBK := Lib.hid hb
            have HBW := Lib.hid (show B ≤ wr.heap.size from Nat.le_trans HBB.out HM.out.b.size)
            have HSP := Lib.hid (HIH.out k (by rw [HLN.out]; exact hlt) L[k]! wr B (hsub k hlt) HBW.out)
            have HPC := Lib.hid hpc; have HCC := Lib.hid hc
            generalize L[k]! = hk9 at *
            clear e hc0 hr hb hsw hL hsub hpc
            go_wp2_with (first | (apply wpList_loadMid 33; exact rfl; exact rfl; exact rfl; exact hrg; exact undTx; exact rfl; exact infTx) | fail)
            refine HSP.out.mono ?_
            rintro e w1 ⟨rfl, hm1⟩
            have hc1 := hm1.slice HCC.out
            obtain ⟨u, hx, hu⟩ := hm1.k _ _ HPC.out
            obtain ⟨y, rfl⟩ := hu.str
            have hf := (hm1.uf (World.block_lt_of_cell? wr _ HPC.out) HBK.out).2 (off + k * 16 + 1)
            have HMS := Lib.hid (fun (v : Value) (hv : SK (.string y) v) => (HM.out.trans hm1).trans (Mild.set w1 hx hv HBK.out.1))
            clear hu hm1 hc hrg HSP
            go_wp2_with fail
            go_roundw
            case rel => exact ⟨k + 1, by go_num, by have := HK.out; omega, HMS.out _ (.inr (.inr ⟨_, _, rfl, rfl⟩))⟩
            case measure => have := HK.out; show h.s.2.1 - ((↑k + 1 : Int)).toNat < h.s.2.1 - (↑k : Int).toNat; omega
          · obtain rfl : k = h.s.2.1 := by omega
            clear hlt
            go_wp2_with fail
            refine bodyPost_ret (results_none rfl _ _ _) rfl ?_
            exact ⟨rfl, HM0.out.trans HM.out⟩
end Go.Proofs.YthpjneobmmpbnaaGreatDoor
