/- The walk of delta.plain: all fields but the parts are the same. -/
import Derived.Test.YthpjneobmmpbnaaGreatDoorGPln1
import Derived.Test.YthpjneobmmpbnaaGreatDoorGPln2
import Derived.Test.YthpjneobmmpbnaaGreatDoorGPln3
import Derived.Test.YthpjneobmmpbnaaGreatDoorGPln4
import Derived.Test.YthpjneobmmpbnaaGreatDoorGRf3
import Derived.Test.YthpjneobmmpbnaaGreatDoorGTxnP
import Derived.Test.YthpjneobmmpbnaaGreatDoorGPlnD
import Derived.Deep.MidRow
import Derived.Deep.Upon
namespace Go.Proofs.YthpjneobmmpbnaaGreatDoor
open Go.RowKit Go.MapKept
theorem Sl.heapEq {α : Type} [Inhabited α] {w w' : World} {B k n : Nat} {enc : α → List Value} {A : Option Addr} {zs : List α} (h : Sl w B enc k A n zs) (e : w'.heap = w.heap) : Sl w' B enc k A n zs :=
  h.keep fun p _ => by simp only [World.cell?, e]
theorem plC_of {w : World} {R R' : Nat → Prop} {h k : TxH} {v u : TxF} (hv : locTx w R h v) (hu : locTx w R' k u) (m : Nat) (hm : m ≤ 281474976710656) (s1 : v.acl.length ≤ m ∧ v.ids.length ≤ m ∧ v.paths.length ≤ m) (s2 : u.acl.length ≤ m ∧ u.ids.length ≤ m ∧ u.paths.length ≤ m) (W : World) (hW : Below w.heap.size w W) :
    PlC W h k (decide (v.data = u.data)) (decide (v.acl = u.acl)) (decide (v.ids = u.ids)) (decide (v.paths = u.paths)) := by
  obtain ⟨_, v1, v2, v3, v4⟩ := hv
  obtain ⟨_, u1, u2, u3, u4⟩ := hu
  have a1 := (v1.sl (fun _ => by simp [enc8])).below hW; have b1 := (u1.sl (fun _ => by simp [enc8])).below hW
  have a2 := (v2.sl (fun _ => by simp [encAcl])).below hW; have b2 := (u2.sl (fun _ => by simp [encAcl])).below hW
  have a3 := (v3.sl (fun _ => by simp [encId])).below hW; have b3 := (u3.sl (fun _ => by simp [encId])).below hW
  have a4 := (v4.sl (fun _ => by simp [encStr])).below hW; have b4 := (u4.sl (fun _ => by simp [encStr])).below hW
  have l2 := v2.len; have l3 := v3.len; have l4 := v4.len; have m2 := u2.len; have m3 := u3.len; have m4 := u4.len
  exact ⟨fun X e => bytesEqual_any _ _ _ _ _ _ _ _ X _ (a1.heapEq e) (b1.heapEq e) v1.hd.1 u1.hd.1,
    fun X e => slEqual_any _ _ _ _ _ _ _ _ X _ (a2.heapEq e) (b2.heapEq e) (by omega) (by omega),
    fun X e => slEqualId_any _ _ _ _ _ _ _ _ X _ (a3.heapEq e) (b3.heapEq e) (by omega) (by omega),
    fun X e => slEqualStr_any _ _ _ _ _ _ _ _ X _ (a4.heapEq e) (b4.heapEq e) (by omega) (by omega)⟩
theorem plain_all (h k : TxH) (bd ba bi bp : Bool) (w : World) (HC : PlC ((w.alloc (objTx h)).alloc (objTx k)) h k bd ba bi bp) : Calls Tryz.prog 134 #[txV h, txV k] w (PlR w (plB h k bd ba bi bp)) := by
  by_cases e0 : h.n.ty = k.n.ty
  case neg => exact plain_0 h k bd ba bi bp w (Lib.hid HC) e0
  by_cases e1 : h.n.path = k.n.path
  case neg => exact plain_1 h k bd ba bi bp w (Lib.hid HC) e0 e1
  cases bd with
  | false => exact plain_2 h k ba bi bp w (Lib.hid HC) e0 e1
  | true =>
  cases ba with
  | false => exact plain_3 h k bi bp w (Lib.hid HC) e0 e1
  | true =>
  by_cases e4 : h.n.ow = k.n.ow
  case neg => exact plain_4 h k bi bp w (Lib.hid HC) e0 e1 e4
  by_cases e5 : h.n.ve = k.n.ve
  case neg => exact plain_5 h k bi bp w (Lib.hid HC) e0 e1 e4 e5
  by_cases e6 : h.n.cr = k.n.cr
  case neg => exact plain_6 h k bi bp w (Lib.hid HC) e0 e1 e4 e5 e6
  by_cases e7 : (h.n.qh, h.n.qc, h.n.qb) = (k.n.qh, k.n.qc, k.n.qb)
  case neg => exact plain_7 h k bi bp w (Lib.hid HC) e0 e1 e4 e5 e6 e7
  by_cases e8 : h.n.si = k.n.si
  case neg => exact plain_8 h k bi bp w (Lib.hid HC) e0 e1 e4 e5 e6 e7 e8
  by_cases e9 : h.n.st = k.n.st
  case neg => exact plain_9 h k bi bp w (Lib.hid HC) e0 e1 e4 e5 e6 e7 e8 e9
  cases bi with
  | false => exact plain_10 h k bp w (Lib.hid HC) e0 e1 e4 e5 e6 e7 e8 e9
  | true =>
  cases bp with
  | false => exact plain_11 h k  w (Lib.hid HC) e0 e1 e4 e5 e6 e7 e8 e9
  | true =>
  by_cases e12 : h.n.co = k.n.co
  case neg => exact plain_12 h k  w (Lib.hid HC) e0 e1 e4 e5 e6 e7 e8 e9 e12
  exact plain_13 h k w (Lib.hid HC) e0 e1 e4 e5 e6 e7 e8 e9 e12
theorem TxF.eq_iff (v u : TxF) : v = u ↔ v.n = u.n ∧ v.data = u.data ∧ v.acl = u.acl ∧ v.ids = u.ids ∧ v.paths = u.paths := by
  constructor
  · intro e; rw [e]; simp
  · intro ⟨a, b, c, d, e⟩; cases v; cases u; simp_all
theorem TxN.eq_iff (v u : TxN) : v = u ↔ v.ty = u.ty ∧ v.path = u.path ∧ v.ow = u.ow ∧ v.ve = u.ve ∧ v.cr = u.cr ∧ v.qh = u.qh ∧ v.qc = u.qc ∧ v.qb = u.qb ∧ v.si = u.si ∧ v.st = u.st ∧ v.co = u.co := by
  constructor
  · intro e; rw [e]; simp
  · intro ⟨a, b, c, d, e, f, g, h, i, j, k⟩; cases v; cases u; simp_all
open Classical in
theorem plain_any (h k : TxH) (v u : TxF) (w : World) (R R' : Nat → Prop) (hv : locTx w R h v) (hu : locTx w R' k u) (m : Nat) (hm : m ≤ 281474976710656) (s1 : v.acl.length ≤ m ∧ v.ids.length ≤ m ∧ v.paths.length ≤ m) (s2 : u.acl.length ≤ m ∧ u.ids.length ≤ m ∧ u.paths.length ≤ m) :
    Calls Tryz.prog 134 #[txV h, txV k] w (PlR w (decide (v = u))) := by
  have hb := plain_all h k _ _ _ _ w (plC_of hv hu m hm s1 s2 _ (two_below w (objTx h) (objTx k)))
  refine hb.mono ?_
  rintro e w' ⟨rfl, h2⟩
  refine PlR.mk h2 ?_
  rw [Bool.eq_iff_iff, decide_eq_true_iff, TxF.eq_iff, TxN.eq_iff, hv.1, hu.1]
  unfold plB
  simp only [Bool.and_eq_true, decide_eq_true_eq, Prod.mk.injEq]
  constructor
  · rintro ⟨⟨⟨⟨⟨⟨⟨⟨⟨⟨⟨⟨a1, a2⟩, a3⟩, a4⟩, a5⟩, a6⟩, a7⟩, a8, a9, a10⟩, a11⟩, a12⟩, a13⟩, a14⟩, a15⟩
    exact ⟨⟨a1, a2, a5, a6, a7, a8, a9, a10, a11, a12, a15⟩, a3, a4, a13, a14⟩
  · rintro ⟨⟨a1, a2, a5, a6, a7, a8, a9, a10, a11, a12, a15⟩, a3, a4, a13, a14⟩
    exact ⟨⟨⟨⟨⟨⟨⟨⟨⟨⟨⟨⟨a1, a2⟩, a3⟩, a4⟩, a5⟩, a6⟩, a7⟩, a8, a9, a10⟩, a11⟩, a12⟩, a13⟩, a14⟩, a15⟩
end Go.Proofs.YthpjneobmmpbnaaGreatDoor
namespace Go.Proofs.YthpjneobmmpbnaaGreatDoor
open Go.RowKit Go.MapKept
section
variable {α : Type} [Inhabited α] {w w' : World} {R R' : Nat → Prop} {k : Nat} {enc : α → List Value} {h : SlC} {zs : List α}
theorem SlR.fr {own : List Nat} (H : SlR w R enc k h zs) (hf : Fr own w w') (hR : ∀ b, b < w.heap.size → R b → b ∉ own ∧ R' b) (hk0 : ∀ x, 0 < (enc x).length) : SlR w' R' enc k h zs :=
  ⟨H.1, H.2.1, fun hn => by
    obtain ⟨b, off, e, hb, hc⟩ := H.2.2 hn
    have hlt : b < w.heap.size := by
      have := hc 0 hn 0 _ (List.getElem?_eq_getElem (hk0 zs[0]!))
      exact World.block_lt_of_cell? _ _ this
    exact ⟨b, off, e, (hR b hlt hb).2, fun j hj i u hu => (hf.cell (p := ⟨b, off + j * k + i, none⟩) hlt (hR b hlt hb).1).trans (hc j hj i u hu)⟩⟩
end
section
variable {α β : Type} [Inhabited β] {K : Kd α β} {w w' : World} {R R' : Nat → Prop} {h : α} {t : Tr β}
/-- what a kind of values must keep -/
structure KdOk {α β : Type} (K : Kd α β) : Prop where
  len : ∀ x, (K.enc x).length = K.k
  pos : 0 < K.k
  one : ∀ x u, u ∈ K.enc x → u.oneCell' = true
  loc : ∀ {own : List Nat} {w w' : World} {R R' : Nat → Prop} {h : α} {v : β}, K.loc w R h v → Fr own w w' → (∀ b, b < w.heap.size → R b → b ∉ own ∧ R' b) → K.loc w' R' h v
theorem TrAt.fr (hK : KdOk K) {own : List Nat} (H : TrAt K w R h t) (hf : Fr own w w') (hR : ∀ b, b < w.heap.size → R b → b ∉ own ∧ R' b) : TrAt K w' R' h t := by
  induction H with
  | mk h v subs H b off l ls hs at_ cells _ ih =>
    have hlt : ∀ j, j < (K.sub h).2.1 → b < w.heap.size := fun j hj =>
      World.block_lt_of_cell? _ _ (cells j hj 0 _ (List.getElem?_eq_getElem (by rw [hK.len]; exact hK.pos)))
    refine .mk h v subs H b off (hK.loc l hf hR) ls hs (fun h0 => ⟨(at_ h0).1, (hR b (hlt 0 h0) (at_ h0).2).2⟩) (fun j hj i u hu => ?_) ih
    exact (hf.cell (p := ⟨b, off + j * K.k + i, none⟩) (hlt j hj) (hR b (hlt j hj) (at_ (by omega)).2).1).trans (cells j hj i u hu)
end
theorem fr_setCells (w : World) (b o : Nat) (vs : List Value) : Fr [b] w (w.setCells b o vs) := by
  induction vs generalizing o w with
  | nil => exact Fr.refl _ _
  | cons v r ih =>
    rw [World.setCells]
    exact (fr_set w b o v).trans (ih _ _) (fun g hg => .inl hg)
theorem there_below {w w' : World} {b o n : Nat} (h : w.there b o n) (hb : Below w.heap.size w w') : w'.there b o n := fun j hj => by
  obtain ⟨h1, h2⟩ := h j hj
  obtain ⟨u, hu⟩ := Option.isSome_iff_exists.1 h1
  have hlt : b < w.heap.size := World.block_lt_of_cell? w _ hu
  exact ⟨by rw [hb.cell (p := ⟨b, o + j, none⟩) hlt]; exact h1, by rw [hb.frozen (p := ⟨b, o + j, none⟩) hlt]; exact h2⟩
theorem range_below {w w' : World} {b o : Nat} {cs : List Value} (h : w.rangeAt b o cs) (hb : Below w.heap.size w w') : w'.rangeAt b o cs := fun j v hv => by
  have hu := h j v hv
  rw [hb.cell (p := ⟨b, o + j, none⟩) (World.block_lt_of_cell? w _ hu)]; exact hu
/-- a row of n trees in block gs: the first k are new (blocks from hi on), the others are as they were (blocks below B) -/
structure ClSt {α β : Type} [Inhabited β] (K : Kd α β) (B hi gs n : Nat) (subs : List (Tr β)) (k : Nat) (w : World) : Prop where
  th : w.there gs 0 (n * K.k)
  old : ∀ j, k ≤ j → j < n → ∃ h, w.rangeAt gs (j * K.k) (K.enc h) ∧ TrAt K w (· < B) h subs[j]!
  new : ∀ j, j < k → ∃ h, w.rangeAt gs (j * K.k) (K.enc h) ∧ TrAt K w (hi ≤ ·) h subs[j]!
section
variable {α β : Type} [Inhabited β] {K : Kd α β} {B hi gs n k : Nat} {subs : List (Tr β)} {w w1 w' : World}
theorem ClSt.below (hK : KdOk K) (H : ClSt K B hi gs n subs k w) (hb : Below w.heap.size w w') : ClSt K B hi gs n subs k w' :=
  ⟨there_below H.th hb, fun j h1 h2 => by
    obtain ⟨h, hr, ht⟩ := H.old j h1 h2
    exact ⟨h, range_below hr hb, ht.fr hK (Fr.of_below (own := []) hb) (fun _ _ h => ⟨by simp, h⟩)⟩, fun j h1 => by
    obtain ⟨h, hr, ht⟩ := H.new j h1
    exact ⟨h, range_below hr hb, ht.fr hK (Fr.of_below (own := []) hb) (fun _ _ h => ⟨by simp, h⟩)⟩⟩
theorem ClSt.other (hK : KdOk K) (H : ClSt K B hi gs n subs k w) {own : List Nat} (hf : Fr own w w') (hth : w'.there gs 0 (n * K.k)) (hgs : gs ∉ own) (hB : ∀ g ∈ own, B ≤ g ∧ g < hi) : ClSt K B hi gs n subs k w' := by
  have hr : ∀ {o : Nat} {cs : List Value}, w.rangeAt gs o cs → w'.rangeAt gs o cs := fun h j v hv => by
    have hu := h j v hv
    rw [hf.cell (p := ⟨gs, _ + j, none⟩) (World.block_lt_of_cell? w _ hu) hgs]; exact hu
  refine ⟨hth, fun j h1 h2 => ?_, fun j h1 => ?_⟩
  · obtain ⟨h, h3, ht⟩ := H.old j h1 h2
    exact ⟨h, hr h3, ht.fr hK hf (fun b _ h => ⟨fun hm => by have := (hB b hm).1; omega, h⟩)⟩
  · obtain ⟨h, h3, ht⟩ := H.new j h1
    exact ⟨h, hr h3, ht.fr hK hf (fun b _ h => ⟨fun hm => by have := (hB b hm).2; omega, h⟩)⟩
theorem ClSt.there_row (H : ClSt K B hi gs n subs k w) (hk : k < n) : w.there gs (k * K.k) K.k := fun j hj => by
  have h1 := Nat.mul_le_mul_right K.k (show k + 1 ≤ n from hk)
  rw [Nat.add_mul, Nat.one_mul] at h1
  have := H.th (k * K.k + j) (by omega)
  rwa [Nat.zero_add] at this
/-- one element more is new -/
theorem ClSt.step (hK : KdOk K) (H : ClSt K B hi gs n subs k w1) (hb : Below w1.heap.size w1 w) {h' : α} (ht : TrAt K w (w1.heap.size ≤ ·) h' subs[k]!) (hk : k < n) (hgs : gs < hi) (hi1 : hi ≤ w1.heap.size) (hB : B ≤ gs) : ClSt K B hi gs n subs (k + 1) (w.setCells gs (k * K.k) (K.enc h')) := by
  have H := H.below hK hb
  have hthr := H.there_row hk
  refine ⟨World.there_setCells H.th _ _ _, fun j h1 h2 => ?_, fun j h1 => ?_⟩
  · obtain ⟨h, h3, ht⟩ := H.old j (by omega) h2
    have hm := Nat.mul_le_mul_right K.k (show k + 1 ≤ j from h1)
    rw [Nat.add_mul, Nat.one_mul] at hm
    exact ⟨h, World.rangeAt_setCells_apart h3 _ _ _ (.inr (.inr (by rw [hK.len]; exact hm))), ht.fr hK (fr_setCells _ _ _ _) (fun b _ h => ⟨by simp; omega, h⟩)⟩
  · by_cases e : j = k
    · subst e
      exact ⟨h', World.rangeAt_setCells_same _ _ _ _ (by rw [hK.len]; exact hthr), ht.fr hK (fr_setCells _ _ _ _) (fun b _ h => ⟨by simp; omega, by omega⟩)⟩
    · obtain ⟨h, h3, ht⟩ := H.new j (by omega)
      have hm := Nat.mul_le_mul_right K.k (show j + 1 ≤ k by omega)
      rw [Nat.add_mul, Nat.one_mul] at hm
      exact ⟨h, World.rangeAt_setCells_apart h3 _ _ _ (.inr (.inl (by rw [hK.len]; exact hm))), ht.fr hK (fr_setCells _ _ _ _) (fun b _ h => ⟨by simp; omega, h⟩)⟩
/-- all are new: the tree -/
theorem ClSt.tree [Inhabited α] (H : ClSt K B hi gs n subs n w) {h : α} {v : β} {R : Nat → Prop} (hK : KdOk K) (hl : K.loc w R h v) (hlen : subs.length = n) (hs : (K.sub h).2.1 = n) (hd : hdOk (K.sub h)) (ha : 0 < n → (K.sub h).1 = some ⟨gs, 0, none⟩ ∧ R gs) (hR : ∀ b, hi ≤ b → R b) : TrAt K w R h (.mk v subs) := by
  refine .mk h v subs (fun j => if hj : j < n then (H.new j hj).choose else default) gs 0 hl (by omega) hd (fun h0 => ha (by omega)) (fun j hj i u hu => ?_) (fun j hj => ?_)
  · have hj' : j < n := by omega
    simp only [hj', dite_true] at hu
    have := (H.new j hj').choose_spec.1 i u hu
    rwa [Nat.zero_add]
  · have hj' : j < n := by omega
    simp only [hj', dite_true]
    exact (H.new j hj').choose_spec.2.fr hK (Fr.refl [] w) (fun b _ h => ⟨by simp, hR b h⟩)
/-- the row as slices.Clone gives it -/
theorem ClSt.start [Inhabited α] (hK : KdOk K) {base c : Nat} {T : TypeId} {A : Option Addr} {L : List α} (hr : w.ownsRow base T K.k (.slice A n c) n (L.flatMap K.enc)) (hl : L.length = n) (ht : ∀ j, j < n → TrAt K w (· < B) L[j]! subs[j]!) :
    (A = none → n = 0 ∧ c = 0) ∧ n ≤ c ∧ ∃ gs, base ≤ gs ∧ (0 < n → A = some ⟨gs, 0, none⟩ ∧ gs < w.heap.size) ∧ ClSt K B w.heap.size gs n subs 0 w := by
  rcases hr.2 with ⟨e, e2⟩ | ⟨g, cap, cur, e1, h2, h3, h4, h5, h6, h7⟩
  · injection e with e e3 e4
    subst e e2 e4
    exact ⟨fun _ => ⟨rfl, rfl⟩, Nat.le_refl _, base, Nat.le_refl _, fun h => absurd h (by omega), ⟨fun j hj => absurd hj (by omega), fun j _ hj => absurd hj (by omega), fun j hj => absurd hj (by omega)⟩⟩
  · injection e1 with e1 e3 e4
    subst e1 e4
    have hcs : n * K.k ≤ cur.size := by rw [h6]; exact Nat.mul_le_mul_right _ h4
    refine ⟨fun h => (by cases h), h4, g, h2, fun _ => ⟨rfl, (Array.getElem?_eq_some_iff.1 h3).1⟩, ⟨fun j hj => ?_, fun j _ hj => ?_, fun j hj => absurd hj (by omega)⟩⟩
    · rw [Nat.zero_add]
      have hj' : j < cur.size := by omega
      refine ⟨?_, by simp [World.frozen?, h3]⟩
      have : w.cell? ⟨g, j, none⟩ = cur[j]? := by simp [World.cell?, h3]
      rw [this, Array.getElem?_eq_getElem hj']; rfl
    · refine ⟨L[j]!, fun i u hu => ?_, ht j hj⟩
      have hf := flat_at hK.len L j i u (by omega) hu
      rw [← h7] at hf
      have hc : w.cell? ⟨g, j * K.k + i, none⟩ = cur[j * K.k + i]? := by simp [World.cell?, h3]
      rw [hc]
      rw [List.getElem?_take] at hf
      split at hf
      · simpa using hf
      · cases hf
end
end Go.Proofs.YthpjneobmmpbnaaGreatDoor
