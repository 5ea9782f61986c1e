/- Lists and trees behind a call that turns only blocks of its own; a row of trees that is copied element by element. -/
import Derived.Test.YtbpmmmnphpkdjaaGreatDoorWQuoG
import Derived.Test.YtbpmmmnphpkdjaaGreatDoorWPlnD
import Derived.Deep.MidRow
import Derived.Deep.Upon
import Derived.Test.YtbpmmmnphpkdjaaGreatDoorWDltA
import Derived.Test.YtbpmmmnphpkdjaaGreatDoorWAclF
import Derived.Deep.RegionHeld3
import Derived.Deep.Cut
import Derived.Deep.Onto
import Derived.OrdersHeld
import Derived.StillTail
import Derived.Deep.RegionHeld
import Derived.Test.YtbpmmmnphpkdjaaGreatDoorWLive9
import Derived.Test.YtbpmmmnphpkdjaaGreatDoorWRChar
import Derived.BigCall
import Derived.Lib.OthersKept
import Derived.Test.YtbpmmmnphpkdjaaGreatDoorWAddrP
import Derived.Lib.Bytealg
namespace Go.Proofs.YtbpmmmnphpkdjaaGreatDoor
set_option linter.unusedSimpArgs false
set_option maxRecDepth 100000
set_option maxHeartbeats 20000000
open Go.RowKit Go.MapKept
section
variable {α : Type} [Inhabited α] {w w' : World} {R R' : Nat → Prop} {k : Nat} {enc : α → List Value} {h : SlC} {zs : List α}
theorem SlR.fr {own : List Nat} (H : SlR w R enc k h zs) (hf : Fr own w w') (hR : ∀ b, b < w.heap.size → R b → b ∉ own ∧ R' b) (hk0 : ∀ x, 0 < (enc x).length) : SlR w' R' enc k h zs :=
 ⟨H.1, H.2.1, fun hn => by
  obtain ⟨b, off, e, hb, hc⟩ := H.2.2 hn
  have hlt : b < w.heap.size := by
   have := hc 0 hn 0 _ (List.getElem?_eq_getElem (hk0 zs[0]!))
   exact World.block_lt_of_cell? _ _ this
  exact ⟨b, off, e, (hR b hlt hb).2, fun j hj i u hu => (hf.cell (p := ⟨b, off + j * k + i, none⟩) hlt (hR b hlt hb).1).trans (hc j hj i u hu)⟩⟩
end
section
variable {α β : Type} [Inhabited β] {K : Kd α β} {w w' : World} {R R' : Nat → Prop} {h : α} {t : Tr β}
/-- what a kind of values must keep -/
structure KdOk {α β : Type} (K : Kd α β) : Prop where
 len : ∀ x, (K.enc x).length = K.k
 pos : 0 < K.k
 one : ∀ x u, u ∈ K.enc x → u.oneCell' = true
 loc : ∀ {own : List Nat} {w w' : World} {R R' : Nat → Prop} {h : α} {v : β}, K.loc w R h v → Fr own w w' → (∀ b, b < w.heap.size → R b → b ∉ own ∧ R' b) → K.loc w' R' h v
theorem TrAt.fr (hK : KdOk K) {own : List Nat} (H : TrAt K w R h t) (hf : Fr own w w') (hR : ∀ b, b < w.heap.size → R b → b ∉ own ∧ R' b) : TrAt K w' R' h t := by
 induction H with
 | mk h v subs H b off l ls hs at_ cells _ ih =>
  have hlt : ∀ j, j < (K.sub h).2.1 → b < w.heap.size := fun j hj =>
   World.block_lt_of_cell? _ _ (cells j hj 0 _ (List.getElem?_eq_getElem (by rw [hK.len]; exact hK.pos)))
  refine .mk h v subs H b off (hK.loc l hf hR) ls hs (fun h0 => ⟨(at_ h0).1, (hR b (hlt 0 h0) (at_ h0).2).2⟩) (fun j hj i u hu => ?_) ih
  exact (hf.cell (p := ⟨b, off + j * K.k + i, none⟩) (hlt j hj) (hR b (hlt j hj) (at_ (by omega)).2).1).trans (cells j hj i u hu)
end
theorem qaB (w : World) (b o : Nat) (vs : List Value) : Fr [b] w (w.setCells b o vs) := by
 induction vs generalizing o w with
 | nil => exact Fr.refl _ _
 | cons v r ih =>
  rw [World.setCells]
  exact (qaE w b o v).trans (ih _ _) (fun g hg => .inl hg)
theorem qck {w w' : World} {b o n : Nat} (h : w.there b o n) (hb : Below w.heap.size w w') : w'.there b o n := fun j hj => by
 obtain ⟨h1, h2⟩ := h j hj
 obtain ⟨u, hu⟩ := Option.isSome_iff_exists.1 h1
 have hlt : b < w.heap.size := World.block_lt_of_cell? w _ hu
 exact ⟨by rw [hb.cell (p := ⟨b, o + j, none⟩) hlt]; exact h1, by rw [hb.frozen (p := ⟨b, o + j, none⟩) hlt]; exact h2⟩
theorem qbf {w w' : World} {b o : Nat} {cs : List Value} (h : w.rangeAt b o cs) (hb : Below w.heap.size w w') : w'.rangeAt b o cs := fun j v hv => by
 have hu := h j v hv
 rw [hb.cell (p := ⟨b, o + j, none⟩) (World.block_lt_of_cell? w _ hu)]; exact hu
/-- a row of n trees in block gs: the first k are new (blocks from hi on), the others are as they were (blocks below B) -/
structure ClSt {α β : Type} [Inhabited β] (K : Kd α β) (B hi gs n : Nat) (subs : List (Tr β)) (k : Nat) (w : World) : Prop where
 th : w.there gs 0 (n * K.k)
 old : ∀ j, k ≤ j → j < n → ∃ h, w.rangeAt gs (j * K.k) (K.enc h) ∧ TrAt K w (· < B) h subs[j]!
 new : ∀ j, j < k → ∃ h, w.rangeAt gs (j * K.k) (K.enc h) ∧ TrAt K w (hi ≤ ·) h subs[j]!
section
variable {α β : Type} [Inhabited β] {K : Kd α β} {B hi gs n k : Nat} {subs : List (Tr β)} {w w1 w' : World}
theorem ClSt.below (hK : KdOk K) (H : ClSt K B hi gs n subs k w) (hb : Below w.heap.size w w') : ClSt K B hi gs n subs k w' :=
 ⟨qck H.th hb, fun j h1 h2 => by
  obtain ⟨h, hr, ht⟩ := H.old j h1 h2
  exact ⟨h, qbf hr hb, ht.fr hK (Fr.of_below (own := []) hb) (fun _ _ h => ⟨by simp, h⟩)⟩, fun j h1 => by
  obtain ⟨h, hr, ht⟩ := H.new j h1
  exact ⟨h, qbf hr hb, ht.fr hK (Fr.of_below (own := []) hb) (fun _ _ h => ⟨by simp, h⟩)⟩⟩
theorem ClSt.other (hK : KdOk K) (H : ClSt K B hi gs n subs k w) {own : List Nat} (hf : Fr own w w') (hth : w'.there gs 0 (n * K.k)) (hgs : gs ∉ own) (hB : ∀ g ∈ own, B ≤ g ∧ g < hi) : ClSt K B hi gs n subs k w' := by
 have hr : ∀ {o : Nat} {cs : List Value}, w.rangeAt gs o cs → w'.rangeAt gs o cs := fun h j v hv => by
  have hu := h j v hv
  rw [hf.cell (p := ⟨gs, _ + j, none⟩) (World.block_lt_of_cell? w _ hu) hgs]; exact hu
 refine ⟨hth, fun j h1 h2 => ?_, fun j h1 => ?_⟩
 ·obtain ⟨h, h3, ht⟩ := H.old j h1 h2
  exact ⟨h, hr h3, ht.fr hK hf (fun b _ h => ⟨fun hm => by have := (hB b hm).1; omega, h⟩)⟩
 ·obtain ⟨h, h3, ht⟩ := H.new j h1
  exact ⟨h, hr h3, ht.fr hK hf (fun b _ h => ⟨fun hm => by have := (hB b hm).2; omega, h⟩)⟩
theorem ClSt.there_row (H : ClSt K B hi gs n subs k w) (hk : k < n) : w.there gs (k * K.k) K.k := fun j hj => by
 have h1 := Nat.mul_le_mul_right K.k (show k + 1 ≤ n from hk)
 rw [Nat.add_mul, Nat.one_mul] at h1
 have := H.th (k * K.k + j) (by omega)
 rwa [Nat.zero_add] at this
/-- one element more is new -/
theorem ClSt.step (hK : KdOk K) (H : ClSt K B hi gs n subs k w1) (hb : Below w1.heap.size w1 w) {h' : α} (ht : TrAt K w (w1.heap.size ≤ ·) h' subs[k]!) (hk : k < n) (hgs : gs < hi) (hi1 : hi ≤ w1.heap.size) (hB : B ≤ gs) : ClSt K B hi gs n subs (k + 1) (w.setCells gs (k * K.k) (K.enc h')) := by
 have H := H.below hK hb
 have hthr := H.there_row hk
 refine ⟨World.there_setCells H.th _ _ _, fun j h1 h2 => ?_, fun j h1 => ?_⟩
 ·obtain ⟨h, h3, ht⟩ := H.old j (by omega) h2
  have hm := Nat.mul_le_mul_right K.k (show k + 1 ≤ j from h1)
  rw [Nat.add_mul, Nat.one_mul] at hm
  exact ⟨h, World.rangeAt_setCells_apart h3 _ _ _ (.inr (.inr (by rw [hK.len]; exact hm))), ht.fr hK (qaB _ _ _ _) (fun b _ h => ⟨by simp; omega, h⟩)⟩
 ·by_cases e : j = k
  ·subst e
   exact ⟨h', World.rangeAt_setCells_same _ _ _ _ (by rw [hK.len]; exact hthr), ht.fr hK (qaB _ _ _ _) (fun b _ h => ⟨by simp; omega, by omega⟩)⟩
  ·obtain ⟨h, h3, ht⟩ := H.new j (by omega)
   have hm := Nat.mul_le_mul_right K.k (show j + 1 ≤ k by omega)
   rw [Nat.add_mul, Nat.one_mul] at hm
   exact ⟨h, World.rangeAt_setCells_apart h3 _ _ _ (.inr (.inl (by rw [hK.len]; exact hm))), ht.fr hK (qaB _ _ _ _) (fun b _ h => ⟨by simp; omega, h⟩)⟩
/-- all are new: the tree -/
theorem ClSt.tree [Inhabited α] (H : ClSt K B hi gs n subs n w) {h : α} {v : β} {R : Nat → Prop} (hK : KdOk K) (hl : K.loc w R h v) (hlen : subs.length = n) (hs : (K.sub h).2.1 = n) (hd : hdOk (K.sub h)) (ha : 0 < n → (K.sub h).1 = some ⟨gs, 0, none⟩ ∧ R gs) (hR : ∀ b, hi ≤ b → R b) : TrAt K w R h (.mk v subs) := by
 refine .mk h v subs (fun j => if hj : j < n then (H.new j hj).choose else default) gs 0 hl (by omega) hd (fun h0 => ha (by omega)) (fun j hj i u hu => ?_) (fun j hj => ?_)
 ·have hj' : j < n := by omega
  simp only [hj', dite_true] at hu
  have := (H.new j hj').choose_spec.1 i u hu
  rwa [Nat.zero_add]
 ·have hj' : j < n := by omega
  simp only [hj', dite_true]
  exact (H.new j hj').choose_spec.2.fr hK (Fr.refl [] w) (fun b _ h => ⟨by simp, hR b h⟩)
/-- the row as slices.Clone gives it -/
theorem ClSt.start [Inhabited α] (hK : KdOk K) {base c : Nat} {T : TypeId} {A : Option Addr} {L : List α} (hr : w.ownsRow base T K.k (.slice A n c) n (L.flatMap K.enc)) (hl : L.length = n) (ht : ∀ j, j < n → TrAt K w (· < B) L[j]! subs[j]!) :
  (A = none → n = 0 ∧ c = 0) ∧ n ≤ c ∧ ∃ gs, base ≤ gs ∧ (0 < n → A = some ⟨gs, 0, none⟩ ∧ gs < w.heap.size) ∧ ClSt K B w.heap.size gs n subs 0 w := by
 rcases hr.2 with ⟨e, e2⟩ | ⟨g, cap, cur, e1, h2, h3, h4, h5, h6, h7⟩
 ·injection e with e e3 e4
  subst e e2 e4
  exact ⟨fun _ => ⟨rfl, rfl⟩, Nat.le_refl _, base, Nat.le_refl _, fun h => absurd h (by omega), ⟨fun j hj => absurd hj (by omega), fun j _ hj => absurd hj (by omega), fun j hj => absurd hj (by omega)⟩⟩
 ·injection e1 with e1 e3 e4
  subst e1 e4
  have hcs : n * K.k ≤ cur.size := by rw [h6]; exact Nat.mul_le_mul_right _ h4
  refine ⟨fun h => (by cases h), h4, g, h2, fun _ => ⟨rfl, (Array.getElem?_eq_some_iff.1 h3).1⟩, ⟨fun j hj => ?_, fun j _ hj => ?_, fun j hj => absurd hj (by omega)⟩⟩
  ·rw [Nat.zero_add]
   have hj' : j < cur.size := by omega
   refine ⟨?_, by simp [World.frozen?, h3]⟩
   have : w.cell? ⟨g, j, none⟩ = cur[j]? := by simp [World.cell?, h3]
   rw [this, Array.getElem?_eq_getElem hj']; rfl
  ·refine ⟨L[j]!, fun i u hu => ?_, ht j hj⟩
   have hf := qeP hK.len L j i u (by omega) hu
   rw [← h7] at hf
   have hc : w.cell? ⟨g, j * K.k + i, none⟩ = cur[j * K.k + i]? := by simp [World.cell?, h3]
   rw [hc]
   rw [List.getElem?_take] at hf
   split at hf
   ·simpa using hf
   ·cases hf
end
open Go.RowKit Go.MapKept
theorem qjt {P : Program} (w0 : World) (t : TypeId) (old v : Value) (hv : v.oneCell' = true) {g : Nat} (hg : w0.heap.size = g) (m : Mode) : (store ⟨g, 0, none⟩ v m).run P (w0.alloc (.cells #[old] t)) = .ok () (w0.alloc (.cells #[v] t)) := by
 subst hg
 rw [run_store P _ _ _ _ hv]
 have h1 : (w0.alloc (.cells #[old] t)).cell? ⟨w0.heap.size, 0, none⟩ = some old := by simp
 have h2 : (w0.alloc (.cells #[old] t)).frozen? ⟨w0.heap.size, 0, none⟩ = false := by simp
 rw [h1]
 simp only [h2]
 have h3 : (w0.alloc (.cells #[old] t)).setCell ⟨w0.heap.size, 0, none⟩ v = w0.alloc (.cells #[v] t) := by
  rw [setCell_eq_setRow _ _ 0 #[old] t (0, 0) v (heap_alloc_last w0 _), World.setRow_alloc_new]; rfl
 rw [h3]
 rfl
open Go.RowKit Go.MapKept
theorem kTxOk : KdOk kTx where
 len := fun _ => rfl
 pos := by decide
 one := fun x u hu => by
  simp [qar] at hu
  rcases hu with rfl | rfl | rfl | rfl | rfl | rfl | rfl | rfl | rfl | rfl | rfl | rfl | rfl | rfl | rfl | rfl <;> rfl
 loc := fun H hf hR => ⟨H.1, H.2.1.fr hf hR (fun _ => by simp [enc8]), H.2.2.1.fr hf hR (fun _ => by simp [qao]), H.2.2.2.1.fr hf hR (fun _ => by simp [qaz]), H.2.2.2.2.fr hf hR (fun _ => by simp [qay])⟩
def qnt (t : TxT) (w : World) (e : Ending) (w' : World) : Prop := (∃ h', e = .returned (txV h') ∧ TxAt w' (w.heap.size ≤ ·) h' t) ∧ Below w.heap.size w w'
/-- a copy that was made at w0 -/
theorem CloneP.slr {α : Type} [Inhabited α] {T : TypeId} {enc : α → List Value} {k n : Nat} {l : List α} {w w' : World} {A : Option Addr} {c : Nat} (h : w'.ownsRow w.heap.size T k (.slice A n c) n (l.flatMap enc)) (hk : ∀ x, (enc x).length = k) (hl : l.length = n) {g : Nat} (hg : g + 2 ≤ w.heap.size) : SlR w' (g + 2 ≤ ·) enc k (A, n, c) l := by
 have := qbD h hk hl
 exact ⟨this.1, this.2.1, fun h0 => by
  obtain ⟨b, off, e, hb, hc⟩ := this.2.2 h0
  exact ⟨b, off, e, Nat.le_trans hg hb, hc⟩⟩
theorem qal {w : World} {b o : Nat} {cs : Array Value} {T : TypeId} {fr : Nat × Nat} {pre mid post : List Value} (h : w.heap[b]? = some (.cells cs T fr)) (hc : cs.toList = pre ++ (mid ++ post)) (hp : pre.length = o) : w.rangeAt b o mid := fun j v hv => by
 have hj : j < mid.length := (List.getElem?_eq_some_iff.1 hv).1
 rw [qaf h, ← Array.getElem?_toList, hc, ← hp, List.getElem?_append_right (by omega), show pre.length + j - pre.length = j by omega, List.getElem?_append_left hj]
 exact hv
theorem qaS (w : World) (g : Nat) (cs : Array Value) : Fr [g] w (w.setRow g cs) :=
 ⟨rfl, rfl, rfl, by simp [World.setRow], fun i _ hn => by simp only [List.mem_singleton] at hn; simp [World.setRow, Array.getElem?_modify, Ne.symm hn]⟩
theorem qbp {w w' : World} {own : List Nat} {b o n : Nat} (h : w.there b o n) (hf : Fr own w w') (hn : b ∉ own) : w'.there b o n := fun j hj => by
 obtain ⟨h1, h2⟩ := h j hj
 obtain ⟨u, hu⟩ := Option.isSome_iff_exists.1 h1
 have hlt : b < w.heap.size := World.block_lt_of_cell? w _ hu
 exact ⟨by rw [hf.cell (p := ⟨b, o + j, none⟩) hlt hn]; exact h1, by rw [World.frozen?_of_block (w := w) (hf.block b hlt hn)]; exact h2⟩
/-- the two variables of a copying function: what is copied (C), the result (Z) -/
structure CnSt (w V : World) (C Z : Array Value) (T : TypeId) : Prop where
 c : V.heap[w.heap.size]? = some (.cells C T (0, 0))
 z : V.heap[w.heap.size + 1]? = some (.cells Z T (0, 0))
 b : Below w.heap.size w V
 s : w.heap.size + 2 ≤ V.heap.size
theorem CnSt.call {w V V' : World} {C Z : Array Value} {T : TypeId} (H : CnSt w V C Z T) (hb : Below V.heap.size V V') : CnSt w V' C Z T :=
 ⟨(hb.block _ (by have := H.s; omega)).trans H.c, (hb.block _ (by have := H.s; omega)).trans H.z, H.b.trans (hb.mono H.b.size), Nat.le_trans H.s hb.size⟩
theorem CnSt.set {w V : World} {C Z : Array Value} {T : TypeId} (H : CnSt w V C Z T) (o : Nat) (v : Value) : CnSt w (V.setCell ⟨w.heap.size, o, none⟩ v) (C.setIfInBounds o v) Z T :=
 ⟨qaZ H.c v, (qaK V w.heap.size o v (by omega)).trans H.z, H.b.setCell (Nat.le_refl _) v, Nat.le_trans H.s (qaE V w.heap.size o v).size⟩
theorem CnSt.cell {w V : World} {C Z : Array Value} {T : TypeId} (H : CnSt w V C Z T) {i : Nat} {v : Value} (hv : C[i]? = some v) : V.cell? ⟨w.heap.size, i, none⟩ = some v := by rw [qaf H.c]; exact hv
theorem CnSt.frz {w V : World} {C Z : Array Value} {T : TypeId} (H : CnSt w V C Z T) (i : Nat) : V.frozen? ⟨w.heap.size, i, none⟩ = false := by simp [World.frozen?, H.c]
theorem CnSt.start (w : World) (C Z : Array Value) (T : TypeId) : CnSt w ((w.alloc (.cells C T)).alloc (.cells Z T)) C Z T :=
 ⟨qaa (qab w _), qae w _ _, ((Below.refl _ w).alloc (Nat.le_refl _) _).alloc (by simp) _, by simp⟩
/-- a copy stays as it is behind a store into the variable -/
theorem SlR.put {α : Type} [Inhabited α] {w : World} {k : Nat} {enc : α → List Value} {h : SlC} {zs : List α} {g : Nat} (H : SlR w (g + 2 ≤ ·) enc k h zs) (hk : ∀ x, 0 < (enc x).length) (o : Nat) (v : Value) : SlR (w.setCell ⟨g, o, none⟩ v) (g + 2 ≤ ·) enc k h zs :=
 H.fr (qaE w g o v) (fun b _ h => ⟨by simp; omega, h⟩) hk
theorem SlR.later {α : Type} [Inhabited α] {w w' : World} {R : Nat → Prop} {k : Nat} {enc : α → List Value} {h : SlC} {zs : List α} (H : SlR w R enc k h zs) (hb : Below w.heap.size w w') (hk : ∀ x, 0 < (enc x).length) : SlR w' R enc k h zs :=
 H.fr (Fr.of_below (own := []) hb) (fun b _ h => ⟨by simp, h⟩) hk

/-- the loop's state: k elements are copied -/
structure ClR (w : World) (h' : TxH) (v : TxF) (subs : List TxT) (n gs hi : Nat) (Z : Array Value) (k : Nat) (wr : World) : Prop where
 s : CnSt w wr (qar h').toArray Z 52
 l : locTx wr (fun b => w.heap.size + 2 ≤ b ∧ b ≠ gs) h' v
 r : ClSt kTx w.heap.size hi gs n subs k wr
 hi : hi ≤ wr.heap.size
theorem ClR.step {w : World} {h' : TxH} {v : TxF} {subs : List TxT} {n gs hi : Nat} {Z : Array Value} {k : Nat} {wr w2 : World} (H : ClR w h' v subs n gs hi Z k wr) (hb : Below wr.heap.size wr w2) {hh : TxH} (ht : TxAt w2 (wr.heap.size ≤ ·) hh subs[k]!) (hk : k < n) (hgs : gs < hi) (hB : w.heap.size + 2 ≤ gs) :
  ClR w h' v subs n gs hi Z (k + 1) (w2.setCells gs (k * 16) (qar hh)) where
 s := ⟨((qaB w2 gs (k * 16) (qar hh)).block _ (by have := H.s.s; have := hb.size; omega) (by simp; omega)).trans (H.s.call hb).c, ((qaB w2 gs (k * 16) (qar hh)).block _ (by have := H.s.s; have := hb.size; omega) (by simp; omega)).trans (H.s.call hb).z, (H.s.call hb).b.trans ((qaB w2 gs (k * 16) (qar hh)).below (H.s.call hb).b.size (by simp; omega)), Nat.le_trans (H.s.call hb).s (qaB w2 gs (k * 16) (qar hh)).size⟩
 l := kTxOk.loc (kTxOk.loc (R' := fun b => w.heap.size + 2 ≤ b ∧ b ≠ gs) H.l (Fr.of_below (own := []) hb) (fun b _ h => ⟨by simp, h⟩)) (qaB w2 gs (k * 16) (qar hh)) (fun b _ h => ⟨by simpa using h.2, h⟩)
 r := H.r.step kTxOk hb ht hk hgs H.hi (by omega)
 hi := Nat.le_trans H.hi (Nat.le_trans hb.size (qaB w2 gs (k * 16) (qar hh)).size)

theorem qfB : ∀ (t : TxT) (h : TxH) (w : World) (R : Nat → Prop), TxAt w R h t → TxOk 1048576 t → Calls Tryz.prog 140 #[txV h] w (qnt t w) := by
 refine Tr.ind ?_
 intro v subs ih h w R ht0 hok
 have ht : TxAt w (· < w.heap.size) h (.mk v subs) := ht0.more (fun b hb _ => hb)
 have hl := ht.loc
 obtain ⟨L, hL, hsub⟩ := ht.subs_at
 have hlen := ht.len
 have hsm := hok.top
 have hb1 : Below w.heap.size w ((w.alloc (.cells (rwTx h) 52)).alloc (.cells rzTx 52)) := ((Below.refl _ w).alloc (Nat.le_refl _) _).alloc (by simp) _
 have HS := Lib.hid (CnSt.start w (rwTx h) rzTx 52)
 have HCd := Lib.hid (fun (W : World) (hW : Below w.heap.size w W) => qem h.d.1 h.d.2.1 h.d.2.2 v.data W ((hl.2.1.sl (fun _ => by simp [enc8])).belowMore hW hW.size) hl.2.1.hd.1 (by have h1 := hsm.2.2.1; have h2 := hl.2.1.1; simp only [Tr.v, Tr.subs] at *; omega))
 have HLd := Lib.hid hl.2.1.len
 have HCa := Lib.hid (fun (W : World) (hW : Below w.heap.size w W) => qcF h.a.1 h.a.2.1 h.a.2.2 v.acl W ((hl.2.2.1.sl (fun _ => by simp [qao])).belowMore hW hW.size) hl.2.2.1.hd.1 (by have h1 := hsm.2.2.2.1; have h2 := hl.2.2.1.1; simp only [Tr.v, Tr.subs] at *; omega))
 have HLa := Lib.hid hl.2.2.1.len
 have HCi := Lib.hid (fun (W : World) (hW : Below w.heap.size w W) => qcK h.i.1 h.i.2.1 h.i.2.2 v.ids W ((hl.2.2.2.1.sl (fun _ => by simp [qaz])).belowMore hW hW.size) hl.2.2.2.1.hd.1 (by have h1 := hsm.2.2.2.2.1; have h2 := hl.2.2.2.1.1; simp only [Tr.v, Tr.subs] at *; omega))
 have HLi := Lib.hid hl.2.2.2.1.len
 have HCp := Lib.hid (fun (W : World) (hW : Below w.heap.size w W) => qcO h.p.1 h.p.2.1 h.p.2.2 v.paths W ((hl.2.2.2.2.sl (fun _ => by simp [qay])).belowMore hW hW.size) hl.2.2.2.2.hd.1 (by have h1 := hsm.2.2.2.2.2.1; have h2 := hl.2.2.2.2.1; simp only [Tr.v, Tr.subs] at *; omega))
 have HLp := Lib.hid hl.2.2.2.2.len
 have HCs := Lib.hid (fun (W : World) (hW : Below w.heap.size w W) => qfg h.s.1 h.s.2.1 h.s.2.2 L W ((hL.sl (fun _ => by simp [qar])).belowMore hW hW.size) hL.hd.1 (Nat.le_trans (show h.s.2.1 ≤ 1048576 by have h1 := hsm.2.2.2.2.2.2.1; rw [hlen] at h1; exact h1) (by omega)))
 have HLs := Lib.hid hL.len
 have HSUB := Lib.hid hsub; have HLEN := Lib.hid (show subs.length = h.s.2.1 from hlen); have HN := Lib.hid hl.1
 have HIH := Lib.hid ih; have HOK := Lib.hid (fun k (hk : k < subs.length) => hok.subAt (j := k) hk)
 have HSB := Lib.hid (show h.s.2.1 ≤ 1048576 by have h1 := hsm.2.2.2.2.2.2.1; rw [hlen] at h1; exact h1)
 have HB := Lib.hid hb1
 clear ht0 ht hl hL hsub hlen hsm hb1 ih hok
 go_enter Tryz.func140, Tryz.ntmps140
 go_wp2_with (first
  | (apply qai 52 52; exact rfl; exact rfl; exact rfl; (first | (with_reducible rfl) | (exact sz1 _ _) | (exact sz2 _ _ _) | (exact sz3 _ _ _ _)); exact rfl; exact qap; exact rfl; simp [Value.oneCell'])
  | fail)
 refine (HCd.out _ HS.out.b).mono ?_
 generalize ((w.alloc (.cells (rwTx h) 52)).alloc (.cells rzTx 52)) = V0 at *
 rintro e w0 ⟨⟨A0, c0, rfl, hr⟩, hb⟩
 have HRd := Lib.hid hr; have HSZ0 := Lib.hid (show w.heap.size + 2 ≤ V0.heap.size from HS.out.s); have HBX0 := Lib.hid hb
 replace HRd := Lib.hid (CloneP.slr hr (fun _ => rfl) HLd.out HSZ0.out)
 replace HS := Lib.hid (HS.out.call hb)
 have z0 := HS.out.cell (i := 2) (v := slV h.d) rfl
 have f0 := HS.out.frz 2
 have y0 := HS.out.cell (i := 3) (v := slV h.a) rfl
 clear hr hb
 go_wp2_with fail
 replace HS := Lib.hid (HS.out.set 2 (.slice A0 h.d.2.1 c0))
 replace HS := Lib.hid (show CnSt w (w0.setCell ⟨w.heap.size, 2, none⟩ (.slice A0 h.d.2.1 c0)) #[.int .i32 h.n.ty, .string h.n.path, .slice A0 h.d.2.1 c0, slV h.a, .int .i64 h.n.ow, .int .i32 h.n.ve, .int .i32 h.n.cr, .bool h.n.qh, .int .i64 h.n.qc, .int .i64 h.n.qb, .int .i64 h.n.si, .int .i32 h.n.st, slV h.i, slV h.p, .int .i32 h.n.co, slV h.s] _ _ from HS.out)
 replace HRd := Lib.hid (HRd.out.put (fun _ => by simp [enc8]) 2 (.slice A0 h.d.2.1 c0))
 generalize w0.setCell ⟨w.heap.size, 2, none⟩ (.slice A0 h.d.2.1 c0) = V1 at *
 clear z0 f0 y0 HSZ0 HBX0
 refine (HCa.out _ HS.out.b).mono ?_
 rintro e w1 ⟨⟨A1, c1, rfl, hr⟩, hb⟩
 have HRa := Lib.hid hr; have HSZ1 := Lib.hid (show w.heap.size + 2 ≤ V1.heap.size from HS.out.s); have HBX1 := Lib.hid hb
 replace HRd := Lib.hid (HRd.out.later hb (fun _ => by simp [enc8]))
 replace HRa := Lib.hid (CloneP.slr hr (fun _ => rfl) HLa.out HSZ1.out)
 replace HS := Lib.hid (HS.out.call hb)
 have z1 := HS.out.cell (i := 3) (v := slV h.a) rfl
 have f1 := HS.out.frz 3
 have y1 := HS.out.cell (i := 12) (v := slV h.i) rfl
 clear hr hb
 go_wp2_with fail
 replace HS := Lib.hid (HS.out.set 3 (.slice A1 h.a.2.1 c1))
 replace HS := Lib.hid (show CnSt w (w1.setCell ⟨w.heap.size, 3, none⟩ (.slice A1 h.a.2.1 c1)) #[.int .i32 h.n.ty, .string h.n.path, .slice A0 h.d.2.1 c0, .slice A1 h.a.2.1 c1, .int .i64 h.n.ow, .int .i32 h.n.ve, .int .i32 h.n.cr, .bool h.n.qh, .int .i64 h.n.qc, .int .i64 h.n.qb, .int .i64 h.n.si, .int .i32 h.n.st, slV h.i, slV h.p, .int .i32 h.n.co, slV h.s] _ _ from HS.out)
 replace HRd := Lib.hid (HRd.out.put (fun _ => by simp [enc8]) 3 (.slice A1 h.a.2.1 c1))
 replace HRa := Lib.hid (HRa.out.put (fun _ => by simp [qao]) 3 (.slice A1 h.a.2.1 c1))
 generalize w1.setCell ⟨w.heap.size, 3, none⟩ (.slice A1 h.a.2.1 c1) = V2 at *
 clear z1 f1 y1 HSZ1 HBX1
 refine (HCi.out _ HS.out.b).mono ?_
 rintro e w2 ⟨⟨A2, c2, rfl, hr⟩, hb⟩
 have HRi := Lib.hid hr; have HSZ2 := Lib.hid (show w.heap.size + 2 ≤ V2.heap.size from HS.out.s); have HBX2 := Lib.hid hb
 replace HRd := Lib.hid (HRd.out.later hb (fun _ => by simp [enc8]))
 replace HRa := Lib.hid (HRa.out.later hb (fun _ => by simp [qao]))
 replace HRi := Lib.hid (CloneP.slr hr (fun _ => rfl) HLi.out HSZ2.out)
 replace HS := Lib.hid (HS.out.call hb)
 have z2 := HS.out.cell (i := 12) (v := slV h.i) rfl
 have f2 := HS.out.frz 12
 have y2 := HS.out.cell (i := 13) (v := slV h.p) rfl
 clear hr hb
 go_wp2_with fail
 replace HS := Lib.hid (HS.out.set 12 (.slice A2 h.i.2.1 c2))
 replace HS := Lib.hid (show CnSt w (w2.setCell ⟨w.heap.size, 12, none⟩ (.slice A2 h.i.2.1 c2)) #[.int .i32 h.n.ty, .string h.n.path, .slice A0 h.d.2.1 c0, .slice A1 h.a.2.1 c1, .int .i64 h.n.ow, .int .i32 h.n.ve, .int .i32 h.n.cr, .bool h.n.qh, .int .i64 h.n.qc, .int .i64 h.n.qb, .int .i64 h.n.si, .int .i32 h.n.st, .slice A2 h.i.2.1 c2, slV h.p, .int .i32 h.n.co, slV h.s] _ _ from HS.out)
 replace HRd := Lib.hid (HRd.out.put (fun _ => by simp [enc8]) 12 (.slice A2 h.i.2.1 c2))
 replace HRa := Lib.hid (HRa.out.put (fun _ => by simp [qao]) 12 (.slice A2 h.i.2.1 c2))
 replace HRi := Lib.hid (HRi.out.put (fun _ => by simp [qaz]) 12 (.slice A2 h.i.2.1 c2))
 generalize w2.setCell ⟨w.heap.size, 12, none⟩ (.slice A2 h.i.2.1 c2) = V3 at *
 clear z2 f2 y2 HSZ2 HBX2
 refine (HCp.out _ HS.out.b).mono ?_
 rintro e w3 ⟨⟨A3, c3, rfl, hr⟩, hb⟩
 have HRp := Lib.hid hr; have HSZ3 := Lib.hid (show w.heap.size + 2 ≤ V3.heap.size from HS.out.s); have HBX3 := Lib.hid hb
 replace HRd := Lib.hid (HRd.out.later hb (fun _ => by simp [enc8]))
 replace HRa := Lib.hid (HRa.out.later hb (fun _ => by simp [qao]))
 replace HRi := Lib.hid (HRi.out.later hb (fun _ => by simp [qaz]))
 replace HRp := Lib.hid (CloneP.slr hr (fun _ => rfl) HLp.out HSZ3.out)
 replace HS := Lib.hid (HS.out.call hb)
 have z3 := HS.out.cell (i := 13) (v := slV h.p) rfl
 have f3 := HS.out.frz 13
 have y3 := HS.out.cell (i := 15) (v := slV h.s) rfl
 clear hr hb
 go_wp2_with fail
 replace HS := Lib.hid (HS.out.set 13 (.slice A3 h.p.2.1 c3))
 replace HS := Lib.hid (show CnSt w (w3.setCell ⟨w.heap.size, 13, none⟩ (.slice A3 h.p.2.1 c3)) #[.int .i32 h.n.ty, .string h.n.path, .slice A0 h.d.2.1 c0, .slice A1 h.a.2.1 c1, .int .i64 h.n.ow, .int .i32 h.n.ve, .int .i32 h.n.cr, .bool h.n.qh, .int .i64 h.n.qc, .int .i64 h.n.qb, .int .i64 h.n.si, .int .i32 h.n.st, .slice A2 h.i.2.1 c2, .slice A3 h.p.2.1 c3, .int .i32 h.n.co, slV h.s] _ _ from HS.out)
 replace HRd := Lib.hid (HRd.out.put (fun _ => by simp [enc8]) 13 (.slice A3 h.p.2.1 c3))
 replace HRa := Lib.hid (HRa.out.put (fun _ => by simp [qao]) 13 (.slice A3 h.p.2.1 c3))
 replace HRi := Lib.hid (HRi.out.put (fun _ => by simp [qaz]) 13 (.slice A3 h.p.2.1 c3))
 replace HRp := Lib.hid (HRp.out.put (fun _ => by simp [qay]) 13 (.slice A3 h.p.2.1 c3))
 generalize w3.setCell ⟨w.heap.size, 13, none⟩ (.slice A3 h.p.2.1 c3) = V4 at *
 clear z3 f3 y3 HSZ3 HBX3
 refine (HCs.out _ HS.out.b).mono ?_
 rintro e w4 ⟨⟨A4, c4, rfl, hr⟩, hb⟩
 have HRs := Lib.hid hr; have HSZ4 := Lib.hid (show w.heap.size + 2 ≤ V4.heap.size from HS.out.s); have HBX4 := Lib.hid hb
 replace HRd := Lib.hid (HRd.out.fr (R' := fun b => w.heap.size + 2 ≤ b ∧ b < V4.heap.size) (Fr.of_below (own := []) hb) (fun b hlt h => ⟨by simp, h, hlt⟩) (fun _ => by simp [enc8]))
 replace HRa := Lib.hid (HRa.out.fr (R' := fun b => w.heap.size + 2 ≤ b ∧ b < V4.heap.size) (Fr.of_below (own := []) hb) (fun b hlt h => ⟨by simp, h, hlt⟩) (fun _ => by simp [qao]))
 replace HRi := Lib.hid (HRi.out.fr (R' := fun b => w.heap.size + 2 ≤ b ∧ b < V4.heap.size) (Fr.of_below (own := []) hb) (fun b hlt h => ⟨by simp, h, hlt⟩) (fun _ => by simp [qaz]))
 replace HRp := Lib.hid (HRp.out.fr (R' := fun b => w.heap.size + 2 ≤ b ∧ b < V4.heap.size) (Fr.of_below (own := []) hb) (fun b hlt h => ⟨by simp, h, hlt⟩) (fun _ => by simp [qay]))
 replace HS := Lib.hid (HS.out.call hb)
 have z4 := HS.out.cell (i := 15) (v := slV h.s) rfl
 have f4 := HS.out.frz 15
 clear hr hb
 go_wp2_with fail
 obtain ⟨hA, hnc, gs, hgs, hgA, hst⟩ := ClSt.start kTxOk (B := w.heap.size) (subs := subs) HRs.out HLs.out (fun j hj => (HSUB.out j hj).fr kTxOk (Fr.of_below (own := []) HS.out.b) (fun b hlt _ => ⟨by simp, hlt⟩))
 have hst' := hst.other kTxOk (qaE w4 w.heap.size 15 (.slice A4 h.s.2.1 c4)) (World.there_setCells hst.th w.heap.size 15 [.slice A4 h.s.2.1 c4]) (by have := HSZ4.out; simp; omega) (fun g hg => by have := HS.out.s; simp at hg; omega)
 have HR0 := Lib.hid (show ClR w ⟨h.n, (A0, h.d.2.1, c0), (A1, h.a.2.1, c1), (A2, h.i.2.1, c2), (A3, h.p.2.1, c3), (A4, h.s.2.1, c4)⟩ v subs h.s.2.1 gs w4.heap.size _ 0 (w4.setCell ⟨w.heap.size, 15, none⟩ (.slice A4 h.s.2.1 c4)) from
  ⟨HS.out.set 15 _, ⟨HN.out, HRd.out.fr (qaE _ _ _ _) (fun b _ h => ⟨by simp; omega, h.1, by have := HBX4.out.size; omega⟩) (fun _ => by simp [enc8]), HRa.out.fr (qaE _ _ _ _) (fun b _ h => ⟨by simp; omega, h.1, by omega⟩) (fun _ => by simp [qao]), HRi.out.fr (qaE _ _ _ _) (fun b _ h => ⟨by simp; omega, h.1, by omega⟩) (fun _ => by simp [qaz]), HRp.out.fr (qaE _ _ _ _) (fun b _ h => ⟨by simp; omega, h.1, by omega⟩) (fun _ => by simp [qay])⟩, hst', (qaE w4 w.heap.size 15 _).size⟩)
 have HA := Lib.hid (And.intro hA (And.intro hnc hgA)); have HGS := Lib.hid (show w.heap.size + 2 ≤ gs from Nat.le_trans HSZ4.out hgs); have HHI := Lib.hid (show 0 < h.s.2.1 → gs < w4.heap.size from fun h0 => (hgA h0).2)
 clear hA hnc hgs hgA hst hst' HRd HRa HRi HRp HRs HCd HCa HCi HCp HCs HLd HLa HLi HLp HLs z4 f4 HS HSUB HB
 generalize w4.setCell ⟨w.heap.size, 15, none⟩ (.slice A4 h.s.2.1 c4) = V5 at *
 have HSH := Lib.hid (show w.heap.size + 2 ≤ w4.heap.size from Nat.le_trans HSZ4.out HBX4.out.size)
 clear HBX4 HSZ4
 generalize w4.heap.size = hi at *
 go_loopw [30] (fun i wr => ∃ k : Nat, i = .int .i64 ↑k ∧ k ≤ h.s.2.1 ∧ ClR w ⟨h.n, (A0, h.d.2.1, c0), (A1, h.a.2.1, c1), (A2, h.i.2.1, c2), (A3, h.p.2.1, c3), (A4, h.s.2.1, c4)⟩ v subs h.s.2.1 gs hi rzTx k wr) (fun i _ => h.s.2.1 - (RowKit.intOf i).toNat)
 case atStart => exact ⟨0, rfl, Nat.zero_le _, HR0.out⟩
 case round =>
  obtain ⟨k, rfl, hk, hR⟩ := hrel
  have hsb := HSB.out
  by_cases hlt : k < h.s.2.1
  ·have hA4 := (HA.out.2.2 (by omega)).1
   have hb9 : Below wr.heap.size wr wr := Below.refl _ _
   obtain ⟨hh, hr, htk⟩ := hR.r.old k (Nat.le_refl _) hlt
   have HIHk := Lib.hid (fun (W : World) (hW : Below wr.heap.size wr W) => HIH.out k (by rw [HLEN.out]; exact hlt) hh W _ (htk.fr kTxOk (Fr.of_below (own := []) hW) (fun b hb h => ⟨by simp, h⟩)) (HOK.out k (by rw [HLEN.out]; exact hlt)))
   have HR := Lib.hid hR
   have x15 : wr.cell? ⟨w.heap.size, 15, none⟩ = some (.slice A4 h.s.2.1 c4) := hR.s.cell rfl
   have HLT := Lib.hid hlt
   subst hA4
   obtain ⟨W9, HW9⟩ : ∃ W9 : World, Hid (W9 = wr.alloc (.cells (rwTx hh) 52)) := ⟨_, Lib.hid rfl⟩
   have hbw : Below wr.heap.size wr W9 := HW9.out ▸ (Below.refl _ wr).alloc (Nat.le_refl _) _
   have hg9 : W9.heap[wr.heap.size]? = some (.cells (rwTx hh) 52 (0, 0)) := HW9.out ▸ heap_alloc_new wr _
   have HSO := Lib.hid (fun (W : World) (hW : Below W9.heap.size W9 W) => And.intro (hbw.trans (hW.mono hbw.size)) (And.intro (qaC x15 (hbw.trans (hW.mono hbw.size))) (qbf (qal (pre := []) (mid := qar hh) (post := []) hg9 rfl rfl) hW)))
   have S0 := HSO.out W9 (Below.refl _ _)
   clear hR x15 htk hbw hg9
   go_wp2_with (first
    | (apply qau 52; exact rfl; exact rfl; exact rfl; assumption; exact qaF; exact rfl; exact qap)
    | (apply qai 52 52; exact rfl; exact rfl; exact rfl; (first | (with_reducible rfl) | (exact sz1 _ _) | (exact sz2 _ _ _) | (exact sz3 _ _ _ _)); exact rfl; exact qap; exact rfl; simp [Value.oneCell'])
    | fail)
   rw [← HW9.out]
   refine wp_region_held_drew (S := fun w' => w'.cell? ⟨w.heap.size, 15, none⟩ = some (.slice (some ⟨gs, 0, none⟩) h.s.2.1 c4) ∧ w'.rangeAt wr.heap.size 0 (qar hh)) (by kernel_rfl) (HSO.out _ (qaj _)).2 (fun hHeld => ?_)
   refine wpAnyH_take (i := 0) (v := .pointer (some ⟨w.heap.size, 15, none⟩)) rfl (by kernel_rfl) (by kernel_rfl) (by kernel_rfl) (fun _ _ _ h => h) (Or.inl ⟨by rfl, by intro w hSw; clear hSw; go_simp⟩) (by assumption) ?_
   simp only [Act.put, List.setIfInBounds_toArray, List.set_cons_zero, List.set_cons_succ]
   refine wpAnyH_take (i := 1) (v := .slice (some ⟨gs, 0, none⟩) h.s.2.1 c4) rfl (by kernel_rfl) (by kernel_rfl) (by kernel_rfl) (fun _ _ _ h => h) (Or.inl ⟨by rfl, by intro w hSw; obtain ⟨hSw, _⟩ := hSw; go_simp⟩) (by assumption) ?_
   simp only [Act.put, List.setIfInBounds_toArray, List.set_cons_zero, List.set_cons_succ]
   refine wpAnyH_take (i := 2) (v := .int .i64 ↑k) rfl (by kernel_rfl) (by kernel_rfl) (by kernel_rfl) (fun _ _ _ h => h) (Or.inl ⟨by rfl, by intro w hSw; clear hSw; go_simp⟩) (by assumption) ?_
   simp only [Act.put, List.setIfInBounds_toArray, List.set_cons_zero, List.set_cons_succ]
   refine wpAnyH_take (i := 3) (v := .agg (qar hh).toArray) rfl (by kernel_rfl) (by kernel_rfl) (by kernel_rfl) (fun _ _ _ h => h) (yieldsIf_load_mid (by rfl) 52 _ rfl wr.heap.size 0 rfl (qar hh) _ (fun _ h => h.2) qaF rfl qap) (by assumption) ?_
   simp only [Act.put, List.setIfInBounds_toArray, List.set_cons_zero, List.set_cons_succ]
   refine wpAnyH_ready (rs := [4]) (by kernel_rfl) (by simp) (AllReadyH.cons rfl (fun K hK => ?_) AllReadyH.nil)
   go_simp
   refine (HIHk.out _ (HSO.out _ (qaj _)).1).mono ?_
   rintro e w6 ⟨⟨h6, rfl, ht6⟩, hb6⟩
   dsimp only
   refine hK.out _ _ (HSO.out _ ((qaj _).trans (hb6.mono (qaj _).size))).2 (fun hHeld2 => ?_)
   clear hK K
   refine wpAnyH_take (i := 5) (v := .pointer (some ⟨gs, k * 16, none⟩)) rfl (by kernel_rfl) (by kernel_rfl) (by kernel_rfl) (fun _ _ _ h => h) (Or.inl ⟨by rfl, by intro w hSw; clear hSw; go_simp⟩) (by assumption) ?_
   simp only [Act.put, List.setIfInBounds_toArray, List.set_cons_zero, List.set_cons_succ]
   refine wpAnyH_ready (rs := [6]) (by kernel_rfl) (by simp) (AllReadyH.cons rfl (fun K hK => ?_) AllReadyH.nil)
   rw [if_pos (by rfl)]
   have hbA := (HSO.out _ (qaj _)).1.trans (hb6.mono (HSO.out _ (qaj _)).1.size)
   have hth := HR.out.r.there_row hlt
   refine wp_store_mid 52 _ _ rfl gs (k * 16) (qar h6).toArray rfl rfl (qck hth hbA) qap (qna h6) ?_
   simp only [Act.put, List.setIfInBounds_toArray, List.set_cons_zero, List.set_cons_succ]
   have hFC := qaB w6 gs (k * 16) (qar h6)
   refine hK.out _ _ ⟨?_, ?_⟩ (fun hHeld3 => ?_)
   ·have h1 := HR.out.s.s; have h2 := HGS.out
    exact (hFC.cell (p := ⟨w.heap.size, 15, none⟩) (by have := hbA.size; simp only; omega) (by simp; omega)).trans hHeld2.1
   ·have h1 := HHI.out (by omega); have h2 := HR.out.hi
    exact World.rangeAt_setCells_apart hHeld2.2 _ _ _ (.inl (by omega))
   clear hK K
   refine wpAnyH_done (by kernel_rfl) ?_ _
   have HX := Lib.hid (HR.out.step hbA (hh := h6) (TrAt.fr kTxOk ht6 (Fr.refl [] w6) (fun b _ h => ⟨by simp, Nat.le_trans (HSO.out _ (qaj _)).1.size h⟩)) hlt (HHI.out (by omega)) HGS.out)
   have hlk := HLT.out
   clear hFC hth hbA hHeld3 hHeld2 hHeld HR HSO HR0 ht6 hb6
   (try dsimp only [List.getElem_toArray, List.getElem_cons_succ, List.getElem_cons_zero])
   go_wp2_with fail
   go_roundw
   case rel => exact ⟨k + 1, by go_num, by omega, HX.out⟩
   case measure => show h.s.2.1 - ((↑k + 1 : Int)).toNat < h.s.2.1 - (↑k : Int).toNat; omega
  ·have hkn : k = h.s.2.1 := by omega
   subst hkn
   have gC : wr.heap[w.heap.size]? = some (.cells #[.int .i32 h.n.ty, .string h.n.path, .slice A0 h.d.2.1 c0, .slice A1 h.a.2.1 c1, .int .i64 h.n.ow, .int .i32 h.n.ve, .int .i32 h.n.cr, .bool h.n.qh, .int .i64 h.n.qc, .int .i64 h.n.qb, .int .i64 h.n.si, .int .i32 h.n.st, .slice A2 h.i.2.1 c2, .slice A3 h.p.2.1 c3, .int .i32 h.n.co, .slice A4 h.s.2.1 c4] 52 (0, 0)) := hR.s.c
   have gZ := hR.s.z
   have HF := Lib.hid (qaS wr (w.heap.size + 1) (qar ⟨h.n, (A0, h.d.2.1, c0), (A1, h.a.2.1, c1), (A2, h.i.2.1, c2), (A3, h.p.2.1, c3), (A4, h.s.2.1, c4)⟩).toArray)
   have HTH := Lib.hid (hR.r.other kTxOk HF.out (qbp hR.r.th HF.out (by have := HGS.out; simp; omega)) (by have := HGS.out; simp; omega) (fun g hg => by have := HSH.out; simp at hg; omega))
   have HR := Lib.hid hR
   clear hR HR0
   go_wp2_with (first
    | (apply qaw 52 52; exact rfl; exact rfl; exact rfl; (first | assumption | (refine qaa ?_; assumption) | (exact qab _ _) | (exact qae _ _ _) | (exact qag _ _ _ _) | (exact qas _ _ _ _ _) | (exact qaa (qab _ _)) | (exact qaa (qae _ _ _)) | (exact qaa (qag _ _ _ _)) | (exact qaa (qaa (qab _ _))) | (exact qaa (qaa (qae _ _ _))) | (exact qaa (qaa (qaa (qab _ _))))); exact qaF; exact rfl; exact qap)
    | (apply qam 52 52; exact rfl; exact rfl; exact rfl; exact rfl; (first | assumption | (refine qaa ?_; assumption) | (exact qab _ _) | (exact qae _ _ _) | (exact qag _ _ _ _) | (exact qas _ _ _ _ _) | (exact qaa (qab _ _)) | (exact qaa (qae _ _ _)) | (exact qaa (qag _ _ _ _)) | (exact qaa (qaa (qab _ _))) | (exact qaa (qaa (qae _ _ _))) | (exact qaa (qaa (qaa (qab _ _))))); exact qap; exact rfl; simp [Value.oneCell'])
    | fail)
   have hTR : TxAt (wr.setRow (w.heap.size + 1) (qar ⟨h.n, (A0, h.d.2.1, c0), (A1, h.a.2.1, c1), (A2, h.i.2.1, c2), (A3, h.p.2.1, c3), (A4, h.s.2.1, c4)⟩).toArray) (w.heap.size ≤ ·) ⟨h.n, (A0, h.d.2.1, c0), (A1, h.a.2.1, c1), (A2, h.i.2.1, c2), (A3, h.p.2.1, c3), (A4, h.s.2.1, c4)⟩ (.mk v subs) :=
    HTH.out.tree kTxOk (kTxOk.loc HR.out.l HF.out (fun b _ h => ⟨by simp; omega, by omega⟩)) HLEN.out rfl ⟨HA.out.1, HA.out.2.1⟩ (fun h0 => ⟨(HA.out.2.2 h0).1, by have := HGS.out; omega⟩) (fun b hb => by have := HSH.out; omega)
   exact qaD rfl rfl (setRow_heap _ _ _ _ _ _ gZ) qaF rfl qap rfl ⟨⟨_, rfl, hTR⟩, below_setRow HR.out.s.b (by omega) _⟩

open Go.RowKit Go.MapKept Go.Maps
/-- a block from B on, of which nothing is frozen -/
def NfR (w : World) (B b : Nat) : Prop := B ≤ b ∧ ∃ cs T, w.heap[b]? = some (.cells cs T (0, 0))
theorem NfR.fr {w w' : World} {B B' b : Nat} {own : List Nat} (H : NfR w B b) (hf : Fr own w w') (hn : b ∉ own) (hB : B' ≤ B) : NfR w' B' b := by
 obtain ⟨h1, cs, T, h2⟩ := H
 exact ⟨Nat.le_trans hB h1, cs, T, (hf.block b (Array.getElem?_eq_some_iff.1 h2).1 hn).trans h2⟩
theorem NfR.below {w w' : World} {B b : Nat} (H : NfR w B b) (hb : Below w.heap.size w w') : NfR w' B b := H.fr (Fr.of_below (own := []) hb) (by simp) (Nat.le_refl _)
theorem NfR.lt {w : World} {B b : Nat} (H : NfR w B b) : b < w.heap.size := by obtain ⟨_, cs, T, h⟩ := H; exact (Array.getElem?_eq_some_iff.1 h).1
theorem NfR.frz {w : World} {B b : Nat} (H : NfR w B b) (o : Nat) : w.frozen? ⟨b, o, none⟩ = false := by obtain ⟨_, cs, T, h⟩ := H; simp [World.frozen?, h]
/-- a block is none of a row -/
def offRow (A : Option Addr) (b : Nat) : Prop := ∀ o, A ≠ some ⟨b, o, none⟩
theorem offRow.none_ (b : Nat) : offRow none b := fun _ h => by cases h
section
variable {α : Type} [Inhabited α] {w w' : World} {enc : α → List Value} {T : TypeId} {k base n c : Nat} {A : Option Addr} {l : List α}
theorem qfA (h : w.ownsRow base T k (.slice A n c) n (l.flatMap enc)) (hk : ∀ x, (enc x).length = k) (hl : l.length = n) : SlR w (NfR w base) enc k (A, n, c) l := by
 have h0 := qbD h hk hl
 refine ⟨h0.1, h0.2.1, fun hn => ?_⟩
 obtain ⟨b, off, e, hb, hc⟩ := h0.2.2 hn
 rcases h.2 with ⟨e1, _⟩ | ⟨g, cap, cur, e1, h2, h3, _⟩
 ·injection e1 with e1; rw [e1] at e; cases e
 ·injection e1 with e1 _ _
  rw [e1] at e; injection e with e; injection e with e3 _
  exact ⟨b, off, by rw [e1, ← e3]; simp_all, ⟨hb, cur, T, by rw [← e3]; exact h3⟩, hc⟩
theorem qfx {base' : Nat} {v : Value} {xs : List Value} (h : w.ownsRow base T k v n xs) (hb : base' ≤ base) : w.ownsRow base' T k v n xs := by
 refine ⟨h.1, ?_⟩
 rcases h.2 with h | ⟨g, cap, cur, e1, h2, h3⟩
 ·exact .inl h
 ·exact .inr ⟨g, cap, cur, e1, Nat.le_trans hb h2, h3⟩
theorem qdA {xs : List Value} (h : w.ownsRow base T k (.slice A n c) n xs) : (A = none ∧ n = 0 ∧ c = 0) ∨ ∃ g cur, A = some ⟨g, 0, none⟩ ∧ base ≤ g ∧ w.heap[g]? = some (.cells cur T (0, 0)) ∧ n ≤ c ∧ cur.size = c * k := by
 rcases h.2 with ⟨e, e2⟩ | ⟨g, cap, cur, e1, h2, h3, h4, h5, h6, h7⟩
 ·injection e with e e3 e4
  exact .inl ⟨e, e2, e4⟩
 ·injection e1 with e1 e3 e4
  subst e4
  exact .inr ⟨g, cur, e1, h2, h3, h4, h6⟩
end
/-- where a row lies behind an append -/
def OnT (A A' : Option Addr) (w w' : World) : Prop := (A' = A ∧ ∃ b, A = some ⟨b, 0, none⟩ ∧ Fr [b] w w') ∨ (Below w.heap.size w w' ∧ ∃ b, A' = some ⟨b, 0, none⟩ ∧ w.heap.size ≤ b)
theorem qjQ {α : Type} [Inhabited α] {enc : α → List Value} {ST T : TypeId} {k bs : Nat} {z : Value} (E : ElemB enc ST T k bs z) {w : World} {base n c : Nat} {A : Option Addr} {l : List α} (hown : w.ownsRow base T k (.slice A n c) n (l.flatMap enc)) (hl : l.length = n) (ty : TypeId) (x : α) (g : Nat) (hx : w.rangeAt g 0 (enc x)) (hn : n ≤ 1048576) (hbase : base ≤ w.heap.size) :
  ∃ A' c' w', (Builtin.append_ #[ST, ST] ty #[.slice A n c, .slice (some ⟨g, 0, none⟩) 1 1]).run Tryz.prog w = .ok (.slice A' (n + 1) c') w' ∧ w'.ownsRow base T k (.slice A' (n + 1) c') (n + 1) ((l ++ [x]).flatMap enc) ∧ OnT A A' w w' := by
 obtain ⟨i0, hi0, hz0, hz1, hz2⟩ := qcj E.info
 have hnews : ∀ (j : Nat) (u : Value), (enc x)[j]? = some u → w.cell? ((⟨g, 0, none⟩ : Addr).add j) = some u := fun j u hu => by rw [Addr.add_lit]; exact hx j u hu
 have h1 : ∀ u ∈ enc x, u.oneCell' = true := E.one x
 have hlx : (enc x).length = 1 * k := by rw [E.len, Nat.one_mul]
 have hsm := E.small
 have hby : (n + 1) * bs ≤ 140737488355328 := by have := Nat.mul_le_mul (show n + 1 ≤ 1048577 by omega) hsm; omega
 have hfl : (l ++ [x]).flatMap enc = l.flatMap enc ++ enc x := by rw [List.flatMap_append, List.flatMap_singleton]
 have grows : ∀ (v' : Value) (w' : World), w'.ownsRow w.heap.size T k v' (n + 1) (l.flatMap enc ++ enc x) → w.grownBy w' none → ∃ A' c', v' = .slice A' (n + 1) c' ∧ w'.ownsRow base T k (.slice A' (n + 1) c') (n + 1) ((l ++ [x]).flatMap enc) ∧ OnT A A' w w' := by
  intro v' w' r1 r2
  obtain ⟨A2, c2, rfl⟩ := qcC r1
  refine ⟨A2, c2, rfl, ?_, .inr ⟨(Below.refl _ w).grown r2 (Nat.le_refl _) (fun j hj => by cases hj), ?_⟩⟩
  ·rw [hfl]; exact qfx r1 hbase
  ·rcases qdA r1 with ⟨_, h, _⟩ | ⟨b, cur, e, hb, _⟩
   ·omega
   ·exact ⟨b, e, hb⟩
 rcases qdA hown with ⟨rfl, rfl, rfl⟩ | ⟨b, cur, rfl, hb, hcur, hnc, hsz⟩
 ·have hl0 : l = [] := List.length_eq_zero_iff.1 hl
  subst hl0
  obtain ⟨v', w', hrun, r1, r2, _⟩ := run_append_own (P := Tryz.prog) w w.heap.size ST ty T i0 z k bs E.under hi0 hz0 hz1 hz2 E.size E.pos (.slice none 0 0) 0 [] (World.ownsRow_nil w _ _ k) ⟨g, 0, none⟩ 1 1 (enc x) hlx hnews h1 (by decide) (by omega) (Nat.le_refl _)
  obtain ⟨A', c', rfl, h2, h3⟩ := grows v' w' r1 r2
  exact ⟨A', c', w', hrun, h2, h3⟩
 ·by_cases hr : n + 1 ≤ c
  ·have hin : ∀ j, j < (enc x).length → n * k + j < cur.size := fun j hj => by
    have h2 := Nat.mul_le_mul_right k hr
    rw [Nat.add_mul, Nat.one_mul] at h2
    rw [E.len] at hj
    omega
   have hrun2 := run_append_room_cells (P := Tryz.prog) (w := w) ST ty T i0 E.under hi0 b 0 n c ⟨g, 0, none⟩ 1 1 (enc x) (by rw [hz1]; exact hlx) hnews h1 hr
    (fun j hj => by
     rw [hz1, Nat.zero_add]
     have hc : w.cell? ⟨b, n * k + j, none⟩ = cur[n * k + j]? := by simp [World.cell?, hcur]
     rw [hc, Array.getElem?_eq_getElem (hin j hj)]; rfl) (fun j hj => by simp [World.frozen?, hcur])
   obtain ⟨v', w', hrun, r1, r2, _⟩ := run_append_own (P := Tryz.prog) w base ST ty T i0 z k bs E.under hi0 hz0 hz1 hz2 E.size E.pos _ n _ hown ⟨g, 0, none⟩ 1 1 (enc x) hlx hnews h1 (by unfold maxLen; omega) hby hbase
   rw [hrun2] at hrun
   injection hrun with e1 e2
   subst e1 e2
   exact ⟨_, _, _, hrun2, by rw [hfl]; exact r1, .inl ⟨rfl, b, rfl, Fr.of_grown r2 (List.mem_singleton.2 rfl)⟩⟩
  ·have hown2 := hown
   obtain ⟨v', w', hrun, r1, r2⟩ := run_append_arg_grows (P := Tryz.prog) (w := w) ST ty T i0 z k bs E.under hi0 hz0 hz1 hz2 E.size E.pos ⟨b, 0, none⟩ n c (l.flatMap enc) (by rw [qch E.len, hl])
    (fun j u hu => by
     rw [Addr.add_lit, Nat.zero_add]
     exact hown2.cellAt j (by rw [← hown2.1]; exact (List.getElem?_eq_some_iff.1 hu).1) ▸ hu) ⟨g, 0, none⟩ 1 1 (enc x) hlx hnews (by omega) (by unfold maxLen; omega) hby
   obtain ⟨A', c', rfl, h2, h3⟩ := grows v' w' r1 r2
   exact ⟨A', c', w', hrun, h2, h3⟩
theorem qfa {α : Type} [Inhabited α] {enc : α → List Value} {ST T : TypeId} {k bs : Nat} {z : Value} (E : ElemB enc ST T k bs z) {ops : Array Oper} {rest : List Oper} {o : Oper} {a : Act} {Q : Exit → Act → World → Prop} {w : World} {base n c : Nat} {A : Option Addr} {l : List α} (hown : w.ownsRow base T k (.slice A n c) n (l.flatMap enc)) (hl : l.length = n) (x : α) (g : Nat) (hgd : o.guard = none) (s y : Operand)
  (ho : o.op = .call { callee := .builtin .append, args := #[s, y], argTypes := #[ST, ST] }) (hs : a.eval s = .slice A n c) (hy : a.eval y = .slice (some ⟨g, 0, none⟩) 1 1) (hx : w.rangeAt g 0 (enc x)) (hn : n ≤ 1048576) (hbase : base ≤ w.heap.size)
  (h : ∀ A' c' w', w'.ownsRow base T k (.slice A' (n + 1) c') (n + 1) ((l ++ [x]).flatMap enc) → OnT A A' w w' → wpList Tryz.prog ops Q rest (a.put o.dst (.slice A' (n + 1) c')) w') : wpList Tryz.prog ops Q (o :: rest) a w := by
 obtain ⟨A', c', w', hrun, hp, hor⟩ := qjQ E hown hl o.type x g hx hn hbase
 refine wpList_plain hgd fun K hK => ?_
 unfold Oper.wp
 simp [execOp, ho, resolve, invoke, builtin, hs, hy, hrun, Result.andThen]
 exact hK _ _ (h A' c' w' hp hor)
open Go.RowKit Go.MapKept
def qmH (t : DlT) (w : World) (e : Ending) (w' : World) : Prop := (∃ h', e = .returned (dlV h') ∧ DlAt w' (w.heap.size ≤ ·) h' t) ∧ Below w.heap.size w w'
theorem qca {w : World} {b o o' : Nat} {cs cs' : List Value} (h : w.rangeAt b o cs) (h' : w.rangeAt b o' cs') (e : o' = o + cs.length) : w.rangeAt b o (cs ++ cs') := fun j v hv => by
 rw [List.getElem?_append] at hv
 split at hv
 ·exact h j v hv
 ·rename_i hj
  have := h' _ v hv
  rwa [show o' + (j - cs.length) = o + j by omega] at this
theorem qbT {w : World} {b : Nat} {C : Array Value} {T : TypeId} (h : w.heap[b]? = some (.cells C T (0, 0))) (o n : Nat) (hn : o + n ≤ C.size) : w.there b o n := fun j hj => by
 have hj' : o + j < C.size := by omega
 refine ⟨?_, by simp [World.frozen?, h]⟩
 rw [qaf h, Array.getElem?_eq_getElem hj']; rfl
theorem qid (h : DlH) (t : DlT) (w : World) (R : Nat → Prop) (ht : DlAt w R h t) (hok : DlSm 1048576 t) : Calls Tryz.prog 109 #[dlV h] w (qmH t w) := by
 have HS := Lib.hid (CnSt.start w (rwDl h) rzDl 54)
 have HC := Lib.hid (fun (W : World) (hW : Below w.heap.size w W) => qfB t.t h.t W _ (TrAt.fr kTxOk (R' := R) ht.2 (Fr.of_below (own := []) hW) (fun b _ h => ⟨by simp, h⟩)) hok.2)
 have HE := Lib.hid ht.1
 have r0 : ((w.alloc (.cells (rwDl h) 54)).alloc (.cells rzDl 54)).rangeAt w.heap.size 4 (qar h.t) := qal (pre := [.int .i64 h.se, .int .i32 h.xi, .int .i64 h.zx, .int .i64 h.ti]) (mid := qar h.t) (post := []) HS.out.c rfl rfl
 clear ht hok
 go_enter Tryz.func109, Tryz.ntmps109
 go_wp2_with (first
  | (apply qai 54 54; exact rfl; exact rfl; exact rfl; (first | (with_reducible rfl) | (exact sz1 _ _) | (exact sz2 _ _ _) | (exact sz3 _ _ _ _)); exact rfl; exact qbC; exact rfl; simp [Value.oneCell'])
  | (apply qau 52; exact rfl; exact rfl; exact rfl; assumption; exact qaF; exact rfl; exact qap)
  | fail)
 refine (HC.out _ HS.out.b).mono ?_
 generalize ((w.alloc (.cells (rwDl h) 54)).alloc (.cells rzDl 54)) = V0 at *
 rintro e w1 ⟨⟨h6, rfl, ht6⟩, hb⟩
 have HB1 := Lib.hid hb
 have HSZ := Lib.hid HS.out.s
 replace HS := Lib.hid (HS.out.call hb)
 have hth : w1.there w.heap.size 4 16 := qbT HS.out.c _ _ (Nat.le_refl _)
 have hF := qaB w1 w.heap.size 4 (qar h6)
 have gZ : (w1.setCells w.heap.size 4 (qar h6)).heap[w.heap.size + 1]? = some (.cells rzDl 54 (0, 0)) := (hF.block _ (by have := HS.out.s; omega) (by simp)).trans HS.out.z
 have hp : (w1.setCells w.heap.size 4 (qar h6)).rangeAt w.heap.size 0 [.int .i64 h.se, .int .i32 h.xi, .int .i64 h.zx, .int .i64 h.ti] := World.rangeAt_setCells_apart (qal (pre := []) (mid := [.int .i64 h.se, .int .i32 h.xi, .int .i64 h.zx, .int .i64 h.ti]) (post := [.int .i32 h.t.n.ty, .string h.t.n.path, slV h.t.d, slV h.t.a, .int .i64 h.t.n.ow, .int .i32 h.t.n.ve, .int .i32 h.t.n.cr, .bool h.t.n.qh, .int .i64 h.t.n.qc, .int .i64 h.t.n.qb, .int .i64 h.t.n.si, .int .i32 h.t.n.st, slV h.t.i, slV h.t.p, .int .i32 h.t.n.co, slV h.t.s]) HS.out.c rfl rfl) _ _ _ (.inr (.inl (by simp)))
 have hrr : (w1.setCells w.heap.size 4 (qar h6)).rangeAt w.heap.size 0 (qaU ⟨h.se, h.xi, h.zx, h.ti, h6⟩) := qca hp (World.rangeAt_setCells_same w1 w.heap.size 4 (qar h6) hth) rfl
 have ht7 : TxAt (w1.setCells w.heap.size 4 (qar h6)) (w.heap.size + 2 ≤ ·) h6 t.t := TrAt.fr kTxOk ht6 hF (fun b _ h => ⟨by have := HSZ.out; simp; omega, Nat.le_trans HSZ.out h⟩)
 have HT7 := Lib.hid ht7; have HG := Lib.hid (And.intro (hF.below HS.out.b.size (by simp)) gZ)
 have HF := Lib.hid hF
 clear ht6 hb ht7 hp hF
 go_wp2_with (first
  | (apply qaW 52; exact rfl; exact rfl; exact rfl; exact rfl; assumption; exact qap; simp [Value.oneCell'])
  | (apply qau 54; exact rfl; exact rfl; exact rfl; assumption; exact qcn; exact rfl; exact qbC)
  | (apply qam 54 54; exact rfl; exact rfl; exact rfl; exact rfl; (first | assumption | (refine qaa ?_; assumption) | (exact qab _ _) | (exact qae _ _ _) | (exact qag _ _ _ _) | (exact qas _ _ _ _ _) | (exact qaa (qab _ _)) | (exact qaa (qae _ _ _)) | (exact qaa (qag _ _ _ _)) | (exact qaa (qaa (qab _ _))) | (exact qaa (qaa (qae _ _ _))) | (exact qaa (qaa (qaa (qab _ _))))); exact qbC; exact rfl; simp [Value.oneCell'])
  | fail)
 have hFr := qaS (w1.setCells w.heap.size 4 (qar h6)) (w.heap.size + 1) (qaU ⟨h.se, h.xi, h.zx, h.ti, h6⟩).toArray
 exact qaD rfl rfl (setRow_heap _ _ _ _ _ _ gZ) qcn rfl qbC rfl ⟨⟨⟨h.se, h.xi, h.zx, h.ti, h6⟩, rfl, ⟨HE.out, TrAt.fr kTxOk HT7.out hFr (fun b _ h => ⟨by simp; omega, by omega⟩)⟩⟩, below_setRow (HS.out.b.trans HG.out.1) (by omega) _⟩
section
variable {P : Program} {ops : Array Oper} {Q : Exit → Act → World → Prop} {md : Region.Mode} {S : World → Prop} {m : Nat}
/-- whatever order is picked; S holds behind each of the first m operations -/
def qbK (P : Program) (md : Region.Mode) (ops : Array Oper) (Q : Exit → Act → World → Prop) (S : World → Prop) (m : Nat) : Nat → Array Bool → Act → World → Prop
 | 0, listed, a, w => Region.ready md ops listed = [] ∧ Q .normal a w
 | f + 1, listed, a, w => (Region.ready md ops listed = [] → Q .normal a w) ∧ ∀ i ∈ Region.ready md ops listed, wpOp P ops Q i (fun a' w' => (i < m → S w') ∧ qbK P md ops Q S m f (listed.setIfInBounds i true) a' w') a w
theorem qfM : ∀ (f : Nat) (listed : Array Bool) (a : Act) (w : World), qbK P md ops Q S m f listed a w → wpAny P md ops Q f listed a w
 | 0, _, _, _, h => h
 | f + 1, _, _, _, h => ⟨h.1, fun i hi => wpOp_mono (fun a' w' h' => qfM f _ a' w' h'.2) (h.2 i hi)⟩
/-- every other operation from number m on waits for number i -/
def qeL (md : Region.Mode) (ops : Array Oper) (m i : Nat) : Bool := (List.range ops.size).all fun j => decide (j < m) || (j == i || Region.waitsFor md ops j i)
theorem qgo {i j : Nat} {oj : Oper} (h : qeL md ops m i = true) (hj : ops[j]? = some oj) (hm : m ≤ j) (hne : j ≠ i) : ∃ e ∈ oj.after, Region.binds md e = true ∧ e.on = i := by
 have h1 := List.all_eq_true.1 h j (List.mem_range.2 (Array.getElem?_eq_some_iff.1 hj).1)
 simp only [Bool.or_eq_true, decide_eq_true_eq, beq_iff_eq] at h1
 rcases h1 with h1 | h1 | h1
 ·omega
 ·exact absurd h1 hne
 ·obtain ⟨o, ho, e, he, hb, hon⟩ := Region.waitsFor_spec h1
  have : o = oj := Option.some.inj (ho.symm.trans hj)
  subst this
  exact ⟨e, he, hb, hon⟩
theorem qhF {i : Nat} {oi : Oper} {v : Value} (hi : ops[i]? = some oi) (hsel : ∀ (j : Nat) (o : Oper) cs b, ops[j]? = some o → o.op ≠ .select cs b) (hQ : ∀ c a w, Q (.panic c) (a.put oi.dst v) w → Q (.panic c) a w) (htw : qeL md ops m i = true) :
  ∀ (f : Nat) (listed : Array Bool) (a : Act) (w : World), (∀ j oj, ops[j]? = some oj → j ≠ i → listed.getD j true = false → (∀ e ∈ oj.after, Region.binds md e = true → e.on ≠ i) → oi.apart ops oj = true) →
   i ∈ Region.ready md ops listed → YieldsIf P ops S oi v a → S w → qbK P md ops Q S m f (listed.setIfInBounds i true) (a.put oi.dst v) w → qbK P md ops Q S m (f + 1) listed a w := by
 intro f
 induction f with
 | zero =>
  intro listed a w _ hr hy hS H
  refine ⟨fun h => absurd (h ▸ hr) (by simp), fun j hj => ?_⟩
  by_cases hji : j = i
  ·subst hji; exact hy.wpOp hi hS ⟨fun _ => hS, H⟩
  ·exact absurd (ready_mono hj hji) (by rw [H.1]; simp)
 | succ f ih =>
  intro listed a w hfree hr hy hS H
  refine ⟨fun h => absurd (h ▸ hr) (by simp), fun j hj => ?_⟩
  by_cases hji : j = i
  ·subst hji; exact hy.wpOp hi hS ⟨fun _ => hS, H⟩
  obtain ⟨hun, oj, hoj, hall⟩ := mem_ready.1 hj
  -- number i has not come up, so nothing that is ready waits for it
  have hno : ∀ e ∈ oj.after, Region.binds md e = true → e.on ≠ i := by
   intro e he hb hon
   have h1 := hall e he hb
   rw [hon, getD_both (mem_ready.1 hr).1] at h1
   cases h1
  have hjm : j < m := by
   rcases Nat.lt_or_ge j m with h | h
   ·exact h
   ·obtain ⟨e, he, hb, hon⟩ := qgo htw hoj h hji
    exact absurd hon (hno e he hb)
  have h2 := wpOp_putIf hoj (hfree j oj hoj hji hun hno) (fun cs b => hsel i oi cs b hi) (fun cs b => hsel j oj cs b hoj) hQ hy (H.2 j (ready_mono hj hji))
  refine wpOp_mono (fun a' w' h3 => ⟨fun _ => h3.2.1 hjm, ih _ a' w' ?_ (ready_mono hr (Ne.symm hji)) h3.1 (h3.2.1 hjm) ?_⟩) h2
  ·intro k ok hk hki hunk hnok
   refine hfree k ok hk hki ?_ hnok
   by_cases hjk : j = k
   ·subst hjk; exact hun
   ·rwa [getD_set_ne true hjk] at hunk
  ·rw [Array.setIfInBounds_comm _ _ hji]; exact h3.2.2
theorem qad {i : Nat} {oi : Oper} {v : Value} {f : Nat} {listed : Array Bool} {a : Act} {w : World} (hi : ops[i]? = some oi) (hB : (Region.noSelect ops && Region.free md ops listed i && (Region.ready md ops listed).contains i && qeL md ops m i) = true)
  (hQ : ∀ c a w, Q (.panic c) (a.put oi.dst v) w → Q (.panic c) a w) (hy : YieldsIf P ops S oi v a) (hS : S w) (h : qbK P md ops Q S m f (listed.setIfInBounds i true) (a.put oi.dst v) w) : qbK P md ops Q S m (f + 1) listed a w := by
 simp only [Bool.and_eq_true] at hB
 exact qhF hi (Region.noSelect_spec hB.1.1.1) hQ hB.2 f listed a w (Region.free_spec hi hB.1.1.2) (by simpa using hB.1.2) hy hS h
/-- number i alone may come up -/
theorem qaq {i : Nat} {o : Oper} {f : Nat} {listed : Array Bool} {a : Act} {w : World} (hi : ops[i]? = some o) (hr : Region.ready md ops listed = [i])
  (h : ∀ K' : Act → World → Prop, Shut (∀ a w, S w → qbK P md ops Q S m f (listed.setIfInBounds i true) a w → K' a w) → if Region.wanted o (yielded ops a.tmps) = true then Oper.wp P o a w K' Q else K' (a.put o.dst undef) w) : qbK P md ops Q S m (f + 1) listed a w := by
 refine ⟨fun h0 => absurd (hr ▸ h0) (by simp), fun j hj => ?_⟩
 rw [hr] at hj
 have hji : j = i := by simpa using hj
 subst hji
 exact wpOp_step hi (fun K' hK => h K' (fun a w hS hW => hK a w ⟨fun _ => hS, hW⟩))
/-- the head is through: the tail, in its one order -/
theorem qaG {l : List Oper} {n : Nat} {listed : Array Bool} {a : Act} {w : World} (hB : ((List.range m).all (fun i => listed.getD i true) && Region.seqB md l.toArray (l.drop n).length n listed) = true) (h : wpList P l.toArray Q (l.drop n) a w) : qbK P md l.toArray Q S m (l.drop n).length listed a w := by
 simp only [Bool.and_eq_true] at hB
 have H := wpAny_of_seq (P := P) (md := md) (Q' := Q) (l.drop n) n listed a w (fun j => by simp [List.getElem?_drop]) hB.2 h
 have hall : ∀ i, i < m → listed.getD i true = true := fun i hi => List.all_eq_true.1 hB.1 i (List.mem_range.2 hi)
 clear hB h
 generalize (l.drop n).length = f at H
 induction f generalizing listed a w with
 | zero => exact H
 | succ f ih =>
  refine ⟨H.1, fun i hi => wpOp_mono (fun a' w' h' => ⟨fun him => ?_, ih (fun k hk => ?_) h'⟩) (H.2 i hi)⟩
  ·have := (mem_ready.1 hi).1
   rw [hall i him] at this; cases this
  ·by_cases hik : i = k
   ·subst hik
    have := (mem_ready.1 hi).1
    rw [hall i hk] at this; cases this
   ·rw [getD_set_ne true hik]; exact hall k hk
theorem qaP {id : Nat} {a : Act} {w : World} (m : Nat) (hm : P.follows .mixedOrders = true) (hS : S w.drew) (h : S w.drew → qbK P .any ops Q S m ops.size (Array.replicate ops.size false) a w.drew) : (Code.region id ops true).wp P Q a w :=
 wp_region_any hm (qfM _ _ _ _ (h hS))
end
open Go.RowKit Go.MapKept Go.Maps
def encN (i : Int) : List Value := [.int .i64 i]
def IdxP (l : List Int) (v : Int) (w : World) (e : Ending) (w' : World) : Prop := ∃ r : Int, e = .returned (.int .i64 r) ∧ decide (0 ≤ r) = decide (v ∈ l) ∧ w' = w
theorem IdxP.mk {l : List Int} {v r : Int} {w : World} (h : 0 ≤ r ↔ v ∈ l) : IdxP l v w (.returned (.int .i64 r)) w := ⟨r, rfl, by simp only [h], rfl⟩
theorem qjz (A : Option Addr) (n c : Nat) (l : List Int) (v : Int) (w : World) (hz : Sl w w.heap.size encN 1 A n l) (hn : n ≤ 1099511627776) : Calls Tryz.prog 105 #[.slice A n c, .int .i64 v] w (IdxP l v w) := by
 have HZ := Lib.hid hz; have HL := Lib.hid hz.len
 clear hz
 go_enter Tryz.func105, Tryz.ntmps105
 go_wp2_with fail
 go_loop [8] (fun i => ∃ k : Nat, i = .int .i64 ↑k ∧ k ≤ n ∧ v ∉ l.take k) (fun i => n - (RowKit.intOf i).toNat)
 case atStart => exact ⟨0, rfl, Nat.zero_le _, by simp⟩
 case round =>
  obtain ⟨k, rfl, hk, hno⟩ := hrel
  have HNO := Lib.hid hno
  clear hno
  by_cases hlt : k < n
  ·obtain ⟨b, off, rfl, hbl, hc⟩ := HZ.out.cells hlt
   have hlk : k < l.length := by rw [HL.out]; exact hlt
   have HLK := Lib.hid hlk
   have c0 : w.cell? ⟨b, off + k, none⟩ = some (.int .i64 l[k]!) := by have := hc 0 _ rfl; simpa using this
   have HT := Lib.hid (qbi l k hlk)
   have HMM := Lib.hid (show l[k]! ∈ l by rw [getElem!_pos l k hlk]; exact List.getElem_mem _)
   clear hc hbl hlk
   by_cases he : v = l[k]!
   ·have d1 : (v == l[k]!) = true := beq_iff_eq.2 he
    have HI := Lib.hid (show 0 ≤ (k : Int) ↔ v ∈ l from ⟨fun _ => by rw [he]; exact HMM.out, fun _ => by omega⟩)
    clear he
    generalize l[k]! = x at *
    go_wp2_with fail
    go_ret
    exact IdxP.mk HI.out
   ·have d1 : (v == l[k]!) = false := beq_eq_false_iff_ne.2 he
    have HN2 := Lib.hid (show v ∉ l.take (k + 1) by rw [HT.out, List.mem_append, List.mem_singleton]; rintro (h | h); exact HNO.out h; exact he h)
    clear he
    generalize l[k]! = x at *
    go_wp2_with fail
    go_round
    case rel => exact ⟨k + 1, by go_num, by omega, HN2.out⟩
    case measure => show n - ((↑k + 1 : Int)).toNat < n - (↑k : Int).toNat; omega
  ·have HI := Lib.hid (show 0 ≤ (-1 : Int) ↔ v ∈ l from ⟨fun h => absurd h (by decide), fun h => by
    have := HNO.out
    rw [show k = l.length by rw [HL.out]; omega, List.take_length] at this
    exact absurd h this⟩)
   go_wp2_with fail
   go_ret
   exact IdxP.mk HI.out
def CtnB (d : Bool) (w : World) (e : Ending) (w' : World) : Prop := e = .returned (.bool d) ∧ w' = w
theorem CtnB.mk {d x : Bool} {w : World} (h : x = d) : CtnB d w (.returned (.bool x)) w := ⟨by rw [h], rfl⟩
theorem qgW (A : Option Addr) (n c : Nat) (l : List Int) (v : Int) (w : World) (hz : Sl w w.heap.size encN 1 A n l) (hn : n ≤ 1099511627776) : Calls Tryz.prog 59 #[.slice A n c, .int .i64 v] w (CtnB (decide (v ∈ l)) w) := by
 have hi := qjz A n c l v w hz hn
 clear hz
 generalize hd : decide (v ∈ l) = d at *
 have HD := Lib.hid hd; clear hd
 go_enter Tryz.func59, Tryz.ntmps59
 go_wp2_with fail
 refine hi.mono ?_
 rintro e w' ⟨r, rfl, hr, rfl⟩
 rw [HD.out] at hr
 have HR := Lib.hid hr
 clear hr
 go_wp2
 go_ret
 exact CtnB.mk HR.out
open Go.RowKit Go.MapKept Go.Maps
theorem qdE (h : List Int) : ∀ (l : List VtV) (i : Nat) (v : VtV) (g : Int), msum h i (l ++ [v]) g = msum h i l g + (if v.1 = g ∧ ((i + l.length : Nat) : Int) ∈ h then v.2 else 0)
 | [], i, v, g => by simp [msum]
 | x :: r, i, v, g => by
  rw [List.cons_append]
  show _ + msum h (i + 1) (r ++ [v]) g = (_ + msum h (i + 1) r g) + _
  rw [qdE h r (i + 1) v g, List.length_cons, show i + 1 + r.length = i + (r.length + 1) by omega]
  omega
theorem qei (h : List Int) : ∀ (l : List VtV) (i : Nat) (g : Int), (∀ v ∈ l, wOk v) → 0 ≤ msum h i l g ∧ msum h i l g ≤ l.length * 4294967296
 | [], i, g, _ => by simp [msum]
 | v :: r, i, g, hw => by
  have ih := qei h r (i + 1) g (fun x hx => hw x (List.mem_cons_of_mem _ hx))
  have hv := hw v List.mem_cons_self
  unfold wOk at hv
  unfold msum
  rw [List.length_cons]
  split <;> omega
theorem qdP {l : List VtV} (h : fitB l = true) : l.length ≤ 9 := by
 unfold fitB at h
 simp only [Bool.and_eq_true, decide_eq_true_eq] at h
 exact h.2
theorem qiE {K : List Int} {p left : Int → Bool} {i : Int} (hn : K.Nodup) (hi : i ∈ K) (hl : left i = true) :
  K.countP (fun g => !(left g && decide (g ≠ i)) && p g) = K.countP (fun g => !left g && p g) + (if p i then 1 else 0) := by
 induction K with
 | nil => cases hi
 | cons x r ih =>
  obtain ⟨hx, hr⟩ := List.nodup_cons.1 hn
  rw [List.countP_cons, List.countP_cons]
  by_cases e : i = x
  ·subst e
   have : r.countP (fun g => !(left g && decide (g ≠ i)) && p g) = r.countP (fun g => !left g && p g) := by
    apply List.countP_congr
    intro g hg
    have : g ≠ i := fun e => hx (e ▸ hg)
    simp [this]
   rw [this]
   simp [hl]
  ·have hi' : i ∈ r := (List.mem_cons.1 hi).resolve_left e
   rw [ih hr hi']
   have : x ≠ i := Ne.symm e
   simp only [ne_eq, this, not_false_eq_true, decide_true, Bool.and_true]
   omega
theorem qlO {l : List VtV} {K : List Int} (hn : K.Nodup) (hK : ∀ g, g ∈ K ↔ 0 < gsum l g) : K.length ≤ l.length ∧ ∀ g ∈ K, ∃ v ∈ l, v.1 = g := by
 have hm : ∀ g ∈ K, ∃ v ∈ l, v.1 = g := fun g hg => by
  apply Classical.byContradiction
  intro h
  have := qdF l g (fun v hv e => h ⟨v, hv, e⟩)
  have := (hK g).1 hg
  omega
 refine ⟨?_, hm⟩
 have := qdr (fun _ => true) (l1 := K) (l2 := l.map (·.1)) hn (fun g hg => by
  obtain ⟨v, hv, e⟩ := hm g hg
  exact List.mem_map.2 ⟨v, hv, e⟩)
 simpa using this
def QrmP (d : Bool) (w : World) (e : Ending) (w' : World) : Prop := e = .returned (.bool d) ∧ Below w.heap.size w w'
theorem QrmP.mk {d x : Bool} {w w' : World} (h : x = d) (hb : Below w.heap.size w w') : QrmP d w (.returned (.bool x)) w' := ⟨by rw [h], hb⟩
/-- the first loop's state: the sums of those who have it -/
structure QmR (w : World) (l : List VtV) (have_ K : List Int) (b b2 k : Nat) (wr : World) : Prop where
 s1 : SumM wr b K (gsum l)
 s2 : ∃ K2, SumM wr b2 K2 (msum have_ 0 (l.take k))
 bel : Below w.heap.size w wr
theorem QmR.row {w : World} {l : List VtV} {have_ K : List Int} {b b2 k : Nat} {wr w' : World} (h : QmR w l have_ K b b2 k wr) (hb : Below wr.heap.size wr w') : QmR w l have_ K b b2 k w' := by
 obtain ⟨K2, hs⟩ := h.s2
 exact ⟨h.s1.fr (Fr.of_below (own := []) hb) (by simp), ⟨K2, hs.fr (Fr.of_below (own := []) hb) (by simp)⟩, h.bel.trans (hb.mono h.bel.size)⟩
theorem QmR.skip {w : World} {l : List VtV} {have_ K : List Int} {b b2 k : Nat} {wr : World} (h : QmR w l have_ K b b2 k wr) (hk : k < l.length) (hn : (k : Int) ∉ have_) : QmR w l have_ K b b2 (k + 1) wr := by
 have e : msum have_ 0 (l.take (k + 1)) = msum have_ 0 (l.take k) := by
  funext g
  rw [qbi l k hk, qdE, List.length_take, Nat.zero_add, Nat.min_eq_left (by omega), if_neg (fun h => hn h.2)]; omega
 exact ⟨h.s1, by rw [e]; exact h.s2, h.bel⟩
theorem QmR.add {w : World} {l : List VtV} {have_ K : List Int} {b b2 k : Nat} {wr : World} (h : QmR w l have_ K b b2 k wr) (hk : k < l.length) (hn : (k : Int) ∈ have_) (hg : wfI l[k]!.1) (hb : w.heap.size ≤ b2) (hne : b ≠ b2) :
  ∃ w', (Instr.mapUpdate 125 (.map (some b2)) (.int .i64 l[k]!.1) (.int .i64 (msum have_ 0 (l.take k) l[k]!.1 + l[k]!.2))).run Tryz.prog wr = .ok () w' ∧ QmR w l have_ K b b2 (k + 1) w' := by
 obtain ⟨K2, hs⟩ := h.s2
 obtain ⟨w', K', h1, h2, h3, h4, h5⟩ := hs.put hg (msum have_ 0 (l.take k) l[k]!.1 + l[k]!.2)
 have e : msum have_ 0 (l.take (k + 1)) = fun x => if x = l[k]!.1 then msum have_ 0 (l.take k) l[k]!.1 + l[k]!.2 else msum have_ 0 (l.take k) x := by
  funext g
  rw [qbi l k hk, qdE, List.length_take, Nat.zero_add, Nat.min_eq_left (by omega)]
  by_cases hgx : g = l[k]!.1
  ·rw [if_pos ⟨hgx.symm, hn⟩, if_pos hgx, hgx]
  ·rw [if_neg (fun h => hgx h.1.symm), if_neg hgx]; omega
 exact ⟨w', h1, ⟨h.s1.fr (Fr.of_grown (own := [b2]) h4 (by simp)) (by simpa using hne), ⟨K', by rw [e]; exact h2⟩, h.bel.grown h4 h.bel.size (fun j hj => by injection hj with hj; omega)⟩⟩
/-- the second loop's state -/
def QnR (w : World) (l : List VtV) (have_ K : List Int) (b b2 r : Nat) (i : Value) (wr : World) : Prop :=
 ∃ left K2, RgI wr b r (K.map fun g => (g, .int .i64 (gsum l g))) left ∧ i = .int .i64 ↑(K.countP (fun g => !left g && wonB l have_ g)) ∧ SumM wr b2 K2 (msum have_ 0 l) ∧ SumM wr b K (gsum l) ∧ Below w.heap.size w wr
theorem qdm (A : Option Addr) (n c : Nat) (l : List VtV) (A' : Option Addr) (n' c' : Nat) (have_ : List Int) (w : World) (hz : Sl w w.heap.size encVt 2 A n l) (hg : ∀ v ∈ l, wfI v.1) (hz' : Sl w w.heap.size encN 1 A' n' have_) (hn' : n' ≤ 1099511627776) :
  Calls Tryz.prog 12 #[.slice A n c, .slice A' n' c'] w (QrmP (qbd l have_) w) := by
 have hgr := qdW A n c l w hz hg
 have HZ := Lib.hid hz; have HL := Lib.hid hz.len; have HG := Lib.hid hg; have HH := Lib.hid hz'
 have hmm := @run_makeMap Tryz.prog
 clear hz hg hz'
 go_enter Tryz.func12, Tryz.ntmps12
 go_wp2_with fail
 refine hgr.mono ?_
 rintro e w1 ⟨⟨mv, rfl, hok⟩, hb1⟩
 have HOK := Lib.hid hok
 have HB1 := Lib.hid hb1
 clear hok hb1
 cases hf : fitB l with
 | false =>
  have HQ := Lib.hid (show false = qbd l have_ by unfold qbd; rw [hf]; rfl)
  go_wp2_with fail
  go_ret
  exact QrmP.mk HQ.out HB1.out
 | true =>
 obtain ⟨b, K, rfl, hs, hK, hbw⟩ := HOK.out hf
 have HF := Lib.hid hf
 have HK := Lib.hid hK
 have HNE := Lib.hid (show b ≠ w1.heap.size from fun e => by have := hs.lt; omega)
 have HB2 := Lib.hid (show w.heap.size ≤ w1.heap.size from HB1.out.size)
 have hbm : Below w1.heap.size w1 (w1.alloc (.map #[] 0)) := (Below.refl _ w1).alloc (Nat.le_refl _) _
 have HR0 := Lib.hid (show QmR w l have_ K b w1.heap.size 0 (w1.alloc (.map #[] 0)) from ⟨hs.fr (Fr.of_below (own := []) hbm) (by simp), ⟨[], by
  have e : msum have_ 0 (l.take 0) = fun _ => 0 := by funext g; simp [msum]
  rw [e]; exact SumM.made w1⟩, HB1.out.trans (hbm.mono HB1.out.size)⟩)
 have HW := Lib.hid (fun v hv => (show wOk v from qhb hf v hv))
 have HL9 := Lib.hid (show n ≤ 9 by have := qdP hf; rw [HL.out] at this; exact this)
 clear hf hs hK hbw hbm HOK
 go_wp2_with fail
 generalize w1.heap.size = b2 at *
 go_loopw [23] (fun i wr => ∃ k : Nat, i = .int .i64 ↑k ∧ k ≤ n ∧ QmR w l have_ K b b2 k wr) (fun i _ => n - (RowKit.intOf i).toNat)
 case atStart => exact ⟨0, rfl, Nat.zero_le _, HR0.out⟩
 case round =>
  obtain ⟨k, rfl, hk, hR⟩ := hrel
  have HR := Lib.hid hR
  have hl9 := HL9.out
  by_cases hlt : k < n
  ·obtain ⟨b0, off, rfl, hbl, hc⟩ := (HZ.out.below hR.bel).cells hlt
   have hlk : k < l.length := by rw [HL.out]; exact hlt
   have HLK := Lib.hid hlk
   have c0 : wr.cell? ⟨b0, off + k * 2, none⟩ = some (.int .i64 l[k]!.1) := hc 0 _ rfl
   have c1 : wr.cell? ⟨b0, off + k * 2 + 1, none⟩ = some (.int .i64 l[k]!.2) := hc 1 _ rfl
   have hm : l[k]! ∈ l := by rw [getElem!_pos l k hlk]; exact List.getElem_mem _
   have HM := Lib.hid hm
   have hba : Below wr.heap.size wr (wr.alloc (.cells #[.int .i64 l[k]!.1, .int .i64 l[k]!.2] 82)) := (Below.refl _ wr).alloc (Nat.le_refl _) _
   have HRA := Lib.hid (hR.row hba)
   have HCN := Lib.hid (qgW A' n' c' have_ ↑k _ (HH.out.belowMore HRA.out.bel HRA.out.bel.size) hn')
   clear hR hc hbl hm hlk hba HR0
   by_cases hin : (k : Int) ∈ have_
   ·rw [decide_eq_true hin] at HCN
    obtain ⟨w', ru, hR'⟩ := HRA.out.add HLK.out hin (HG.out _ HM.out) HB2.out HNE.out
    obtain ⟨K2, hs2⟩ := HRA.out.s2
    have rl := hs2.look (HG.out _ HM.out) _ rfl
    have hov : IntKind.i64.wrap (msum have_ 0 (l.take k) l[k]!.1 + l[k]!.2) = msum have_ 0 (l.take k) l[k]!.1 + l[k]!.2 := by
     have h1 := qei have_ (l.take k) 0 l[k]!.1 (fun v hv => HW.out v (List.mem_of_mem_take hv))
     have h2 : (l.take k).length ≤ 9 := by rw [List.length_take]; omega
     have h3 := HW.out _ HM.out
     unfold wOk at h3
     rw [IntKind.wrap_i64]; omega
    have HR' := Lib.hid hR'
    clear hs2 hR' HR HRA hin
    generalize msum have_ 0 (l.take k) l[k]!.1 = s at *
    generalize l[k]! = v at *
    go_wp2_with (go_at_call 59; refine HCN.out.mono ?_; rintro e w9 ⟨rfl, rfl⟩)
    go_roundw
    case rel => exact ⟨k + 1, by go_num, by omega, HR'.out⟩
    case measure => show n - ((↑k + 1 : Int)).toNat < n - (↑k : Int).toNat; omega
   ·rw [decide_eq_false hin] at HCN
    have HR' := Lib.hid (HRA.out.skip HLK.out hin)
    clear HR HRA hin
    generalize l[k]! = v at *
    go_wp2_with (go_at_call 59; refine HCN.out.mono ?_; rintro e w9 ⟨rfl, rfl⟩)
    go_roundw
    case rel => exact ⟨k + 1, by go_num, by omega, HR'.out⟩
    case measure => show n - ((↑k + 1 : Int)).toNat < n - (↑k : Int).toNat; omega
  ·have hkn : k = n := by omega
   subst hkn
   obtain ⟨K2, hs2⟩ := hR.s2
   rw [List.take_of_length_le (by rw [HL.out]; exact Nat.le_refl _)] at hs2
   obtain ⟨w2, rr, hrg, hbr, hsz⟩ := hR.s1.1.range Tryz.underlying125
   have HQ0 := Lib.hid (show QnR w l have_ K b b2 wr.heap.size (.int .i64 0) w2 from ⟨_, K2, hrg, by simp, hs2.fr (Fr.of_below (own := []) hbr) (by simp), hR.s1.fr (Fr.of_below (own := []) hbr) (by simp), hR.bel.trans (hbr.mono hR.bel.size)⟩)
   have HRW := Lib.hid (show w.heap.size ≤ wr.heap.size ∧ b2 < wr.heap.size from ⟨hR.bel.size, hs2.lt⟩)
   have HND := Lib.hid hR.s1.nodup
   clear hs2 hrg hbr hsz HR hR HR0
   go_wp2_with fail
   generalize wr.heap.size = r at *
   go_loopw [10] (fun i wq => QnR w l have_ K b b2 r i wq) (fun _ wq => wq.rangeLeft b r)
   case atStart => exact HQ0.out
   case round =>
    obtain ⟨left, K2, hrg, rfl, hs2, hs1, hb⟩ := hrel
    have HKL := Lib.hid (qlO HND.out HK.out)
    have HB := Lib.hid hb
    have hl9' := HL9.out
    rcases hrg.next with ⟨hdone, rn⟩ | ⟨i, v, hm, hli, w3, rn, hrg3, hg3, hs3, hms, ren⟩
    ·have HE := Lib.hid (show decide (K.length < 2 * K.countP (fun g => !left g && wonB l have_ g)) = qbd l have_ by
      rw [qgv l have_ K HND.out HK.out, HF.out, Bool.true_and]
      have : K.countP (fun g => !left g && wonB l have_ g) = K.countP (wonB l have_) := List.countP_congr fun g hg => by
       have := hdone (g, .int .i64 (gsum l g)) (List.mem_map.2 ⟨g, hg, rfl⟩)
       dsimp only at this
       simp [this]
      rw [this])
     have rl := hs1.len
     have hle : K.countP (fun g => !left g && wonB l have_ g) ≤ 9 := Nat.le_trans List.countP_le_length (by have := HKL.out.1; rw [HL.out] at this; omega)
     clear hdone hrg hs2 hs1 hb HQ0 rr
     generalize K.countP (fun g => !left g && wonB l have_ g) = m at *
     generalize K.length = kl at *
     have hov : IntKind.i64.wrap (2 * (m : Int)) = 2 * (m : Int) := by rw [IntKind.wrap_i64]; omega
     have HE2 := Lib.hid (show decide ((kl : Int) < 2 * (m : Int)) = qbd l have_ from (decide_eq_decide.2 (by omega)).trans HE.out)
     go_wp2_with fail
     go_ret
     exact QrmP.mk HE2.out HB.out
    ·obtain ⟨g, hgK, ee⟩ := List.mem_map.1 hm
     injection ee with ee1 ee2
     subst ee1 ee2
     have hfr := Fr.of_grown (own := [r]) hg3 (by simp)
     have hbr : w.heap.size ≤ r := HRW.out.1
     obtain ⟨vg, hvg, ev⟩ := HKL.out.2 g hgK
     have rl := hs2.look (g := g) (by rw [← ev]; exact HG.out _ hvg) w3 (hfr.block b2 hs2.lt (by have := HRW.out.2; simp; omega))
     have hle : K.countP (fun g => !left g && wonB l have_ g) ≤ 9 := Nat.le_trans List.countP_le_length (by have := HKL.out.1; rw [HL.out] at this; omega)
     have hsb := qei have_ l 0 g HW.out
     have hll : l.length ≤ 9 := by rw [HL.out]; exact hl9'
     have HN := Lib.hid (show QnR w l have_ K b b2 r (.int .i64 ↑(K.countP (fun g => !left g && wonB l have_ g) + if wonB l have_ g then 1 else 0)) w3 from
      ⟨_, K2, hrg3, by rw [qiE HND.out hgK hli], hs2.fr hfr (by have := HRW.out.2; simp; omega), hs1.fr hfr (by have := HRW.out.2; have := hs1.lt; have h9 := HNE.out; have := hrg.1; simp; exact fun e => hrg.1 e.symm), HB.out.grown hg3 HB.out.size (fun j hj => by injection hj with hj; omega)⟩)
     have HMS := Lib.hid hms
     have hov : IntKind.i64.wrap (2 * msum have_ 0 l g) = 2 * msum have_ 0 l g := by rw [IntKind.wrap_i64]; omega
     have HWD := Lib.hid (show wonB l have_ g = decide (gsum l g < 2 * msum have_ 0 l g) from rfl)
     clear hrg hrg3 hs2 hs1 hb hm hfr hli hsb hms hgK hvg ev hbr HQ0 rr hs3 hg3 HKL
     generalize K.countP (fun g => !left g && wonB l have_ g) = m at *
     generalize msum have_ 0 l g = s at *
     generalize gsum l g = y at *
     have hov2 : IntKind.i64.wrap ((m : Int) + 1) = (m : Int) + 1 := by rw [IntKind.wrap_i64]; omega
     by_cases hy : y < 2 * s
     ·have d1 : decide (y < 2 * s) = true := decide_eq_true hy
      rw [HWD.out, d1] at HN
      clear hy HWD
      go_wp2_with fail
      go_roundw
      case rel => exact HN.out
      case measure => exact HMS.out
     ·have d1 : decide (y < 2 * s) = false := decide_eq_false hy
      rw [HWD.out, d1] at HN
      clear hy HWD
      go_wp2_with fail
      go_roundw
      case rel => exact HN.out
      case measure => exact HMS.out
open Go.RowKit

def qbG (s : ByteArray) : Nat → Nat → Int × Int
 | 0, _ => (-1, 1)
 | f + 1, p => if p < s.size then (if qbh s p = 1 then qbG s f (p + qaJ s p) else ((p : Int), qbh s p)) else (-1, 1)
def qey (s : ByteArray) : Int × Int := qbG s s.size 0
theorem qfN (s : ByteArray) (f p : Nat) (h : ¬ p < s.size) : qbG s f p = (-1, 1) := by cases f <;> simp [qbG, h]
theorem qde (s : ByteArray) (f p : Nat) (h : p < s.size) (hk : qbh s p = 1) : qbG s (f + 1) p = qbG s f (p + qaJ s p) := by simp [qbG, h, hk]
theorem qdN (s : ByteArray) (f p : Nat) (h : p < s.size) (hk : qbh s p ≠ 1) : qbG s (f + 1) p = ((p : Int), qbh s p) := by simp [qbG, h, hk]

def Ret2 (w : World) (a b : Int) (e : Ending) (w' : World) : Prop := e = .returned (.tuple #[.int .i64 a, .int .i64 b]) ∧ Below w.heap.size w w'
theorem Ret2.mk {w w' : World} {a b c d : Int} (h : Below w.heap.size w w') (e : c = a ∧ d = b) : Ret2 w a b (.returned (.tuple #[.int .i64 c, .int .i64 d])) w' := ⟨by rw [e.1, e.2], h⟩
theorem qkP (s : ByteArray) (hs : s.size ≤ 140737488355328) (w : World) :
  Calls Tryz.prog 242 #[.string s] w (Ret2 w (qey s).1 (qey s).2) := by
 go_enter Tryz.func242, Tryz.ntmps242
 go_wp2
 go_loopw [] (fun wr => ∃ (p f : Nat), wr.heap[w.heap.size]? = some (.stringIter s p) ∧ Below w.heap.size w wr ∧ qbG s f p = qey s ∧ s.size ≤ p + f) (fun wr => s.size - wr.iterPos w.heap.size)
 case atStart => exact ⟨0, s.size, World.iter_heap w s 0, (Below.refl _ w).alloc (Nat.le_refl _) _, rfl, by omega⟩
 case round =>
  obtain ⟨p, f, hit, hbw, hF, hfu⟩ := hrel
  have HF := Lib.hid hF; clear hF
  by_cases hp : p < s.size
  ·have hnx : ∀ ty, (Instr.next (.pointer (some ⟨w.heap.size, 0, none⟩)) true ty).run Tryz.prog wr = _ := fun ty => Lib.run_next_any_at wr w.heap.size s p ty hit hp
   have hd1 := qgu s p
   have hit2 := Lib.iterAt_heap wr w.heap.size s p (p + (Utf8.decode s p).2) hit
   have hbw2 := Lib.below_iterAt hbw (k := w.heap.size) (by omega) s (p + (Utf8.decode s p).2)
   have HIT := Lib.hid hit; have HIT2 := Lib.hid hit2; have HB2 := Lib.hid hbw2; have HB := Lib.hid hbw
   clear hit hit2 hbw hbw2
   have hw1 := qdi s p
   obtain ⟨g, rfl⟩ : ∃ g, f = g + 1 := ⟨f - 1, by omega⟩
   by_cases hk : qbh s p = 1
   ·have HK := Lib.hid hk
    have hkb : (qbh s p == 1) = true := by simp [hk]
    have hkc : (qbh s p != 1) = false := by simp [hk]
    clear hk
    go_wp2_with (go_at_call 264; refine (qkD s p hp hs _).mono ?_; rintro e w' ⟨rfl, rfl⟩)
    go_roundw
    case rel => exact ⟨p + qaJ s p, g, HIT2.out, HB2.out, by rw [← HF.out, qde s g p hp HK.out], by omega⟩
    case measure =>
     have e1 := HIT2.out; have e0 := HIT.out
     simp only [World.iterPos, e1, e0]
     unfold qaJ at hw1; omega
   ·have HK := Lib.hid hk
    have hkb : (qbh s p == 1) = false := by simp [hk]
    have hkc : (qbh s p != 1) = true := by simp [hk]
    clear hk
    go_wp2_with (go_at_call 264; refine (qkD s p hp hs _).mono ?_; rintro e w' ⟨rfl, rfl⟩)
    go_ret2
    exact Ret2.mk HB2.out (by rw [← HF.out, qdN s g p hp HK.out]; exact ⟨rfl, rfl⟩)
  ·have hnx : ∀ ty, (Instr.next (.pointer (some ⟨w.heap.size, 0, none⟩)) true ty).run Tryz.prog wr = _ := fun ty => Lib.run_next_end_at wr w.heap.size s p ty hit hp
   have HB := Lib.hid hbw; clear hbw
   go_wp2
   go_ret2
   exact Ret2.mk HB.out (by rw [← HF.out, qfN s f p hp]; exact ⟨rfl, rfl⟩)


/-- the part that begins at a place: up to the next '/' or the end -/
def qcl (s : ByteArray) (q : Nat) : Nat := qav 47 (s.data.toList.drop q)
def qbZ (s : ByteArray) (q : Nat) : List UInt8 := (s.data.toList.drop q).take (qcl s q)
def qlr (s : ByteArray) (q : Nat) : Bool := decide (qbZ s q = [46]) || decide (qbZ s q = [46, 46])
def qcz (s : ByteArray) (p : Nat) : Bool := decide (0 < p) && decide (s.get! (p - 1) = 47)
/-- may a character stand where it stands? -/
def qdz (s : ByteArray) (p : Nat) : Bool := decide (qbh s p = 1) && (!decide (s.get! p = 47) || (!qcz s p && !qlr s (p + 1)))
def qbw (s : ByteArray) : Nat → Nat → Bool
 | 0, _ => true
 | f + 1, p => if p < s.size then qdz s p && qbw s f (p + qaJ s p) else true
def qcy : ByteArray := ⟨#[47]⟩
/-- is a text a path? -/
def qaH (s : ByteArray) : Bool := decide (s.size ≠ 0) && decide (s.size ≤ 4096) && decide (s.get! 0 = 47) && (decide (s.size = 1) || (!decide (s.get! (s.size - 1) = 47) && qbw s s.size 0))

theorem qgE (s : ByteArray) (f p : Nat) (h : ¬ p < s.size) : qbw s f p = true := by cases f <;> simp [qbw, h]
theorem qdq (s : ByteArray) (f p : Nat) (h : p < s.size) : qbw s (f + 1) p = (qdz s p && qbw s f (p + qaJ s p)) := by simp [qbw, h]
theorem qgD (s : ByteArray) : ∀ f p, (qbG s f p).1 = -1 ∨ (p : Int) ≤ (qbG s f p).1
 | 0, _ => .inl rfl
 | f + 1, p => by
  by_cases h : p < s.size
  ·by_cases hk : qbh s p = 1
   ·rw [qde s f p h hk]
    have := qgD s f (p + qaJ s p)
    omega
   ·rw [qdN s f p h hk]; exact .inr (Int.le_refl _)
  ·rw [qfN s (f + 1) p h]; exact .inl rfl
theorem qoi (s : ByteArray) (f p : Nat) (h : p < s.size) : (p : Int) = (qbG s (f + 1) p).1 ↔ qbh s p ≠ 1 := by
 by_cases hk : qbh s p = 1
 ·rw [qde s f p h hk]
  have h1 := qgD s f (p + qaJ s p)
  have h2 := qdi s p
  constructor
  ·intro e; omega
  ·intro e; exact absurd hk e
 ·rw [qdN s f p h hk]
  exact ⟨fun _ => hk, fun _ => rfl⟩
theorem qeD (s : ByteArray) (p : Nat) (h : s.get! p = 47) : Utf8.decode s p = (47, 1) := by
 rw [Lib.decode_at, qcY _ _ _ _ _ (by rw [h]; decide), h]; rfl
theorem qfQ (s : ByteArray) (p : Nat) : (Utf8.decode s p).1 = 47 ↔ s.get! p = 47 := by
 constructor
 ·intro h
  by_cases hb : (s.get! p).toNat < 128
  ·rw [Lib.decode_at, qcY _ _ _ _ _ hb] at h
   exact UInt8.toNat_inj.1 h
  ·have := (qdB (s.size - p) (s.get! p).toNat (s.get! (p + 1)).toNat (s.get! (p + 2)).toNat (s.get! (p + 3)).toNat hb).1
   rw [← Lib.decode_at] at this
   omega
 ·intro h; rw [qeD s p h]
theorem qji (s : ByteArray) (p : Nat) (h : s.get! p = 47) : qaJ s p = 1 := by unfold qaJ; rw [qeD s p h]
theorem qja (s : ByteArray) (p : Nat) (h : s.get! p = 47) : qbh s p = 1 := by unfold qbh; rw [qeD s p h]; decide
/-- the byte ahead of the next character is a '/' just where this character is one -/
theorem qka (s : ByteArray) (p : Nat) : s.get! (p + qaJ s p - 1) = 47 ↔ s.get! p = 47 := by
 by_cases hb : (s.get! p).toNat < 128
 ·have : qaJ s p = 1 := by unfold qaJ; rw [Lib.decode_at, qcY _ _ _ _ _ hb]
  rw [this]; rfl
 ·have h := qdB (s.size - p) (s.get! p).toNat (s.get! (p + 1)).toNat (s.get! (p + 2)).toNat (s.get! (p + 3)).toNat hb
  rw [← Lib.decode_at] at h
  have h1 := qdi s p
  have h4 := qkl s p
  change 128 ≤ (Utf8.decode s p).1 ∧ (1 < qaJ s p → _) ∧ (2 < qaJ s p → _) ∧ (3 < qaJ s p → _) ∧ _ at h
  have n47 : ∀ k, (s.get! k) = 47 → (s.get! k).toNat = 47 := fun k e => by rw [e]; rfl
  constructor
  ·intro e
   exfalso
   have e' := n47 _ e
   rcases (show qaJ s p = 1 ∨ qaJ s p = 2 ∨ qaJ s p = 3 ∨ qaJ s p = 4 by omega) with q | q | q | q
   all_goals rw [q] at e' h
   ·exact hb (by rw [show p + 1 - 1 = p from rfl] at e'; omega)
   ·have := (h.2.1 (by omega)).1; rw [show p + 2 - 1 = p + 1 from rfl] at e'; omega
   ·have := (h.2.2.1 (by omega)).1; rw [show p + 3 - 1 = p + 2 from rfl] at e'; omega
   ·have := (h.2.2.2.1 (by omega)).1; rw [show p + 4 - 1 = p + 3 from rfl] at e'; omega
  ·intro e; exact absurd (n47 _ e) (by omega)
theorem qgz (s : ByteArray) (p : Nat) (h : s.get! p ≠ 47) : qdz s p = decide (qbh s p = 1) := by simp [qdz, h]
theorem qex (s : ByteArray) (p : Nat) (h : s.get! p = 47) : qdz s p = (!qcz s p && !qlr s (p + 1)) := by simp [qdz, h, qja s p h]
open Go.RowKit
/-! ### Which deltas may be -/
def badB (s : ByteArray) : Bool := !qaH s || decide (s = qcy)
def qbH (v : TxF) : Bool := if v.n.ty = 1 ∨ v.n.ty = 2 then badB v.n.path else if qbg v.n.ty then !qaH v.n.path else if v.n.ty = -11 then v.paths.any badB else false
def qaO (x : IdV) : Bool := decide (256 < x.1.size) || decide (256 < x.2.size)
def qbz (v : TxF) (k : Nat) : Bool := decide (1048575 < v.data.length) || decide (16 < v.acl.length) || decide (1024 < v.paths.length) || decide (1024 < k) || v.acl.any (fun a => qaO a.2) || v.ids.any qaO
def qbJ (v : TxF) (k : Nat) : Bool :=
 (!qbg v.n.ty && decide (v.n.path ≠ ByteArray.empty)) || (!decide (v.n.ty = 1 ∨ v.n.ty = 5) && decide (v.data ≠ [])) || (!decide (v.n.ty = 1 ∨ v.n.ty = 7) && decide (v.acl ≠ [])) ||
 (!decide (v.n.ty = 1) && decide (v.n.ow ≠ 0)) || (!decide (v.n.ty = 1) && decide (v.n.cr ≠ 0)) || (!decide (v.n.ty = 5 ∨ v.n.ty = 7 ∨ v.n.ty = 13) && decide (v.n.ve ≠ 0)) ||
 (!decide (v.n.ty = 120) && (v.n.qh || decide (v.n.qc ≠ 0) || decide (v.n.qb ≠ 0))) || (!decide (v.n.ty = -11) && decide (v.paths ≠ [])) || (!decide (v.n.ty = -1) && decide (v.n.co ≠ 0)) || (!decide (v.n.ty = 14) && decide (k ≠ 0)) ||
 (!decide (v.n.ty = -10) && (decide (v.n.si ≠ 0) || decide (v.n.st ≠ 0) || decide (v.ids ≠ [])))
def qeV (s : ByteArray) : Bool := Lib.validD s.data.toList
def cmpB (a b : ByteArray) : Int := Lib.compareBytes a.data.toList b.data.toList
/-- do paths not rise? -/
def qbR (l : List ByteArray) : Bool := (List.range (l.length - 1)).any fun j => decide (0 ≤ cmpB l[j]! l[j + 1]!)
open Classical in
noncomputable def oddB (z : Int) (v : TxF) (k : Nat) : Bool :=
 v.acl.any (fun a => !qeV a.2.1 || !qeV a.2.2) || qbJ v k ||
 (if v.n.ty = -11 then qbR v.paths else if v.n.ty = 120 then (!v.n.qh || decide (v.n.qc < -1) || decide (v.n.qb < -1)) else if v.n.ty = -10 then (decide (v.n.si ≠ 0) || !decide (qco (z, v.n.st, v.ids))) else if v.n.ty = -1 then decide (0 ≤ v.n.co) else false)
noncomputable def ownE (z : Int) (v : TxF) (k : Nat) : Int := if qbH v then 30 else if qbz v k then 3 else if oddB z v k then 1 else 0
/-- the error of the first part that is wrong -/
noncomputable def qbL (z : Int) : List TxT → Int
 | [] => 0
 | t :: r => if !qbg t.v.n.ty then 110 else if ownE z t.v t.subs.length ≠ 0 then ownE z t.v t.subs.length else qbL z r
noncomputable def qaQ (d : DlT) : Int :=
 if !qbt d.t.v.n.ty then 110 else if d.zx < 1 then 1 else if ownE d.zx d.t.v d.t.subs.length ≠ 0 then ownE d.zx d.t.v d.t.subs.length else qbL d.zx d.t.subs
end Go.Proofs.YtbpmmmnphpkdjaaGreatDoor
