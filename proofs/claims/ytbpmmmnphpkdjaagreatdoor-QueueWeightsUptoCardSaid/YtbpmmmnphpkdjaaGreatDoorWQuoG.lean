/- Words for slices whose elements have several cells: what such a slice reads as, and that it goes on reading so. -/
import Derived.Below
import Derived.Laws.OwnMore
import Derived.Deep.AppendLies
import Derived.Deep.Draws
import Derived.Lib.Hide
import Derived.WalkKit
import Derived.Laws.StructEq
import Derived.Test.YtbpmmmnphpkdjaaGreatDoorWOwnI
import Derived.Laws.AppendOwnNone
import Derived.Test.YtbpmmmnphpkdjaaGreatDoorWAddrP
import Derived.Lib.CutLaws
import Derived.Test.YtbpmmmnphpkdjaaGreatDoorProg
import Derived.Lib.SlicesS
import Derived.Lib.ValidU
import Derived.LoopTactic
import Derived.Deep.QuietTactic
import Derived.BigQuiet
import Derived.BigCall
import Derived.Test.YtbpmmmnphpkdjaaGreatDoorWShelf
import Derived.Test.YtbpmmmnphpkdjaaGreatDoorRows
import Derived.Lib.LaidU8
import Derived.LaidLaws
import Derived.Lib.TrimU
import Derived.Lib.QuoteLoop
import Derived.Lib.OthersKept
import Derived.Lib.AtoiAllCases
import Derived.Lib.AppendIntMem
import Derived.Laws.BitsAll
import Derived.Outline
import Derived.Test.YtbpmmmnphpkdjaaGreatDoorWFrame
import Derived.Deep.Slices
import Derived.ChangeArms
import Derived.WideShapes
import Derived.Laws.Rows
import Derived.Laws.Tables
import Derived.Deep.WholeRow
import Derived.Deep.MidRow
import Derived.Laws.CopyOwn
namespace Go.Proofs.YtbpmmmnphpkdjaaGreatDoor
set_option linter.unusedSimpArgs false
set_option maxRecDepth 100000
set_option maxHeartbeats 20000000
open Go.RowKit

theorem qac {B : Nat} {a w : World} (h : Below B a w) (q : Nat) : Below B a (w.drewN q) := ⟨h.os, h.tape, h.output, h.size, h.block⟩
theorem qbl (w : World) (q : Nat) : Below w.heap.size w (w.drewN q) := qac (Below.refl _ _) q

/-- the slice value '.slice A n _' holds the elements zs, k cells each, and lies below block B -/
def Sl {α : Type} [Inhabited α] (w : World) (B : Nat) (enc : α → List Value) (k : Nat) (A : Option Addr) (n : Nat) (zs : List α) : Prop :=
 zs.length = n ∧ (0 < n → ∃ b off, A = some ⟨b, off, none⟩ ∧ b < B ∧ ∀ j, j < n → ∀ i u, (enc zs[j]!)[i]? = some u → w.cell? ⟨b, off + j * k + i, none⟩ = some u)

section
variable {α : Type} [Inhabited α] {w w' : World} {B B' k n : Nat} {enc : α → List Value} {A : Option Addr} {zs : List α}
theorem Sl.len (h : Sl w B enc k A n zs) : zs.length = n := h.1
theorem Sl.nil_ : Sl w B enc k A 0 ([] : List α) := ⟨rfl, fun h => absurd h (by omega)⟩
theorem Sl.keep (h : Sl w B enc k A n zs) (hk : ∀ p : Addr, p.block < B → w'.cell? p = w.cell? p) : Sl w' B enc k A n zs :=
 ⟨h.1, fun hn => by
  obtain ⟨b, off, e, hb, hc⟩ := h.2 hn
  exact ⟨b, off, e, hb, fun j hj i u hu => (hk _ hb).trans (hc j hj i u hu)⟩⟩
theorem Sl.more (h : Sl w B enc k A n zs) (hB : B ≤ B') : Sl w B' enc k A n zs :=
 ⟨h.1, fun hn => by
  obtain ⟨b, off, e, hb, hc⟩ := h.2 hn
  exact ⟨b, off, e, by omega, hc⟩⟩
theorem Sl.below (h : Sl w B enc k A n zs) (hb : Below B w w') : Sl w' B enc k A n zs := h.keep fun _ hp => hb.cell hp
theorem Sl.belowMore (h : Sl w B enc k A n zs) (hb : Below B w w') (hB : B ≤ B') : Sl w' B' enc k A n zs := (h.below hb).more hB
theorem Sl.drewN (h : Sl w B enc k A n zs) (q : Nat) : Sl (w.drewN q) B enc k A n zs := h
theorem Sl.cells {j : Nat} (h : Sl w B enc k A n zs) (hj : j < n) : ∃ b off, A = some ⟨b, off, none⟩ ∧ b < B ∧ ∀ i u, (enc zs[j]!)[i]? = some u → w.cell? ⟨b, off + j * k + i, none⟩ = some u := by
 obtain ⟨b, off, e, hb, hc⟩ := h.2 (by omega)
 exact ⟨b, off, e, hb, hc j hj⟩
theorem qeP (hk : ∀ x, (enc x).length = k) : ∀ (zs : List α) (j i : Nat) (u : Value), j < zs.length → (enc zs[j]!)[i]? = some u → (zs.flatMap enc)[j * k + i]? = some u
 | [], _, _, _, h, _ => absurd h (by simp)
 | x :: r, 0, i, u, _, h => by
  have hx : (x :: r)[0]! = x := rfl
  rw [hx] at h
  have hi : i < (enc x).length := (List.getElem?_eq_some_iff.1 h).1
  rw [List.flatMap_cons, Nat.zero_mul, Nat.zero_add, List.getElem?_append_left hi]; exact h
 | x :: r, j + 1, i, u, hj, h => by
  have hx : (x :: r)[j + 1]! = r[j]! := by simp
  rw [hx] at h
  have := qeP hk r j i u (by simpa using hj) h
  rw [List.flatMap_cons, List.getElem?_append_right (by rw [hk, Nat.succ_mul]; omega), hk, ← this]
  congr 1; rw [Nat.succ_mul]; omega
omit [Inhabited α] in
theorem qch (hk : ∀ x, (enc x).length = k) : ∀ zs : List α, (zs.flatMap enc).length = zs.length * k
 | [] => by simp
 | x :: r => by rw [List.flatMap_cons, List.length_append, qch hk r, hk, List.length_cons, Nat.succ_mul]; omega
end
open Go.RowKit Go.MapKept Go.Maps
theorem Sl.news {α : Type} [Inhabited α] {w : World} {B : Nat} {enc : α → List Value} {k n : Nat} {a : Addr} {zs : List α} (hk : ∀ x, (enc x).length = k) (hk0 : 0 < k) (h : Sl w B enc k (some a) n zs) :
  ∀ j u, (zs.flatMap enc)[j]? = some u → w.cell? (a.add j) = some u := by
 intro j u hu
 have hlen : (zs.flatMap enc).length = n * k := by
  rw [← h.len]
  exact qch hk zs
 have hj : j < n * k := by rw [← hlen]; exact (List.getElem?_eq_some_iff.1 hu).1
 have hn : 0 < n := by rcases Nat.eq_zero_or_pos n with e | e; (rw [e] at hj; omega); exact e
 obtain ⟨b, off, e, hb, hc⟩ := h.2 hn
 injection e with e
 subst e
 have hd : j / k < n := (Nat.div_lt_iff_lt_mul hk0).2 hj
 have hm : j % k < k := Nat.mod_lt _ hk0
 obtain ⟨y, hy⟩ : ∃ y, (enc zs[j / k]!)[j % k]? = some y := ⟨_, List.getElem?_eq_getElem (by rw [hk]; exact hm)⟩
 have h1 := qeP hk zs (j / k) (j % k) y (by rw [h.len]; exact hd) hy
 have e1 : j / k * k + j % k = j := by rw [Nat.mul_comm]; exact Nat.div_add_mod j k
 rw [e1, hu] at h1
 injection h1 with h1
 subst h1
 have := hc (j / k) hd (j % k) u hy
 rw [Nat.add_assoc, e1] at this
 have e2 : (⟨b, off, none⟩ : Addr).add j = ⟨b, off + j, none⟩ := by
  simp only [Addr.add]; by_cases h0 : j = 0 <;> simp [h0]
 rw [e2]; exact this
theorem qcN {w w' : World} {base n : Nat} {T : TypeId} {k : Nat} {v : Value} {r : List Value} (h : w.ownsRow base T k v n r) (hg : w.grownBy w' v.ownBlock) (hb : base ≤ w.heap.size) : Below base w w' := by
 refine (Below.refl base w).grown hg hb (fun j hj => ?_)
 rcases h with ⟨_, ⟨e, e2⟩ | ⟨g, cap, cur, e, hge, _⟩⟩
 ·rw [e] at hj; cases hj
 ·rw [e] at hj; injection hj with hj; simp only at hj; omega
/-- what is known of a kind of element -/
structure Elem {α : Type} [Inhabited α] (enc : α → List Value) (ST T : TypeId) (k bs : Nat) (z : Value) : Prop where
 under : Tryz.prog.underlying ST = some (.slice T)
 info : (Tryz.prog.info? T).map (fun i => (i.zero, i.size, i.bytes)) = some (some z, k, bs)
 size : z.cells.size = k
 len : ∀ x, (enc x).length = k
 pos : 0 < k
 one : ∀ x u, u ∈ enc x → u.oneCell' = true
 small : bs ≤ 64
theorem qdL {α : Type} [Inhabited α] {enc : α → List Value} {ST T : TypeId} {k bs : Nat} {z : Value} (E : Elem enc ST T k bs z) {ops : Array Oper} {rest : List Oper} {o : Oper} {a : Act} {Q : Exit → Act → World → Prop} {w : World} (hgd : o.guard = none) (s x : Operand)
  (ho : o.op = .call { callee := .builtin .append, args := #[s, x], argTypes := #[ST, ST] }) (base : Nat) (A : Option Addr) (n c : Nat) (l : List α) (hs : a.eval s = .slice A n c)
  (hown : w.ownsRow base T k (.slice A n c) n (l.flatMap enc)) (A' : Option Addr) (m c' : Nat) (l' : List α) (hx : a.eval x = .slice A' m c') (hsl : Sl w w.heap.size enc k A' m l')
  (hA' : A' = none → m = 0 ∧ c' = 0) (hn : n + m ≤ 16777216) (hbase : base ≤ w.heap.size)
  (h : ∀ A2 c2 w', w'.ownsRow base T k (.slice A2 (n + m) c2) (n + m) ((l ++ l').flatMap enc) → Below base w w' → wpList Tryz.prog ops Q rest (a.put o.dst (.slice A2 (n + m) c2)) w') : wpList Tryz.prog ops Q (o :: rest) a w := by
 obtain ⟨i0, hi0, hz0, hz1, hz2⟩ := qcj E.info
 cases A' with
 | none =>
  obtain ⟨rfl, rfl⟩ := hA' rfl
  have hl0 : l' = [] := List.length_eq_zero_iff.1 hsl.len
  subst hl0
  refine wpList_append_own_none hgd s x _ ho base _ i0 k E.under hi0 _ n _ hs hown hx ?_
  have := h A c w (by rw [List.append_nil]; exact hown) (Below.refl _ _)
  exact this
 | some a0 =>
  refine wpList_append_own w hgd s x _ ho base T i0 _ k bs E.under hi0 hz0 hz1 hz2 E.size E.pos _ n _ hs hown a0 m c' (l'.flatMap enc) hx (by rw [qch E.len, hsl.len]) (Sl.news E.len E.pos hsl) ?_ (by unfold maxLen; omega) ?_ hbase ?_
  ·intro u hu
   obtain ⟨x, _, hx⟩ := List.mem_flatMap.1 hu
   exact E.one x u hx
  ·have := Nat.mul_le_mul hn E.small
   omega
  ·intro v' w' h1 h2 _
   obtain ⟨A2, c2, rfl⟩ := qcC h1
   refine h A2 c2 w' ?_ (qcN hown h2 hbase)
   rw [List.flatMap_append]; exact h1
/-- '[]T{}' -/
theorem qbc {T : TypeId} {k : Nat} (w : World) : (w.alloc (.cells #[] T)).ownsRow w.heap.size T k (.slice (some ⟨w.heap.size, 0, none⟩) 0 0) 0 [] :=
 ⟨by simp, .inr ⟨w.heap.size, 0, #[], rfl, Nat.le_refl _, (MapKept.heap_alloc _ _).1, Nat.le_refl _, by decide, by simp, by simp⟩⟩
theorem qcb {w w' : World} {base n k : Nat} {T : TypeId} {v : Value} {xs : List Value} (h : w.ownsRow base T k v n xs) (hb : Below w.heap.size w w') : w'.ownsRow base T k v n xs :=
 qdV h (Fr.of_below (own := []) hb) (by simp)
open Go.RowKit

/-- a slice's header: where, how many, how many may be -/
abbrev SlC := Option Addr × Nat × Nat
def hdOk (h : SlC) : Prop := (h.1 = none → h.2.1 = 0 ∧ h.2.2 = 0) ∧ h.2.1 ≤ h.2.2
@[reducible] def slV (h : SlC) : Value := .slice h.1 h.2.1 h.2.2
/-- the slice of header h holds the elements zs, k cells each, in a block of R -/
def SlR {α : Type} [Inhabited α] (w : World) (R : Nat → Prop) (enc : α → List Value) (k : Nat) (h : SlC) (zs : List α) : Prop :=
 zs.length = h.2.1 ∧ hdOk h ∧ (0 < h.2.1 → ∃ b off, h.1 = some ⟨b, off, none⟩ ∧ R b ∧ ∀ j, j < h.2.1 → ∀ i u, (enc zs[j]!)[i]? = some u → w.cell? ⟨b, off + j * k + i, none⟩ = some u)
section
variable {α : Type} [Inhabited α] {w w' : World} {R R' : Nat → Prop} {k : Nat} {enc : α → List Value} {h : SlC} {zs : List α}
theorem SlR.len (H : SlR w R enc k h zs) : zs.length = h.2.1 := H.1
theorem SlR.hd (H : SlR w R enc k h zs) : hdOk h := H.2.1
theorem SlR.keep (H : SlR w R enc k h zs) (hk : ∀ p : Addr, R p.block → w'.cell? p = w.cell? p) : SlR w' R enc k h zs :=
 ⟨H.1, H.2.1, fun hn => by
  obtain ⟨b, off, e, hb, hc⟩ := H.2.2 hn
  exact ⟨b, off, e, hb, fun j hj i u hu => (hk _ hb).trans (hc j hj i u hu)⟩⟩
theorem SlR.more (H : SlR w R enc k h zs) (hR : ∀ b, b < w.heap.size → R b → R' b) (hk0 : ∀ x, 0 < (enc x).length) : SlR w R' enc k h zs :=
 ⟨H.1, H.2.1, fun hn => by
  obtain ⟨b, off, e, hb, hc⟩ := H.2.2 hn
  refine ⟨b, off, e, hR b ?_ hb, hc⟩
  have hx := hk0 zs[0]!
  have := hc 0 hn 0 _ (List.getElem?_eq_getElem hx)
  exact World.block_lt_of_cell? _ _ this⟩
theorem SlR.sl (H : SlR w R enc k h zs) (hk0 : ∀ x, 0 < (enc x).length) : Sl w w.heap.size enc k h.1 h.2.1 zs :=
 ⟨H.1, fun hn => by
  obtain ⟨b, off, e, hb, hc⟩ := H.2.2 hn
  refine ⟨b, off, e, ?_, hc⟩
  have hx := hk0 zs[0]!
  have := hc 0 hn 0 _ (List.getElem?_eq_getElem hx)
  exact World.block_lt_of_cell? _ _ this⟩
theorem SlR.of_sl {B : Nat} {A : Option Addr} {n c : Nat} (H : Sl w B enc k A n zs) (hh : hdOk (A, n, c)) : SlR w (· < B) enc k (A, n, c) zs := ⟨H.1, hh, H.2⟩
theorem SlR.nil_ : SlR w R enc k (none, 0, 0) ([] : List α) := ⟨rfl, ⟨fun _ => ⟨rfl, rfl⟩, Nat.le_refl _⟩, fun h => absurd h (by simp)⟩
end

/-- plain trees -/
inductive Tr (β : Type) where
 | mk : β → List (Tr β) → Tr β
instance {β : Type} [Inhabited β] : Inhabited (Tr β) := ⟨.mk default []⟩
def Tr.v {β : Type} : Tr β → β | .mk v _ => v
def Tr.subs {β : Type} : Tr β → List (Tr β) | .mk _ l => l
/-- how a kind of values lies in memory: α what the cells hold, β what is read of it but the values below -/
structure Kd (α β : Type) where
 enc : α → List Value
 k : Nat
 sub : α → SlC
 loc : World → (Nat → Prop) → α → β → Prop
inductive TrAt {α β : Type} [Inhabited β] (K : Kd α β) (w : World) (R : Nat → Prop) : α → Tr β → Prop
 | mk (h : α) (v : β) (subs : List (Tr β)) (H : Nat → α) (b off : Nat) (l : K.loc w R h v) (ls : subs.length = (K.sub h).2.1) (hs : hdOk (K.sub h))
   (at_ : 0 < (K.sub h).2.1 → (K.sub h).1 = some ⟨b, off, none⟩ ∧ R b)
   (cells : ∀ j, j < (K.sub h).2.1 → ∀ i u, (K.enc (H j))[i]? = some u → w.cell? ⟨b, off + j * K.k + i, none⟩ = some u)
   (sub : ∀ j, j < (K.sub h).2.1 → TrAt K w R (H j) subs[j]!) : TrAt K w R h (.mk v subs)
section
variable {α β : Type} [Inhabited β] {K : Kd α β} {w w' : World} {R R' : Nat → Prop} {h : α} {t : Tr β}
theorem TrAt.loc (H : TrAt K w R h t) : K.loc w R h t.v := by cases H; assumption
theorem TrAt.len (H : TrAt K w R h t) : t.subs.length = (K.sub h).2.1 := by cases H; assumption
theorem TrAt.hd (H : TrAt K w R h t) : hdOk (K.sub h) := by cases H; assumption
/-- the headers below, all at once -/
theorem TrAt.subs_at [Inhabited α] (H : TrAt K w R h t) : ∃ L : List α, SlR w R K.enc K.k (K.sub h) L ∧ ∀ j, j < (K.sub h).2.1 → TrAt K w R L[j]! t.subs[j]! := by
 cases H with
 | mk _ v subs H b off l ls hs at_ cells sub =>
  have hget : ∀ j, j < (K.sub h).2.1 → ((List.range (K.sub h).2.1).map H)[j]! = H j := fun j hj => by rw [getElem!_pos _ _ (by simpa using hj)]; simp
  refine ⟨(List.range (K.sub h).2.1).map H, ⟨by simp, hs, fun hn => ⟨b, off, (at_ hn).1, (at_ hn).2, fun j hj i u hu => ?_⟩⟩, fun j hj => ?_⟩
  ·rw [hget j hj] at hu; exact cells j hj i u hu
  ·rw [hget j hj]; exact sub j hj
theorem TrAt.of_subs [Inhabited α] {v : β} {subs : List (Tr β)} {L : List α} (l : K.loc w R h v) (ls : subs.length = (K.sub h).2.1) (hL : SlR w R K.enc K.k (K.sub h) L) (hs : ∀ j, j < (K.sub h).2.1 → TrAt K w R L[j]! subs[j]!) : TrAt K w R h (.mk v subs) := by
 by_cases h0 : 0 < (K.sub h).2.1
 ·obtain ⟨b, off, e, hb, hc⟩ := hL.2.2 h0
  exact .mk h v subs (fun j => L[j]!) b off l ls hL.2.1 (fun _ => ⟨e, hb⟩) hc hs
 ·exact .mk h v subs (fun j => L[j]!) 0 0 l ls hL.2.1 (fun h1 => absurd h1 h0) (fun j hj => absurd hj (by omega)) (fun j hj => absurd hj (by omega))
theorem TrAt.keep (H : TrAt K w R h t) (hk : ∀ p : Addr, R p.block → w'.cell? p = w.cell? p) (hl : ∀ a b, K.loc w R a b → K.loc w' R a b) : TrAt K w' R h t := by
 induction H with
 | mk h v subs H b off l ls hs at_ cells _ ih => exact .mk h v subs H b off (hl _ _ l) ls hs at_ (fun j hj i u hu => (hk _ (at_ (by omega)).2).trans (cells j hj i u hu)) ih
theorem TrAt.more (H : TrAt K w R h t) (hR : ∀ b, b < w.heap.size → R b → R' b) (hk0 : ∀ x, 0 < (K.enc x).length) (hl : ∀ a b, K.loc w R a b → K.loc w R' a b) : TrAt K w R' h t := by
 induction H with
 | mk h v subs H b off l ls hs at_ cells _ ih =>
  refine .mk h v subs H b off (hl _ _ l) ls hs (fun h0 => ⟨(at_ h0).1, hR b ?_ (at_ h0).2⟩) cells ih
  exact World.block_lt_of_cell? _ _ (cells 0 h0 0 _ (List.getElem?_eq_getElem (hk0 _)))
end
/-- a plain law at a tree, by what holds of all below -/
theorem Tr.ind {β : Type} [Inhabited β] {P : Tr β → Prop} (h : ∀ v subs, (∀ j, j < subs.length → P subs[j]!) → P (.mk v subs)) : ∀ t, P t
 | .mk v subs => h v subs fun j hj => by
  rw [getElem!_pos subs j hj]
  exact Tr.ind h _
termination_by t => SizeOf.sizeOf t
decreasing_by
 have := List.sizeOf_lt_of_mem (List.getElem_mem hj)
 simp only [Tr.mk.sizeOf_spec]
 omega
/-- all of a tree has a property -/
inductive TrAll {β : Type} [Inhabited β] (P : β → Nat → Prop) : Tr β → Prop
 | mk (v : β) (subs : List (Tr β)) (h : P v subs.length) (hs : ∀ j, j < subs.length → TrAll P subs[j]!) : TrAll P (.mk v subs)
section
variable {β : Type} [Inhabited β] {P Q : β → Nat → Prop} {t : Tr β}
theorem TrAll.top (H : TrAll P t) : P t.v t.subs.length := by cases H; assumption
theorem TrAll.subAt (H : TrAll P t) {j : Nat} (hj : j < t.subs.length) : TrAll P t.subs[j]! := by
 cases H with
 | mk v subs h hs => exact hs j hj
theorem TrAll.mono (H : TrAll P t) (h : ∀ v n, P v n → Q v n) : TrAll Q t := by
 induction H with
 | mk v subs h0 _ ih => exact .mk v subs (h _ _ h0) ih
end

theorem qdJ (c : UInt8) : ∀ l : List UInt8, Lib.indexByte l c = if qav c l = l.length then -1 else (qav c l : Int)
 | [] => rfl
 | b :: r => by
  have ih := qdJ c r
  have hle := qdf c r
  unfold Lib.indexByte qav
  by_cases h : b = c
  ·subst h; simp
  ·have h' : (b == c) = false := by simp [h]
   rw [h', if_neg h, ih]
   by_cases h2 : qav c r = r.length
   ·simp [h2]
   ·have h3 : ¬ ((qav c r : Int) = -1) := by omega
    simp [h2]
    try omega
theorem qkE (c : UInt8) (l : List UInt8) : Lib.cut l [c] = if qav c l = l.length then (l, [], false) else (l.take (qav c l), l.drop (qav c l + 1), true) := by
 have hi := qdG c l
 unfold Lib.cut
 rw [hi]
 by_cases h : qav c l = l.length
 ·simp [h]
 ·have : ¬ ((qav c l : Int) = -1) := by omega
  simp [h]
  try omega
abbrev IdV := ByteArray × ByteArray
abbrev AclV := Int × ByteArray × ByteArray
def qbO : ByteArray := ⟨#[100, 105, 103, 101, 115, 116]⟩
def sIp : ByteArray := ⟨#[105, 112]⟩
def qcw : ByteArray := ⟨#[115, 117, 112, 101, 114]⟩
/-- a number and the next byte's -/
def stA (a n : Int) : Int := a * 256 + n
def adr (s : ByteArray) : Option Int := qjO stA s.data.toList
def qbP (s : ByteArray) : Bool := decide (0 < qav 58 s.data.toList) && decide (qav 58 s.data.toList < s.size)
def qbb (x : IdV) : Bool :=
 qaN x.1 && qaN x.2 && (if x.1 = qbO then qbP x.2 else if x.1 = sIp then (adr x.2).isSome else decide (x.1 = qcw))
/-- have two lists of bits one in common? -/
def hit (a p : Int) : Bool := decide (BitVec.ofInt 32 a &&& BitVec.ofInt 32 p ≠ 0#32)
open Go.RowKit

def qaz (x : IdV) : List Value := [.string x.1, .string x.2]
def qao (x : AclV) : List Value := [.int .i32 x.1, .string x.2.1, .string x.2.2]
abbrev SlId (w : World) (B : Nat) (A : Option Addr) (n : Nat) (zs : List IdV) : Prop := Sl w B qaz 2 A n zs
abbrev SlAcl (w : World) (B : Nat) (A : Option Addr) (n : Nat) (zs : List AclV) : Prop := Sl w B qao 3 A n zs
theorem SlId.at_ {w : World} {B n j : Nat} {A : Option Addr} {zs : List IdV} (h : Sl w B qaz 2 A n zs) (hj : j < n) :
  ∃ b off, A = some ⟨b, off, none⟩ ∧ b < B ∧ w.cell? ⟨b, off + j * 2, none⟩ = some (.string zs[j]!.1) ∧ w.cell? ⟨b, off + j * 2 + 1, none⟩ = some (.string zs[j]!.2) := by
 obtain ⟨b, off, e, hb, hc⟩ := h.cells hj
 exact ⟨b, off, e, hb, hc 0 _ rfl, hc 1 _ rfl⟩
theorem SlAcl.at_ {w : World} {B n j : Nat} {A : Option Addr} {zs : List AclV} (h : Sl w B qao 3 A n zs) (hj : j < n) :
  ∃ b off, A = some ⟨b, off, none⟩ ∧ b < B ∧ w.cell? ⟨b, off + j * 3, none⟩ = some (.int .i32 zs[j]!.1) ∧ w.cell? ⟨b, off + j * 3 + 1, none⟩ = some (.string zs[j]!.2.1) ∧ w.cell? ⟨b, off + j * 3 + 2, none⟩ = some (.string zs[j]!.2.2) := by
 obtain ⟨b, off, e, hb, hc⟩ := h.cells hj
 exact ⟨b, off, e, hb, hc 0 _ rfl, hc 1 _ rfl, hc 2 _ rfl⟩

theorem qgI {a b : ByteArray} (h : a.toList = b.toList) : a = b := (Lib.bytes_beq_iff a b).1 (by rw [h]; simp)
theorem qeR (a b : ByteArray) : (a.toList == b.toList) = decide (a = b) := by
 by_cases h : a = b
 ·subst h; simp
 ·rw [decide_eq_false h]
  exact beq_eq_false_iff_ne.2 (fun e => h (qgI e))

theorem qjE (a b : ByteArray) : (a.toList = b.toList) ↔ a = b := ⟨qgI, fun e => by rw [e]⟩
section
variable (w : World) (a b c d : ByteArray) (p q : Int)
theorem qmh : Tryz.prog.underlying 155 = some (.struct (Tryz.prog.fieldsOf 155)) := by kernel_rfl
theorem qnl : Tryz.prog.stoodInHeld 155 = false := by kernel_rfl
theorem qlk : Tryz.prog.underlying 246 = some (.struct (Tryz.prog.fieldsOf 246)) := by kernel_rfl
theorem qmf : Tryz.prog.stoodInHeld 246 = false := by kernel_rfl
theorem qgq (k : Nat) : (Op.equalIn (k + 2) 155 (.agg #[.string a, .string b]) (.agg #[.string c, .string d])).run Tryz.prog w = .ok (decide ((a, b) = (c, d))) w := by
 have u3 := Tryz.underlying9
 have a3 := Tryz.isAgg9
 have z3 := Tryz.sizeOf9
 rw [run_equalIn_agg w (k + 1) 155 _ _ qmh qnl]
 simp only [Program.fieldsOf, Tryz.underlying155]
 go_simp
 simp only [qjE]
 by_cases h1 : a = c <;> by_cases h2 : b = d <;> simp [h1, h2]
theorem qlZ (k : Nat) : (Op.equalIn (k + 3) 246 (.agg #[.int .i32 p, .string a, .string b]) (.agg #[.int .i32 q, .string c, .string d])).run Tryz.prog w = .ok (decide ((p, a, b) = (q, c, d))) w := by
 have u3 := Tryz.underlying9
 have a3 := Tryz.isAgg9
 have z3 := Tryz.sizeOf9
 have u1 := Tryz.underlying21
 have a1 := Tryz.isAgg21
 have z1 := Tryz.sizeOf21
 have a2 := Tryz.isAgg155
 have z2 := Tryz.sizeOf155
 have hI := fun w : World => qgq w a b c d k
 rw [run_equalIn_agg w (k + 2) 246 _ _ qlk qmf]
 simp only [Program.fieldsOf, Tryz.underlying246]
 go_simp
 by_cases h0 : p = q <;> by_cases h1 : a = c <;> by_cases h2 : b = d <;> simp [h0, h1, h2]
theorem eqId : (binOp .eql 155 (.agg #[.string a, .string b]) (.agg #[.string c, .string d])).run Tryz.prog w = .ok (.bool (decide ((a, b) = (c, d)))) w := by
 rw [run_eql_struct, show (10000 : Nat) = 9998 + 2 from rfl, qgq]; rfl
theorem qfC : (binOp .neq 155 (.agg #[.string a, .string b]) (.agg #[.string c, .string d])).run Tryz.prog w = .ok (.bool (!decide ((a, b) = (c, d)))) w := by
 rw [run_neq_struct, show (10000 : Nat) = 9998 + 2 from rfl, qgq]; rfl
theorem qcJ : (binOp .neq 246 (.agg #[.int .i32 p, .string a, .string b]) (.agg #[.int .i32 q, .string c, .string d])).run Tryz.prog w = .ok (.bool (!decide ((p, a, b) = (q, c, d)))) w := by
 rw [run_neq_struct, show (10000 : Nat) = 9997 + 3 from rfl, qlZ]; rfl
end
open Go
abbrev Bs := List UInt8
/-- a byte's cell -/
def enc8 (b : UInt8) : List Value := [.int .u8 (b.toNat : Int)]
/-- the number of bytes, the highest first -/
def beN (l : Bs) : Nat := l.foldl (fun a b => a * 256 + b.toNat) 0
def i32N (x : Nat) : Int := if x < 2147483648 then (x : Int) else (x : Int) - 4294967296
/-- what a reader answers: a value and the place behind it, or the place and the error -/
abbrev PR (α : Type) := Except (Nat × Int) (α × Nat)
def PR.then {α β : Type} (x : PR α) (f : α → Nat → PR β) : PR β := match x with | .ok (a, at') => f a at' | .error e => .error e
def qpb (l : Bs) (n : Nat) (p : Nat) : PR Bs := if l.length - p < n then .error (p, 20) else .ok ((l.drop p).take n, p + n)
def intP (l : Bs) (p : Nat) : PR Int := (qpb l 4 p).then fun b a => .ok (i32N (beN b), a)
def qpi (l : Bs) (most : Nat) (p : Nat) : PR Nat := (intP l p).then fun n a => if n < 0 ∨ (most : Int) < n then .error (p, 22) else .ok (n.toNat, a)
def countP (l : Bs) (most least : Nat) (p : Nat) : PR Nat := (qpi l most p).then fun n a => if 1 ≤ least ∧ (l.length - a) / least < n then .error (p, 20) else .ok (n, a)
section
variable {l : Bs} {p : Nat}
end
/-- what has been read ahead of the rest -/
def PR.ahead {α : Type} (xs : List α) (x : PR (List α)) : PR (List α) := x.then fun l a => .ok (xs ++ l, a)
open Go.RowKit

instance : Inhabited ByteArray := ⟨ByteArray.empty⟩
/-- what of a transaction lies outside its lists -/
structure TxN where
 (ty : Int) (path : ByteArray) (ow ve cr : Int) (qh : Bool) (qc qb si st co : Int)
instance : Inhabited TxN := ⟨⟨0, ByteArray.empty, 0, 0, 0, false, 0, 0, 0, 0, 0⟩⟩
/-- its cells: the headers of data, entries, identities, paths, parts -/
structure TxH where
 (n : TxN) (d a i p s : SlC)
instance : Inhabited TxH := ⟨⟨default, (none, 0, 0), (none, 0, 0), (none, 0, 0), (none, 0, 0), (none, 0, 0)⟩⟩
/-- what is read of it but its parts -/
structure TxF where
 (n : TxN) (data : Bs) (acl : List AclV) (ids : List IdV) (paths : List ByteArray)
instance : Inhabited TxF := ⟨⟨default, [], [], [], []⟩⟩
abbrev TxT := Tr TxF
def qay (s : ByteArray) : List Value := [.string s]
@[reducible] def qar (h : TxH) : List Value := [.int .i32 h.n.ty, .string h.n.path, slV h.d, slV h.a, .int .i64 h.n.ow, .int .i32 h.n.ve, .int .i32 h.n.cr, .bool h.n.qh, .int .i64 h.n.qc, .int .i64 h.n.qb, .int .i64 h.n.si, .int .i32 h.n.st, slV h.i, slV h.p, .int .i32 h.n.co, slV h.s]
@[reducible] def txV (h : TxH) : Value := .agg #[.int .i32 h.n.ty, .string h.n.path, slV h.d, slV h.a, .int .i64 h.n.ow, .int .i32 h.n.ve, .int .i32 h.n.cr, .bool h.n.qh, .int .i64 h.n.qc, .int .i64 h.n.qb, .int .i64 h.n.si, .int .i32 h.n.st, slV h.i, slV h.p, .int .i32 h.n.co, slV h.s]
def locTx (w : World) (R : Nat → Prop) (h : TxH) (v : TxF) : Prop :=
 v.n = h.n ∧ SlR w R enc8 1 h.d v.data ∧ SlR w R qao 3 h.a v.acl ∧ SlR w R qaz 2 h.i v.ids ∧ SlR w R qay 1 h.p v.paths
@[reducible] def kTx : Kd TxH TxF := ⟨qar, 16, TxH.s, locTx⟩
abbrev TxAt := TrAt kTx
theorem locTx.keep {w w' : World} {R : Nat → Prop} (hk : ∀ p : Addr, R p.block → w'.cell? p = w.cell? p) {h : TxH} {v : TxF} (H : locTx w R h v) : locTx w' R h v :=
 ⟨H.1, H.2.1.keep hk, H.2.2.1.keep hk, H.2.2.2.1.keep hk, H.2.2.2.2.keep hk⟩
theorem TxAt.keep {w w' : World} {R : Nat → Prop} {h : TxH} {t : TxT} (H : TxAt w R h t) (hk : ∀ p : Addr, R p.block → w'.cell? p = w.cell? p) : TxAt w' R h t := TrAt.keep H hk fun _ _ l => locTx.keep hk l
theorem TxAt.more {w : World} {R R' : Nat → Prop} {h : TxH} {t : TxT} (H : TxAt w R h t) (hR : ∀ b, b < w.heap.size → R b → R' b) : TxAt w R' h t :=
 TrAt.more H hR (fun _ => by simp [qar]) fun _ _ l => ⟨l.1, l.2.1.more hR (fun _ => by simp [enc8]), l.2.2.1.more hR (fun _ => by simp [qao]), l.2.2.2.1.more hR (fun _ => by simp [qaz]), l.2.2.2.2.more hR (fun _ => by simp [qay])⟩
/-- a delta's cells -/
structure DlH where
 (se xi zx ti : Int) (t : TxH)
instance : Inhabited DlH := ⟨⟨0, 0, 0, 0, default⟩⟩
/-- what lays a written frame out -/
theorem pT : (∀ {α : Type} {xs : List α} {i : Nat} (h : i < xs.toArray.size), xs.toArray[i] = xs[i]'(by simpa using h)) ∧ (∀ {α : Type} {i : Nat} (a : α) (us : List α) (h : i + 1 < (a :: us).length), (a :: us)[i + 1] = us[i]'(by simpa using h)) ∧ (∀ {α : Type} (a : α) (us : List α) (h : 0 < (a :: us).length), (a :: us)[0] = a) ∧
  (∀ (a : Act) (d : Tmp) (v : Value), a.put (some d) v = { a with tmps := a.tmps.setIfInBounds d v }) ∧ (∀ (a : Act) (v : Value), a.put none v = a) ∧ (∀ {α : Type} {l : List α} {i : Nat} {a : α}, l.toArray.setIfInBounds i a = (l.set i a).toArray) ∧ (∀ {α : Type} (x : α) (xs : List α) (a : α), (x :: xs).set 0 a = a :: xs) ∧ (∀ {α : Type} (x : α) (xs : List α) (n : Nat) (a : α), (x :: xs).set (n + 1) a = x :: xs.set n a) :=
 ⟨fun _ => by simp, fun _ _ _ => rfl, fun _ _ _ => rfl, fun _ _ _ => rfl, fun _ _ => rfl, by simp, fun _ _ _ => rfl, fun _ _ _ _ => rfl⟩
@[reducible] def rwTx (h : TxH) : Array Value := #[.int .i32 h.n.ty, .string h.n.path, slV h.d, slV h.a, .int .i64 h.n.ow, .int .i32 h.n.ve, .int .i32 h.n.cr, .bool h.n.qh, .int .i64 h.n.qc, .int .i64 h.n.qb, .int .i64 h.n.si, .int .i32 h.n.st, slV h.i, slV h.p, .int .i32 h.n.co, slV h.s]
@[reducible] def rzTx : Array Value := #[.int .i32 0, .string ⟨#[]⟩, .slice none 0 0, .slice none 0 0, .int .i64 0, .int .i32 0, .int .i32 0, .bool false, .int .i64 0, .int .i64 0, .int .i64 0, .int .i32 0, .slice none 0 0, .slice none 0 0, .int .i32 0, .slice none 0 0]
@[reducible] def rwDl (h : DlH) : Array Value := #[.int .i64 h.se, .int .i32 h.xi, .int .i64 h.zx, .int .i64 h.ti, .int .i32 h.t.n.ty, .string h.t.n.path, slV h.t.d, slV h.t.a, .int .i64 h.t.n.ow, .int .i32 h.t.n.ve, .int .i32 h.t.n.cr, .bool h.t.n.qh, .int .i64 h.t.n.qc, .int .i64 h.t.n.qb, .int .i64 h.t.n.si, .int .i32 h.t.n.st, slV h.t.i, slV h.t.p, .int .i32 h.t.n.co, slV h.t.s]
@[reducible] def rzDl : Array Value := #[.int .i64 0, .int .i32 0, .int .i64 0, .int .i64 0, .int .i32 0, .string ⟨#[]⟩, .slice none 0 0, .slice none 0 0, .int .i64 0, .int .i32 0, .int .i32 0, .bool false, .int .i64 0, .int .i64 0, .int .i64 0, .int .i32 0, .slice none 0 0, .slice none 0 0, .int .i32 0, .slice none 0 0]
structure DlT where
 (se xi zx ti : Int) (t : TxT)
instance : Inhabited DlT := ⟨⟨0, 0, 0, 0, default⟩⟩
@[reducible] def dlV (h : DlH) : Value := .agg #[.int .i64 h.se, .int .i32 h.xi, .int .i64 h.zx, .int .i64 h.ti, .int .i32 h.t.n.ty, .string h.t.n.path, slV h.t.d, slV h.t.a, .int .i64 h.t.n.ow, .int .i32 h.t.n.ve, .int .i32 h.t.n.cr, .bool h.t.n.qh, .int .i64 h.t.n.qc, .int .i64 h.t.n.qb, .int .i64 h.t.n.si, .int .i32 h.t.n.st, slV h.t.i, slV h.t.p, .int .i32 h.t.n.co, slV h.t.s]
@[reducible] def qaU (h : DlH) : List Value := [.int .i64 h.se, .int .i32 h.xi, .int .i64 h.zx, .int .i64 h.ti] ++ qar h.t
def DlAt (w : World) (R : Nat → Prop) (h : DlH) (d : DlT) : Prop := (d.se = h.se ∧ d.xi = h.xi ∧ d.zx = h.zx ∧ d.ti = h.ti) ∧ TxAt w R h.t d.t
/-- how great things are: the numbers fit, nothing is longer than m -/
def in32 (x : Int) : Prop := -2147483648 ≤ x ∧ x ≤ 2147483647
def in64 (x : Int) : Prop := -9223372036854775808 ≤ x ∧ x ≤ 9223372036854775807
def TxSm (m : Nat) (v : TxF) (k : Nat) : Prop :=
 (in32 v.n.ty ∧ in64 v.n.ow ∧ in32 v.n.ve ∧ in32 v.n.cr ∧ in64 v.n.qc ∧ in64 v.n.qb ∧ in64 v.n.si ∧ in32 v.n.st ∧ in32 v.n.co) ∧ v.n.path.size ≤ m ∧ v.data.length ≤ m ∧ v.acl.length ≤ m ∧ v.ids.length ≤ m ∧ v.paths.length ≤ m ∧ k ≤ m ∧
 (∀ j, j < v.acl.length → in32 v.acl[j]!.1 ∧ v.acl[j]!.2.1.size ≤ m ∧ v.acl[j]!.2.2.size ≤ m) ∧ (∀ j, j < v.ids.length → v.ids[j]!.1.size ≤ m ∧ v.ids[j]!.2.size ≤ m) ∧ (∀ j, j < v.paths.length → v.paths[j]!.size ≤ m)
abbrev TxOk (m : Nat) (t : TxT) : Prop := TrAll (TxSm m) t
theorem TxSm.mono {m m' : Nat} (hm : m ≤ m') {v : TxF} {k : Nat} (h : TxSm m v k) : TxSm m' v k := by
 obtain ⟨h0, h1, h2, h3, h4, h5, h6, h7, h8, h9⟩ := h
 exact ⟨h0, by omega, by omega, by omega, by omega, by omega, by omega, fun j hj => ⟨(h7 j hj).1, by have := (h7 j hj).2; omega, by have := (h7 j hj).2; omega⟩, fun j hj => ⟨by have := h8 j hj; omega, by have := h8 j hj; omega⟩, fun j hj => by have := h9 j hj; omega⟩
def DlSm (m : Nat) (d : DlT) : Prop := (in64 d.se ∧ in32 d.xi ∧ in64 d.zx ∧ in64 d.ti) ∧ TxOk m d.t

open Go.RowKit Go.MapKept Go.Maps
structure ElemB {α : Type} [Inhabited α] (enc : α → List Value) (ST T : TypeId) (k bs : Nat) (z : Value) : Prop where
 under : Tryz.prog.underlying ST = some (.slice T)
 info : (Tryz.prog.info? T).map (fun i => (i.zero, i.size, i.bytes)) = some (some z, k, bs)
 size : z.cells.size = k
 len : ∀ x, (enc x).length = k
 pos : 0 < k
 one : ∀ x u, u ∈ enc x → u.oneCell' = true
 small : bs ≤ 1024
theorem qaY {α : Type} [Inhabited α] {enc : α → List Value} {ST T : TypeId} {k bs : Nat} {z : Value} (E : ElemB enc ST T k bs z) {ops : Array Oper} {rest : List Oper} {o : Oper} {a : Act} {Q : Exit → Act → World → Prop} {w : World} (hgd : o.guard = none) (s x : Operand)
  (ho : o.op = .call { callee := .builtin .append, args := #[s, x], argTypes := #[ST, ST] }) (base : Nat) (A : Option Addr) (n c : Nat) (l : List α) (hs : a.eval s = .slice A n c)
  (hown : w.ownsRow base T k (.slice A n c) n (l.flatMap enc)) (A' : Option Addr) (m c' : Nat) (l' : List α) (hx : a.eval x = .slice A' m c') (hsl : Sl w w.heap.size enc k A' m l')
  (hA' : A' = none → m = 0 ∧ c' = 0) (hn : n + m ≤ 4194304) (hbase : base ≤ w.heap.size)
  (h : ∀ A2 c2 w', w'.ownsRow base T k (.slice A2 (n + m) c2) (n + m) ((l ++ l').flatMap enc) → Below base w w' → w.grownBy w' (Value.slice A n c).ownBlock → wpList Tryz.prog ops Q rest (a.put o.dst (.slice A2 (n + m) c2)) w') : wpList Tryz.prog ops Q (o :: rest) a w := by
 obtain ⟨i0, hi0, hz0, hz1, hz2⟩ := qcj E.info
 cases A' with
 | none =>
  obtain ⟨rfl, rfl⟩ := hA' rfl
  have hl0 : l' = [] := List.length_eq_zero_iff.1 hsl.len
  subst hl0
  refine wpList_append_own_none hgd s x _ ho base _ i0 k E.under hi0 _ n _ hs hown hx ?_
  have := h A c w (by rw [List.append_nil]; exact hown) (Below.refl _ _) ⟨rfl, rfl, rfl, Nat.le_refl _, fun _ _ _ => rfl⟩
  exact this
 | some a0 =>
  refine wpList_append_own w hgd s x _ ho base T i0 _ k bs E.under hi0 hz0 hz1 hz2 E.size E.pos _ n _ hs hown a0 m c' (l'.flatMap enc) hx (by rw [qch E.len, hsl.len]) (Sl.news E.len E.pos hsl) ?_ (by unfold maxLen; omega) ?_ hbase ?_
  ·intro u hu
   obtain ⟨x, _, hx⟩ := List.mem_flatMap.1 hu
   exact E.one x u hx
  ·have := Nat.mul_le_mul hn E.small
   omega
  ·intro v' w' h1 h2 _
   obtain ⟨A2, c2, rfl⟩ := qcC h1
   refine h A2 c2 w' ?_ (qcN hown h2 hbase) h2
   rw [List.flatMap_append]; exact h1
section
variable {α : Type} [Inhabited α] {w w' : World} {enc : α → List Value} {T : TypeId} {k base n c : Nat} {A : Option Addr} {l : List α}
/-- a row of one's own, as a list in blocks from base on -/
theorem qbD (h : w.ownsRow base T k (.slice A n c) n (l.flatMap enc)) (hk : ∀ x, (enc x).length = k) (hl : l.length = n) : SlR w (fun b => base ≤ b) enc k (A, n, c) l := by
 rcases h.2 with ⟨e, e2⟩ | ⟨g, cap, cur, e1, h2, h3, h4, h5, h6, h7⟩
 ·injection e with e e3 e4
  subst e e2 e4
  have : l = [] := List.length_eq_zero_iff.1 hl
  subst this
  exact SlR.nil_
 ·injection e1 with e1 e3 e4
  subst e1 e4
  refine ⟨hl, ⟨fun h => by (cases h), h4⟩, fun hn => ⟨g, 0, rfl, h2, fun j hj i u hu => ?_⟩⟩
  have hf := qeP hk l j i u (by have hj' : j < n := hj; omega) hu
  rw [← h7] at hf
  rw [Nat.zero_add]
  have hc : w.cell? ⟨g, j * k + i, none⟩ = cur[j * k + i]? := by simp [World.cell?, h3]
  rw [hc]
  rw [List.getElem?_take] at hf
  split at hf
  ·simpa using hf
  ·cases hf
end
/-- what a copy is: a list in a row that the call made -/
def CloneP {α : Type} (T : TypeId) (enc : α → List Value) (k n : Nat) (l : List α) (w : World) (e : Ending) (w' : World) : Prop := (∃ A c, e = .returned (.slice A n c) ∧ w'.ownsRow w.heap.size T k (.slice A n c) n (l.flatMap enc)) ∧ Below w.heap.size w w'

theorem qfu : ElemB qao 42 246 3 40 (.agg #[.int .i32 0, .string ⟨#[]⟩, .string ⟨#[]⟩]) where
 under := Tryz.underlying42
 info := by kernel_rfl
 size := rfl
 len := fun _ => rfl
 pos := by decide
 one := fun x u hu => by
  simp [qao] at hu
  rcases hu with rfl | rfl | rfl <;> rfl
 small := by decide
theorem qmb (w : World) : (binOp .eql 42 (.slice none 0 0) (.slice none 0 0)).run Tryz.prog w = .ok (.bool true) w := by kernel_rfl
theorem qkB (a : Addr) (n c : Nat) (w : World) : (binOp .eql 42 (.slice (some a) n c) (.slice none 0 0)).run Tryz.prog w = .ok (.bool false) w := by kernel_rfl
theorem qiF (w : World) : Calls Tryz.prog 181 #[.slice none 0 0] w fun e w' => e = .returned (.slice none 0 0) ∧ w = w' := by
 have hq := qmb
 go_enter Tryz.func181, Tryz.ntmps181
 go_wp2_with fail
 go_ret
 exact ⟨rfl, rfl⟩
theorem qcF (A : Option Addr) (n c : Nat) (l : List AclV) (w : World) (hz : Sl w w.heap.size qao 3 A n l) (hA : A = none → n = 0 ∧ c = 0) (hn : n ≤ 4194304) :
  Calls Tryz.prog 181 #[.slice A n c] w (CloneP 246 qao 3 n l w) := by
 cases A with
 | none =>
  obtain ⟨rfl, rfl⟩ := hA rfl
  have hl : l = [] := List.length_eq_zero_iff.1 hz.len
  subst hl
  refine (qiF w).mono ?_
  rintro e w' ⟨rfl, rfl⟩
  exact ⟨⟨none, 0, rfl, World.ownsRow_nil _ _ _ _⟩, Below.refl _ _⟩
 | some a =>
  have hb0 : Below w.heap.size w (w.alloc (.cells #[] 246)) := (Below.refl _ w).alloc (Nat.le_refl _) _
  have HS := Lib.hid (hz.belowMore hb0 hb0.size)
  have HB := Lib.hid hb0
  have HOW := Lib.hid (qbc (T := 246) (k := 3) w)
  have hq := qkB a n c
  clear hz hA hb0
  go_enter Tryz.func181, Tryz.ntmps181
  go_wp2_with (at_builtin; refine qaY qfu rfl _ _ rfl w.heap.size (some ⟨w.heap.size, 0, none⟩) 0 0 [] ?hx HOW.out (some a) n c l ?hy HS.out (fun e => by cases e) (by omega) HB.out.size ?hk)
  (try case hx => rfl)
  (try case hy => rfl)
  case hk =>
   intro A2 c2 w2 hv2 hb2 _
   have HV2 := Lib.hid hv2; have HB2 := Lib.hid (HB.out.trans hb2)
   clear hv2 hb2
   go_wp2_with fail
   go_ret
   exact ⟨⟨A2, c2, by simp, by simpa using HV2.out⟩, HB2.out⟩
theorem qfw : ElemB qay 48 9 1 16 (.string ⟨#[]⟩) where
 under := Tryz.underlying48
 info := by kernel_rfl
 size := rfl
 len := fun _ => rfl
 pos := by decide
 one := fun x u hu => by
  simp [qay] at hu
  subst hu; rfl
 small := by decide
theorem qmK (w : World) : (binOp .eql 48 (.slice none 0 0) (.slice none 0 0)).run Tryz.prog w = .ok (.bool true) w := by kernel_rfl
theorem qkI (a : Addr) (n c : Nat) (w : World) : (binOp .eql 48 (.slice (some a) n c) (.slice none 0 0)).run Tryz.prog w = .ok (.bool false) w := by kernel_rfl
theorem qie (w : World) : Calls Tryz.prog 182 #[.slice none 0 0] w fun e w' => e = .returned (.slice none 0 0) ∧ w = w' := by
 have hq := qmK
 go_enter Tryz.func182, Tryz.ntmps182
 go_wp2_with fail
 go_ret
 exact ⟨rfl, rfl⟩
theorem qcO (A : Option Addr) (n c : Nat) (l : List ByteArray) (w : World) (hz : Sl w w.heap.size qay 1 A n l) (hA : A = none → n = 0 ∧ c = 0) (hn : n ≤ 4194304) :
  Calls Tryz.prog 182 #[.slice A n c] w (CloneP 9 qay 1 n l w) := by
 cases A with
 | none =>
  obtain ⟨rfl, rfl⟩ := hA rfl
  have hl : l = [] := List.length_eq_zero_iff.1 hz.len
  subst hl
  refine (qie w).mono ?_
  rintro e w' ⟨rfl, rfl⟩
  exact ⟨⟨none, 0, rfl, World.ownsRow_nil _ _ _ _⟩, Below.refl _ _⟩
 | some a =>
  have hb0 : Below w.heap.size w (w.alloc (.cells #[] 9)) := (Below.refl _ w).alloc (Nat.le_refl _) _
  have HS := Lib.hid (hz.belowMore hb0 hb0.size)
  have HB := Lib.hid hb0
  have HOW := Lib.hid (qbc (T := 9) (k := 1) w)
  have hq := qkI a n c
  clear hz hA hb0
  go_enter Tryz.func182, Tryz.ntmps182
  go_wp2_with (at_builtin; refine qaY qfw rfl _ _ rfl w.heap.size (some ⟨w.heap.size, 0, none⟩) 0 0 [] ?hx HOW.out (some a) n c l ?hy HS.out (fun e => by cases e) (by omega) HB.out.size ?hk)
  (try case hx => rfl)
  (try case hy => rfl)
  case hk =>
   intro A2 c2 w2 hv2 hb2 _
   have HV2 := Lib.hid hv2; have HB2 := Lib.hid (HB.out.trans hb2)
   clear hv2 hb2
   go_wp2_with fail
   go_ret
   exact ⟨⟨A2, c2, by simp, by simpa using HV2.out⟩, HB2.out⟩
theorem qer : ElemB enc8 41 5 1 1 (.int .u8 0) where
 under := Tryz.underlying41
 info := by kernel_rfl
 size := rfl
 len := fun _ => rfl
 pos := by decide
 one := fun x u hu => by
  simp [enc8] at hu
  subst hu; rfl
 small := by decide
theorem qkW (w : World) : (binOp .eql 41 (.slice none 0 0) (.slice none 0 0)).run Tryz.prog w = .ok (.bool true) w := by kernel_rfl
theorem qjT (a : Addr) (n c : Nat) (w : World) : (binOp .eql 41 (.slice (some a) n c) (.slice none 0 0)).run Tryz.prog w = .ok (.bool false) w := by kernel_rfl
theorem qhX (w : World) : Calls Tryz.prog 180 #[.slice none 0 0] w fun e w' => e = .returned (.slice none 0 0) ∧ w = w' := by
 have hq := qkW
 go_enter Tryz.func180, Tryz.ntmps180
 go_wp2_with fail
 go_ret
 exact ⟨rfl, rfl⟩
theorem qem (A : Option Addr) (n c : Nat) (l : List UInt8) (w : World) (hz : Sl w w.heap.size enc8 1 A n l) (hA : A = none → n = 0 ∧ c = 0) (hn : n ≤ 4194304) :
  Calls Tryz.prog 180 #[.slice A n c] w (CloneP 5 enc8 1 n l w) := by
 cases A with
 | none =>
  obtain ⟨rfl, rfl⟩ := hA rfl
  have hl : l = [] := List.length_eq_zero_iff.1 hz.len
  subst hl
  refine (qhX w).mono ?_
  rintro e w' ⟨rfl, rfl⟩
  exact ⟨⟨none, 0, rfl, World.ownsRow_nil _ _ _ _⟩, Below.refl _ _⟩
 | some a =>
  have hb0 : Below w.heap.size w (w.alloc (.cells #[] 5)) := (Below.refl _ w).alloc (Nat.le_refl _) _
  have HS := Lib.hid (hz.belowMore hb0 hb0.size)
  have HB := Lib.hid hb0
  have HOW := Lib.hid (qbc (T := 5) (k := 1) w)
  have hq := qjT a n c
  clear hz hA hb0
  go_enter Tryz.func180, Tryz.ntmps180
  go_wp2_with (at_builtin; refine qaY qer rfl _ _ rfl w.heap.size (some ⟨w.heap.size, 0, none⟩) 0 0 [] ?hx HOW.out (some a) n c l ?hy HS.out (fun e => by cases e) (by omega) HB.out.size ?hk)
  (try case hx => rfl)
  (try case hy => rfl)
  case hk =>
   intro A2 c2 w2 hv2 hb2 _
   have HV2 := Lib.hid hv2; have HB2 := Lib.hid (HB.out.trans hb2)
   clear hv2 hb2
   go_wp2_with fail
   go_ret
   exact ⟨⟨A2, c2, by simp, by simpa using HV2.out⟩, HB2.out⟩
theorem qjg : ElemB qar 50 52 16 208 (.agg rzTx) where
 under := Tryz.underlying50
 info := by kernel_rfl
 size := rfl
 len := fun _ => rfl
 pos := by decide
 one := fun x u hu => by
  simp [qar] at hu
  rcases hu with rfl | rfl | rfl | rfl | rfl | rfl | rfl | rfl | rfl | rfl | rfl | rfl | rfl | rfl | rfl | rfl <;> rfl
 small := by decide
theorem qnJ (w : World) : (binOp .eql 50 (.slice none 0 0) (.slice none 0 0)).run Tryz.prog w = .ok (.bool true) w := by kernel_rfl
theorem qmw (a : Addr) (n c : Nat) (w : World) : (binOp .eql 50 (.slice (some a) n c) (.slice none 0 0)).run Tryz.prog w = .ok (.bool false) w := by kernel_rfl
theorem qjv (w : World) : Calls Tryz.prog 183 #[.slice none 0 0] w fun e w' => e = .returned (.slice none 0 0) ∧ w = w' := by
 have hq := qnJ
 go_enter Tryz.func183, Tryz.ntmps183
 go_wp2_with fail
 go_ret
 exact ⟨rfl, rfl⟩
theorem qfg (A : Option Addr) (n c : Nat) (l : List TxH) (w : World) (hz : Sl w w.heap.size qar 16 A n l) (hA : A = none → n = 0 ∧ c = 0) (hn : n ≤ 4194304) :
  Calls Tryz.prog 183 #[.slice A n c] w (CloneP 52 qar 16 n l w) := by
 cases A with
 | none =>
  obtain ⟨rfl, rfl⟩ := hA rfl
  have hl : l = [] := List.length_eq_zero_iff.1 hz.len
  subst hl
  refine (qjv w).mono ?_
  rintro e w' ⟨rfl, rfl⟩
  exact ⟨⟨none, 0, rfl, World.ownsRow_nil _ _ _ _⟩, Below.refl _ _⟩
 | some a =>
  have hb0 : Below w.heap.size w (w.alloc (.cells #[] 52)) := (Below.refl _ w).alloc (Nat.le_refl _) _
  have HS := Lib.hid (hz.belowMore hb0 hb0.size)
  have HB := Lib.hid hb0
  have HOW := Lib.hid (qbc (T := 52) (k := 16) w)
  have hq := qmw a n c
  clear hz hA hb0
  go_enter Tryz.func183, Tryz.ntmps183
  go_wp2_with (at_builtin; refine qaY qjg rfl _ _ rfl w.heap.size (some ⟨w.heap.size, 0, none⟩) 0 0 [] ?hx HOW.out (some a) n c l ?hy HS.out (fun e => by cases e) (by omega) HB.out.size ?hk)
  (try case hx => rfl)
  (try case hy => rfl)
  case hk =>
   intro A2 c2 w2 hv2 hb2 _
   have HV2 := Lib.hid hv2; have HB2 := Lib.hid (HB.out.trans hb2)
   clear hv2 hb2
   go_wp2_with fail
   go_ret
   exact ⟨⟨A2, c2, by simp, by simpa using HV2.out⟩, HB2.out⟩
open Go.RowKit

def QuietB (w : World) (b : Bool) (e : Ending) (w' : World) : Prop := e = .returned (.bool b) ∧ ∃ q, w' = w.drewN q
theorem QuietB.mk {w w' : World} {a b : Bool} (h : ∃ q, w' = w.drewN q) (e : b = a) : QuietB w a (.returned (.bool b)) w' := ⟨by rw [e], h⟩
theorem qbQ {α : Type} [Inhabited α] {xs ys : List α} (hl : xs.length = ys.length) (h : ∀ j, j < xs.length → xs[j]! = ys[j]!) : xs = ys := by
 refine List.ext_getElem hl fun j h1 h2 => ?_
 have := h j h1
 rwa [getElem!_pos xs j h1, getElem!_pos ys j h2] at this

theorem qiy (A A' : Option Addr) (n m c c' : Nat) (xs ys : List AclV) (w : World) (B : Nat) (hx : Sl w B qao 3 A n xs) (hy : Sl w B qao 3 A' m ys) (hn : n ≤ 281474976710656) (hm : m ≤ 281474976710656) :
  Calls Tryz.prog 146 #[.slice A n c, .slice A' m c'] w (QuietB w (decide (xs = ys))) := by
 by_cases hnm : n = m
 ·subst hnm
  have hlen : xs.length = ys.length := hx.1.trans hy.1.symm
  have HL := Lib.hid hlen; have HXL := Lib.hid hx.1; clear hlen
  have hneq := qcJ
  go_enter Tryz.func146, Tryz.ntmps146
  go_wp2
  go_loopw [5] (fun i wr => ∃ (k q : Nat), i = .int .i64 ↑k ∧ k ≤ n ∧ (∀ j, j < k → xs[j]! = ys[j]!) ∧ wr = w.drewN q) (fun i _ => n - (intOf i).toNat)
  case atStart => exact ⟨0, 0, rfl, by omega, fun j hj => absurd hj (by omega), rfl⟩
  case round =>
   obtain ⟨k, q, rfl, hk, hall, rfl⟩ := hrel
   have HA := Lib.hid hall; clear hall
   by_cases hlt : k < n
   ·obtain ⟨b, off, rfl, _, x0, x1, x2⟩ := SlAcl.at_ hx hlt
    obtain ⟨b', off', rfl, _, y0, y1, y2⟩ := SlAcl.at_ hy hlt
    have hyl : k < ys.length := by have := hy.1; omega
    by_cases he : xs[k]! = ys[k]!
    ·have HA1 := Lib.hid (show ∀ j, j < k + 1 → xs[j]! = ys[j]! from fun j hj => by rcases Nat.lt_succ_iff_lt_or_eq.1 hj with h | rfl; exact HA.out j h; exact he)
     rw [he] at x0 x1 x2
     clear he
     generalize ys[k]! = y at *
     obtain ⟨p, s, t⟩ := y
     have hq := fun w : World => (qcJ w s t s t p p).trans (by simp : _ = Result.ok (.bool false) w)
     clear hneq
     go_wp2
     go_quiet (fail)
     go_wp2
     go_roundw
     case rel => exact ⟨k + 1, q + nq, by go_num, by omega, HA1.out, rfl⟩
     case measure => simp [intOf]; omega
    ·have HE := Lib.hid (show decide (xs = ys) = false from decide_eq_false fun e => he (by rw [e]))
     have hd : (!decide (xs[k]! = ys[k]!)) = true := by rw [decide_eq_false he]; rfl
     have HW := Lib.hid hd
     clear he hd
     generalize xs[k]! = x at *
     generalize ys[k]! = y at *
     obtain ⟨p, s, t⟩ := x
     obtain ⟨p', s', t'⟩ := y
     have hq := fun w : World => (qcJ w s t s' t' p p').trans (by rw [HW.out] : _ = Result.ok (.bool true) w)
     clear hneq
     go_wp2
     go_quiet (fail)
     go_wp2
     go_ret
     exact QuietB.mk ⟨q + nq, World.drewN_drewN ..⟩ HE.out.symm
   ·have HE := Lib.hid (show decide (xs = ys) = true from decide_eq_true (qbQ HL.out fun j hj => HA.out j (by have := HXL.out; omega)))
    go_wp2
    go_ret
    exact QuietB.mk ⟨q, rfl⟩ HE.out.symm
 ·have HE := Lib.hid (show decide (xs = ys) = false from decide_eq_false fun e => hnm (by rw [← hx.1, ← hy.1, e]))
  have hd : ((n : Int) != (m : Int)) = true := by simp; omega
  clear hnm
  go_enter Tryz.func146, Tryz.ntmps146
  go_wp2
  go_ret
  exact QuietB.mk ⟨0, rfl⟩ HE.out.symm
open Go.RowKit

theorem qnp : U8Extra Tryz.prog Tryz.lays260_ren := ⟨by kernel_rfl, by kernel_rfl, by kernel_rfl, by kernel_rfl, by kernel_rfl, by kernel_rfl, by kernel_rfl⟩
theorem qkw : Rows.laid_unicode_utf8_first = Lib.firstData := by kernel_rfl
theorem qjR : (Rows.laid_unicode_utf8_acceptRanges : DataW Unit) = Lib.acceptData := by kernel_rfl
theorem qnB {W : World} (h : Lib.Utf8Tabs 0 1 W) : 0 < W.heap.size ∧ 1 < W.heap.size :=
 ⟨World.block_lt_of_cell? W _ (h.1 0 (by decide)), World.block_lt_of_cell? W _ (h.2 0 (by decide)).1⟩
theorem qjw {W W' : World} {B : Nat} (h : Lib.Utf8Tabs 0 1 W) (hB : W.heap.size ≤ B) (hb : Below B W W') : Lib.Utf8Tabs 0 1 W' := by
 obtain ⟨l1, l2⟩ := qnB h
 refine ⟨fun c hc => ?_, fun i hi => ?_⟩
 ·rw [hb.cell (p := ⟨0, c, none⟩) (by show 0 < B; omega)]; exact h.1 c hc
 ·rw [hb.cell (p := ⟨1, 2 * i, none⟩) (by show 1 < B; omega), hb.cell (p := ⟨1, 2 * i + 1, none⟩) (by show 1 < B; omega)]; exact h.2 i hi
open Go.RowKit Go.Lib

structure Env (w : World) : Prop where
 tabs : Lib.Utf8Tabs 0 1 w
 maxl : ∃ m, w.cell? ⟨2, 0, none⟩ = some (.int .i64 m)
 pow : Lib.TabIs Tryz.prog w "internal/strconv.uint64pow10" .u64 Lib.pow10Tab
 syn : ∃ tp p, w.var? Tryz.prog "strconv.ErrSyntax" = some #[.iface tp p]
 ran : ∃ tp p, w.var? Tryz.prog "strconv.ErrRange" = some #[.iface tp p]

theorem qeE {w w' : World} {B : Nat} {n : String} {cs : Array Value} (h : w.var? Tryz.prog n = some cs) (hB : w.heap.size ≤ B) (hb : Below B w w') : w'.var? Tryz.prog n = some cs := by
 unfold World.var? at h ⊢
 cases hg : Tryz.prog.globalNamed n with
 | none => rw [hg] at h; cases h
 | some g =>
  rw [hg] at h
  simp only [Option.bind_some] at h ⊢
  have hlt : g < w.heap.size := by
   rcases Nat.lt_or_ge g w.heap.size with hlt | hge
   ·exact hlt
   ·rw [Array.getElem?_eq_none hge] at h; cases h
  rw [hb.block g (by omega)]; exact h
theorem Env.below {w w' : World} {B : Nat} (h : Env w) (hB : w.heap.size ≤ B) (hb : Below B w w') : Env w' := by
 obtain ⟨t, ⟨m, hm⟩, p, ⟨t1, p1, s⟩, ⟨t2, p2, r⟩⟩ := h
 refine ⟨qjw t hB hb, ⟨m, ?_⟩, qeE p hB hb, ⟨t1, p1, qeE s hB hb⟩, ⟨t2, p2, qeE r hB hb⟩⟩
 rw [hb.cell (p := ⟨2, 0, none⟩) (Nat.lt_of_lt_of_le (World.block_lt_of_cell? w _ hm) hB)]; exact hm
theorem qgF {W : World} {n nm : String} {d : DataW Unit} {ti : TypeId} {ms : Array (String × TypeId)} {g : Nat} (hi : Tryz.prog.underlying ti = some (.interface ms)) (hg : Tryz.prog.globalNamed n = some g) (hty : (Tryz.prog.globals[g]?).map (·.type) = some ti)
  (h : VarReads Tryz.prog W n (.iface nm d)) : ∃ tp p, W.var? Tryz.prog n = some #[.iface tp p] := by
 obtain ⟨g', t', cs, fuel, p, hg', ht', hv, hd⟩ := h
 have e1 : some g = some g' := by rw [← hg, ← hg']
 cases e1
 have e2 : some ti = some t' := by rw [← hty, ← ht']
 cases e2
 obtain ⟨_, u, v, hcs, _, _⟩ := iface_of_trod hi hd
 have e3 : cs = #[.iface u v] := Array.toList_inj.1 hcs
 rw [e3] at hv
 exact ⟨u, v, hv⟩
theorem env_of {W : World} {l : List (String × DataW Unit)} (h : laidMet Tryz.prog l W) (hs : W.ShapedOpen Tryz.prog)
  (m1 : ("unicode/utf8.first", (Rows.laid_unicode_utf8_first : DataW Unit)) ∈ l) (m2 : ("unicode/utf8.acceptRanges", (Rows.laid_unicode_utf8_acceptRanges : DataW Unit)) ∈ l)
  (m3 : ("internal/strconv.uint64pow10", (Rows.laid_internal_strconv_uint64pow10 : DataW Unit)) ∈ l) (m4 : ("strconv.ErrSyntax", (Rows.laid_strconv_ErrSyntax : DataW Unit)) ∈ l) (m5 : ("strconv.ErrRange", (Rows.laid_strconv_ErrRange : DataW Unit)) ∈ l) : Env W := by
 refine ⟨?_, ?_, ?_, ?_, ?_⟩
 ·rw [qkw] at m1; rw [qjR] at m2
  exact utf8Tabs_of_reads Tryz.lays260 qnp (Lib.laidMet.reads h m1) (Lib.laidMet.reads h m2)
 ·exact Tryz.laysM143.s1_3 W hs
 ·have hr := Lib.laidMet.reads h m3
  obtain ⟨g', t', cs, fuel, p, hg', ht', hv, hd⟩ := hr
  have hd' : DataW.trod (fun _ => ()) Tryz.prog W 0 (fun _ => true) false fuel t' cs.toList = some (tabData .u64 Lib.pow10Tab, p) := hd
  unfold Lib.TabIs
  have hg : Tryz.prog.globalNamed "internal/strconv.uint64pow10" = some 5 := by kernel_rfl
  have := Option.some.inj (hg.symm.trans hg')
  subst this
  have hty : (Tryz.prog.globals[5]?).map (·.type) = some 339 := by kernel_rfl
  have := Option.some.inj (hty.symm.trans ht')
  subst this
  rw [hv, ← cells_of_tab (n := 20) (e := 175) (by kernel_rfl) (by kernel_rfl) (by kernel_rfl) (by kernel_rfl) hd']
 ·exact qgF (g := 3) Tryz.underlying261 (by kernel_rfl) (by kernel_rfl) (Lib.laidMet.reads h m4)
 ·exact qgF (g := 4) Tryz.underlying261 (by kernel_rfl) (by kernel_rfl) (Lib.laidMet.reads h m5)
open Go.RowKit

/-- a call that ends in a bool, and leaves all that lay -/
def RetB (w : World) (b : Bool) (e : Ending) (w' : World) : Prop := e = .returned (.bool b) ∧ Below w.heap.size w w'
theorem RetB.mk {w w' : World} {a b : Bool} (h : Below w.heap.size w w') (e : b = a) : RetB w a (.returned (.bool b)) w' := ⟨by rw [e], h⟩
theorem qnz (s : ByteArray) (p : Nat) : 1 ≤ (Utf8.decode s p).2 := Lib.width_pos s p

theorem qcV (s : ByteArray) (h0 : s.size ≠ 0) : s.toList.isEmpty = false := by
 cases hb : s.toList.isEmpty with
 | false => rfl
 | true =>
  exfalso
  have h2 : s.toList = [] := List.isEmpty_iff.1 hb
  rw [ByteArray.toList_eq] at h2
  apply h0
  have h3 : s.data.toList.length = 0 := by rw [h2]; rfl
  simpa using h3

theorem qhI (s : ByteArray) (hs : s.size ≤ 140737488355328) (w : World) (hT : Lib.Utf8Tabs 0 1 w) :
  Calls Tryz.prog 117 #[.string s] w (RetB w (qaN s)) := by
 have cV : Calls Tryz.prog 147 #[.string s] w _ := Tryz.utf8_ValidString s w (by omega) hT
 have hv : Lib.validD s.data.toList = qaM s 0 := by unfold qaM; rw [List.drop_zero]
 rw [hv] at cV
 clear hv
 by_cases h0 : s.size = 0
 ·have he : s = ByteArray.empty := ByteArray.ext (Array.eq_empty_of_size_eq_zero h0)
  subst he
  clear cV
  go_enter Tryz.func117, Tryz.ntmps117
  go_wp2
  go_ret
  exact RetB.mk (Below.refl _ _) (by simp [qaN])
 have hne : s.toList.isEmpty = false := qcV s h0
 by_cases h1 : s.size ≤ 256
 ·have h1z : ¬ (256 < (s.size : Int)) := by omega
  by_cases hV : qaM s 0 = true
  ·rw [hV] at cV
   have HV := Lib.hid hV; clear hV
   go_enter Tryz.func117, Tryz.ntmps117
   go_wp2_with (go_at_call 147; refine cV.mono ?_; rintro e w1 ⟨rfl, hb1⟩)
   have hdec0 : ∀ p, p < s.size → (Utf8.decode s p).1 ≤ 1114111 := fun p _ => Lib.rune_le s p
   have HB1 := Lib.hid hb1; clear hb1
   go_loopw [] (fun wr => ∃ p : Nat, wr.heap[w1.heap.size]? = some (.stringIter s p) ∧ Below w1.heap.size w1 wr ∧ qbn s p = qbn s 0) (fun wr => s.size - wr.iterPos w1.heap.size)
   case atStart => exact ⟨0, World.iter_heap w1 s 0, (Below.refl _ w1).alloc (Nat.le_refl _) _, rfl⟩
   case round =>
    obtain ⟨p, hit, hbw, hF⟩ := hrel
    have HF := Lib.hid hF; clear hF
    by_cases hp : p < s.size
    ·have hnx : ∀ ty, (Instr.next (.pointer (some ⟨w1.heap.size, 0, none⟩)) true ty).run Tryz.prog wr = _ := fun ty => Lib.run_next_any_at wr w1.heap.size s p ty hit hp
     have hd1 := Lib.rune_le s p
     have hit2 := Lib.iterAt_heap wr w1.heap.size s p (p + (Utf8.decode s p).2) hit
     have hbw2 := Lib.below_iterAt hbw (k := w1.heap.size) (by omega) s (p + (Utf8.decode s p).2)
     have HIT := Lib.hid hit; have HIT2 := Lib.hid hit2; have HB2 := Lib.hid hbw2
     clear hit hit2 hbw hbw2
     have hw1 := qnz s p
     have HR := Lib.hid (qir s p hp)
     by_cases c1 : (((Utf8.decode s p).1 : Nat) : Int) < 33
     ·have HO : Hid (okB (Utf8.decode s p).1 = false) := Lib.hid (by unfold okB; rw [decide_eq_false (by omega)]; rfl)
      go_wp2
      go_ret
      exact RetB.mk (HB1.out.trans (HB2.out.mono HB1.out.size)) (by unfold qaN; rw [← HF.out, HR.out, HO.out]; simp)
     by_cases c2 : (((Utf8.decode s p).1 : Nat) : Int) = 127
     ·have c2b : ((((Utf8.decode s p).1 : Nat) : Int) == 127) = true := by simp [c2]
      have HO : Hid (okB (Utf8.decode s p).1 = false) := Lib.hid (by unfold okB; rw [show (Utf8.decode s p).1 = 127 by omega]; rfl)
      clear c2
      go_wp2
      go_ret
      exact RetB.mk (HB1.out.trans (HB2.out.mono HB1.out.size)) (by unfold qaN; rw [← HF.out, HR.out, HO.out]; simp)
     have c2b : ((((Utf8.decode s p).1 : Nat) : Int) == 127) = false := by simp [c2]
     by_cases c3 : (((Utf8.decode s p).1 : Nat) : Int) = 44
     ·have c3b : ((((Utf8.decode s p).1 : Nat) : Int) == 44) = true := by simp [c3]
      have HO : Hid (okB (Utf8.decode s p).1 = false) := Lib.hid (by unfold okB; rw [show (Utf8.decode s p).1 = 44 by omega]; rfl)
      clear c2 c3
      go_wp2
      go_ret
      exact RetB.mk (HB1.out.trans (HB2.out.mono HB1.out.size)) (by unfold qaN; rw [← HF.out, HR.out, HO.out]; simp)
     have c3b : ((((Utf8.decode s p).1 : Nat) : Int) == 44) = false := by simp [c3]
     have HO : Hid (okB (Utf8.decode s p).1 = true) := Lib.hid (by unfold okB; rw [decide_eq_true (by omega), decide_eq_true (by omega), decide_eq_true (by omega)]; rfl)
     clear c2 c3
     go_wp2
     go_roundw
     case rel => exact ⟨p + (Utf8.decode s p).2, HIT2.out, HB2.out, by rw [← HF.out, HR.out, HO.out, Bool.true_and]⟩
     case measure =>
      have e1 := HIT2.out; have e0 := HIT.out
      simp only [World.iterPos, e1, e0]
      omega
    ·have hnx : ∀ ty, (Instr.next (.pointer (some ⟨w1.heap.size, 0, none⟩)) true ty).run Tryz.prog wr = _ := fun ty => Lib.run_next_end_at wr w1.heap.size s p ty hit hp
     have HB := Lib.hid hbw; clear hbw
     go_wp2
     go_ret
     exact RetB.mk (HB1.out.trans (HB.out.mono HB1.out.size)) (by unfold qaN; rw [← HF.out, qfL s p hp, HV.out, decide_eq_true (by omega), decide_eq_true h1]; rfl)
  ·have hVf : qaM s 0 = false := by simpa using hV
   rw [hVf] at cV
   clear hV
   have HV := Lib.hid hVf; clear hVf
   go_enter Tryz.func117, Tryz.ntmps117
   go_wp2_with (go_at_call 147; refine cV.mono ?_; rintro e w1 ⟨rfl, hb1⟩)
   go_ret
   exact RetB.mk hb1 (by unfold qaN; rw [HV.out]; simp)
 ·have h1z : 256 < (s.size : Int) := by omega
  clear cV
  go_enter Tryz.func117, Tryz.ntmps117
  go_wp2
  go_ret
  exact RetB.mk (Below.refl _ _) (by unfold qaN; rw [decide_eq_false h1]; simp)
open Go.RowKit
open Go.Lib hiding intOf

def RetI (w : World) (n : Int) (e : Ending) (w' : World) : Prop := e = .returned (.int .i64 n) ∧ Below w.heap.size w w'
theorem RetI.mk {w w' : World} {a b : Int} (h : Below w.heap.size w w') (e : b = a) : RetI w a (.returned (.int .i64 b)) w' := ⟨by rw [e], h⟩


theorem qit (s : ByteArray) (hs : s.size ≤ 281474976710656) (most : Int) (h0 : 0 ≤ most) (h1 : most ≤ 255) (w : World) (hE : Env w) :
  Calls Tryz.prog 150 #[.string s, .int .i64 most] w (RetI w (decP s.data.toList most)) := by
 cases hc : atoiAll s.data.toList with
 | ok v =>
  have cA : Calls Tryz.prog 192 #[.string s] w _ := Tryz.strconv_Atoi_ok s (by omega) v hc w
  have cA2 : Calls Tryz.prog 192 #[.string s] w fun e w' => e = .returned (.tuple #[.int .i64 v, .nilIface]) ∧ Below w.heap.size w w' := cA.mono fun _ _ ⟨he, h⟩ => ⟨he, by
   rcases h with rfl | ⟨t, rfl⟩
   ·exact Below.refl _ _
   ·exact bytesWorld_below _ _ _⟩
  clear cA
  by_cases hv : v < 0 ∨ most < v
  ·have HD := Lib.hid (show decP s.data.toList most = -1 by unfold decP; rw [hc]; simp only []; rw [if_pos (by omega)])
   clear hc
   by_cases hv0 : v < 0
   ·clear hv
    go_enter Tryz.func150, Tryz.ntmps150
    go_wp2_with (go_at_call 192; refine cA2.mono ?_; rintro e w1 ⟨rfl, hb1⟩)
    go_ret
    exact RetI.mk hb1 HD.out.symm
   ·have hv1 : most < v := by omega
    clear hv
    go_enter Tryz.func150, Tryz.ntmps150
    go_wp2_with (go_at_call 192; refine cA2.mono ?_; rintro e w1 ⟨rfl, hb1⟩)
    go_ret
    exact RetI.mk hb1 HD.out.symm
  ·have hv0 : 0 ≤ v := by omega
   have hv1 : v ≤ most := by omega
   have cI := fun W (hW : Env W) => Tryz.strconv_Itoa v (by omega) (by omega) W hW.pow
   have HD := Lib.hid (show decP s.data.toList most = if itoa v = s.data.toList then v else -1 by
    unfold decP; rw [hc]; simp only []
    by_cases e : itoa v = s.data.toList
    ·rw [if_pos e, if_neg (by rintro (h | h | h); omega; omega; exact h e)]
    ·rw [if_neg e, if_pos (.inr (.inr e))])
   clear hc hv
   by_cases he : itoa v = s.data.toList
   ·rw [if_pos he] at HD
    have hs2 : (⟨(itoa v).toArray⟩ : ByteArray) = s := by rw [he]
    rw [hs2] at cI
    clear he hs2
    go_enter Tryz.func150, Tryz.ntmps150
    go_wp2_with (first | (go_at_call 192; refine cA2.mono ?_; rintro e w1 ⟨rfl, hb1⟩) | (go_at_call 193; refine (cI _ (hE.below (Nat.le_refl _) hb1)).mono ?_; rintro e w2 ⟨rfl, k, os, rfl⟩))
    go_ret
    exact RetI.mk (hb1.trans (Lib.below_grow _ _ hb1.size k os)) HD.out.symm
   ·rw [if_neg he] at HD
    have hne : ((⟨(itoa v).toArray⟩ : ByteArray).toList == s.toList) = false := by
     rw [qeR]; exact decide_eq_false fun e => he (by rw [← e])
    have HN := Lib.hid hne
    clear he
    generalize (⟨(itoa v).toArray⟩ : ByteArray) = t at *
    go_enter Tryz.func150, Tryz.ntmps150
    go_wp2_with (first | (go_at_call 192; refine cA2.mono ?_; rintro e w1 ⟨rfl, hb1⟩) | (go_at_call 193; refine (cI _ (hE.below (Nat.le_refl _) hb1)).mono ?_; rintro e w2 ⟨rfl, k, os, rfl⟩))
    go_ret
    exact RetI.mk (hb1.trans (Lib.below_grow _ _ hb1.size k os)) HD.out.symm
 | range =>
  obtain ⟨tp, p, hv⟩ := hE.ran
  have cA : Calls Tryz.prog 192 #[.string s] w _ := Tryz.strconv_Atoi_range_var s (by omega) hc tp p w hv
  have HD := Lib.hid (show decP s.data.toList most = -1 by unfold decP; rw [hc])
  clear hc hv
  generalize atoiSat s.data.toList = v at *
  go_enter Tryz.func150, Tryz.ntmps150
  go_wp2_with (go_at_call 192; refine cA.mono ?_; rintro e w1 ⟨N, rfl, _, _, hb1⟩)
  go_ret
  exact RetI.mk hb1 HD.out.symm
 | _ =>
  obtain ⟨tp, p, hv⟩ := hE.syn
  have cA : Calls Tryz.prog 192 #[.string s] w _ := Tryz.strconv_Atoi_syntax_var s (by omega) hc tp p w hv
  have HD := Lib.hid (show decP s.data.toList most = -1 by unfold decP; rw [hc])
  clear hc hv
  go_enter Tryz.func150, Tryz.ntmps150
  go_wp2_with (go_at_call 192; refine cA.mono ?_; rintro e w1 ⟨N, rfl, _, _, hb1⟩)
  go_ret
  exact RetI.mk hb1 HD.out.symm

def RetA (w : World) (o : Option Int) (e : Ending) (w' : World) : Prop := e = .returned (.tuple #[.int .u32 (o.getD 0), .bool o.isSome]) ∧ Below w.heap.size w w'
theorem RetA.no {w w' : World} {o : Option Int} (h : Below w.heap.size w w') (e : o = none) : RetA w o (.returned (.tuple #[.int .u32 0, .bool false])) w' := ⟨by rw [e]; rfl, h⟩
theorem RetA.yes {w w' : World} {o : Option Int} {a : Int} (h : Below w.heap.size w w') (e : o = some a) : RetA w o (.returned (.tuple #[.int .u32 a, .bool true])) w' := ⟨by rw [e]; rfl, h⟩
def qcI (acc : Int) (xs : List ByteArray) : Option Int := qcG stA acc (xs.map (·.data.toList))
theorem qle (s : ByteArray) : adr s = if (splitB ⟨#[46]⟩ 0 (countB s ⟨#[46]⟩) s).length ≠ 4 then none else qcI 0 (splitB ⟨#[46]⟩ 0 (countB s ⟨#[46]⟩) s) := by
 have h : (splitB ⟨#[46]⟩ 0 (countB s ⟨#[46]⟩) s).map (·.data.toList) = split s.data.toList [46] := splitB_data ⟨#[46]⟩ 0 _ s
 unfold adr qjO qcI
 rw [h, ← h, List.length_map]
theorem qjG (acc : Int) (xs : List ByteArray) (k : Nat) (h : k < xs.length) (hd : 0 ≤ decP xs[k]!.data.toList 255) : qcI acc (xs.drop k) = qcI (stA acc (decP xs[k]!.data.toList 255)) (xs.drop (k + 1)) := by
 rw [List.drop_eq_getElem_cons h, getElem!_pos xs k h] at *
 unfold qcI
 rw [List.map_cons, qcG, if_neg (by omega)]
theorem qjs (acc : Int) (xs : List ByteArray) (k : Nat) (h : k < xs.length) (hd : decP xs[k]!.data.toList 255 < 0) : qcI acc (xs.drop k) = none := by
 rw [getElem!_pos xs k h] at hd
 rw [List.drop_eq_getElem_cons h]
 unfold qcI
 rw [List.map_cons, qcG, if_pos hd]
theorem qjD (l : List UInt8) : -1 ≤ decP l 255 ∧ decP l 255 ≤ 255 := by rw [qfH l 255 (by omega)]; exact qfI l 255 (by omega)
theorem qhq (s : ByteArray) (x : ByteArray) (h : x ∈ splitB ⟨#[46]⟩ 0 (countB s ⟨#[46]⟩) s) : x.size ≤ s.size := by
 have all : ∀ (k : Nat) (s x : ByteArray), x ∈ splitB ⟨#[46]⟩ 0 k s → x.size ≤ s.size := by
  intro k
  induction k with
  | zero => intro s x hx; rw [splitB_zero] at hx; rw [List.mem_singleton.1 hx]; exact Nat.le_refl _
  | succ k ih =>
   intro s x hx
   unfold splitB at hx
   split at hx
   ·rw [List.mem_singleton.1 hx]; exact Nat.le_refl _
   ·rcases List.mem_cons.1 hx with rfl | hx
    ·rw [ByteArray.size_extract]; omega
    ·have := ih _ _ hx
     rw [ByteArray.size_extract] at this; omega
 exact all _ _ _ h
theorem qmY (acc n : Int) (h0 : 0 ≤ acc) (h1 : acc < 16777216) (h2 : 0 ≤ n) (h3 : n ≤ 255) : bits .or .u32 (acc * 256 % 4294967296) n = stA acc n := by
 rw [u32_or _ _ (by omega) (by omega) (by omega) (by omega), nat_join8 _ _ (by omega) (by omega)]
 unfold stA; omega
theorem qiR (k : Nat) (h : k < 4) : (256 : Int) ^ k ≤ 16777216 := by
 match k, h with
 | 0, _ => decide
 | 1, _ => decide
 | 2, _ => decide
 | 3, _ => decide
theorem Env.later {w w1 : World} (h : Env w) (hb : Below w.heap.size w w1) : Env w1 := h.below (Nat.le_refl _) hb

theorem qiG (s : ByteArray) (hs : s.size < 4294967281) (w : World) (hE : Env w) :
  Calls Tryz.prog 119 #[.string s] w (RetA w (adr s)) := by
 obtain ⟨m, hm⟩ := hE.maxl
 have cS : Calls Tryz.prog 149 #[.string s, .string ⟨#[46]⟩] w _ := Tryz.strings_Split s ⟨#[46]⟩ m w hs hm (by decide)
 have hA := qle s
 have hl := splitB_all ⟨#[46]⟩ (by decide) 0 _ s rfl
 have hsm := qhq s
 rw [← hl] at cS
 clear hm hl
 generalize splitB ⟨#[46]⟩ 0 (countB s ⟨#[46]⟩) s = xs at *
 have HA := Lib.hid hA; clear hA
 by_cases h4 : xs.length = 4
 ·have HA2 : Hid (adr s = qcI 0 (xs.drop 0)) := Lib.hid (by rw [HA.out, if_neg (by simp [h4])]; rfl)
  clear HA
  rw [h4] at cS
  have H4 := Lib.hid h4; clear h4
  have HS := Lib.hid hsm; clear hsm
  go_enter Tryz.func119, Tryz.ntmps119
  go_wp2_with (go_at_call 149; refine cS.mono ?_; rintro e w1 ⟨rfl, rfl⟩)
  go_loopw [5, 16] (fun a i wr => ∃ (k : Nat) (acc : Int), i = .int .i64 ↑k ∧ a = .int .u32 acc ∧ k ≤ 4 ∧ 0 ≤ acc ∧ acc < 256 ^ k ∧ qcI 0 (xs.drop 0) = qcI acc (xs.drop k) ∧ Below (w.heap.size + 1) (w.alloc (.cells (xs.map Value.string).toArray 9)) wr) (fun _ i _ => 4 - (intOf i).toNat)
  case atStart => exact ⟨0, 0, rfl, rfl, by omega, by omega, by decide, rfl, (Below.refl _ _)⟩
  case round =>
   obtain ⟨k, acc, rfl, rfl, hk, ha0, ha1, hF, hb⟩ := hrel
   have HF := Lib.hid hF; have HB := Lib.hid hb; clear hF hb
   by_cases hlt : k < 4
   ·have hxl : k < xs.length := by rw [H4.out]; exact hlt
    have hbW : Below w.heap.size w wr := (((Below.refl _ w).alloc (Nat.le_refl _) (.cells (xs.map Value.string).toArray 9))).trans (HB.out.mono (by omega))
    have HBW := Lib.hid hbW; clear hbW
    have hcell : wr.cell? ⟨w.heap.size, k, none⟩ = some (.string xs[k]!) := by
     rw [HB.out.cell (p := ⟨w.heap.size, k, none⟩) (by show w.heap.size < w.heap.size + 1; omega), getElem!_pos xs k hxl]
     simp [hxl]
    have hxs : xs[k]!.size ≤ s.size := by rw [getElem!_pos xs k hxl]; exact HS.out _ (List.getElem_mem hxl)
    have cD := fun W (hW : Env W) => qit xs[k]! (by omega) 255 (by omega) (by omega) W hW
    clear hxl hxs
    have hr := qjD xs[k]!.data.toList
    by_cases hneg : decP xs[k]!.data.toList 255 < 0
    ·have HR := Lib.hid (qjs acc xs k (by rw [H4.out]; exact hlt) hneg)
     generalize xs[k]! = x at *
     generalize decP x.data.toList 255 = n at *
     go_wp2_with (go_at_call 150; refine (cD _ (hE.later HBW.out)).mono ?_; rintro e w2 ⟨rfl, hb2⟩)
     go_ret2
     exact RetA.no (HBW.out.trans (hb2.mono HBW.out.size)) (by rw [HA2.out, HF.out, HR.out])
    ·have HR := Lib.hid (qjG acc xs k (by rw [H4.out]; exact hlt) (by omega))
     have hn0 : 0 ≤ decP xs[k]!.data.toList 255 := by omega
     generalize xs[k]! = x at *
     generalize decP x.data.toList 255 = n at *
     go_wp2_with (go_at_call 150; refine (cD _ (hE.later HBW.out)).mono ?_; rintro e w2 ⟨rfl, hb2⟩)
     go_roundw
     case rel =>
      have hp := qiR k hlt
      have hq := HB.out.size
      simp only [World.size_alloc] at hq
      exact ⟨k + 1, stA acc n, by go_num, by rw [qmY acc n ha0 (by omega) hn0 hr.2], by omega, by unfold stA; omega, by unfold stA; rw [Int.pow_succ]; omega, by rw [HF.out, HR.out], HB.out.trans (hb2.mono hq)⟩
     case measure => simp [intOf]; omega
   ·obtain rfl : k = 4 := by omega
    have HQ : Hid (qcI acc (xs.drop 4) = some acc) := Lib.hid (by rw [List.drop_of_length_le (by rw [H4.out]; exact Nat.le_refl _)]; rfl)
    go_wp2
    go_ret2
    exact RetA.yes ((((Below.refl _ w).alloc (Nat.le_refl _) (.cells (xs.map Value.string).toArray 9))).trans (HB.out.mono (by omega))) (by rw [HA2.out, HF.out, HQ.out])
 ·have HA2 : Hid (adr s = none) := Lib.hid (by rw [HA.out, if_pos h4])
  have hd : (((xs.length : Nat) : Int) != 4) = true := by simp; omega
  clear HA h4
  go_enter Tryz.func119, Tryz.ntmps119
  go_wp2_with (go_at_call 149; refine cS.mono ?_; rintro e w1 ⟨rfl, rfl⟩)
  go_ret2
  exact RetA.no ((Below.refl _ w).alloc (Nat.le_refl _) _) HA2.out

theorem qjL (s : ByteArray) (w : World) : Calls Tryz.prog 118 #[.string s] w (RetB w (qbP s)) := by
 have cI : Calls Tryz.prog 148 #[.string s, .string ⟨#[58]⟩] w _ := Tryz.strings_Index_one s 58 w
 rw [qdJ] at cI
 have hl : s.data.toList.length = s.size := by simp
 have hle := qdf 58 s.data.toList
 rw [hl] at cI hle
 have HD := Lib.hid (show qbP s = (decide (0 < qav 58 s.data.toList) && decide (qav 58 s.data.toList < s.size)) from rfl)
 clear hl
 generalize qav 58 s.data.toList = n at *
 by_cases h : n = s.size
 ·rw [if_pos h] at cI
  go_enter Tryz.func118, Tryz.ntmps118
  clear hle
  have H := Lib.hid h; clear h
  go_wp2_with (go_at_call 148; refine cI.mono ?_; rintro e w1 ⟨rfl, rfl⟩)
  go_ret
  exact RetB.mk (Below.refl _ _) (by rw [HD.out, H.out]; simp)
 ·rw [if_neg h] at cI
  have h2 : n < s.size := by omega
  by_cases h0 : 0 < n
  all_goals
   go_enter Tryz.func118, Tryz.ntmps118
   go_wp2_with (go_at_call 148; refine cI.mono ?_; rintro e w1 ⟨rfl, rfl⟩)
   go_ret
   exact RetB.mk (Below.refl _ _) (by rw [HD.out]; simp [h0, h2])
open Go.RowKit

theorem qhD (s : ByteArray) (l : List UInt8) : (s.toList == l) = decide (s = ⟨l.toArray⟩) := by
 rw [← qeR]; congr 1; rw [ByteArray.toList_eq]
theorem qfW (s : ByteArray) : (s.toList == [100, 105, 103, 101, 115, 116]) = decide (s = qbO) := qhD s _
theorem qkA (s : ByteArray) : (s.toList == [105, 112]) = decide (s = sIp) := qhD s _
theorem qgx (s : ByteArray) : (s.toList == [115, 117, 112, 101, 114]) = decide (s = qcw) := qhD s _
theorem qdX {W w1 : World} (hb : Below W.heap.size W w1) : (∀ b o, b < W.heap.size → w1.cell? ⟨b, o, none⟩ = W.cell? ⟨b, o, none⟩) ∧ (∀ b o, b < W.heap.size → w1.frozen? ⟨b, o, none⟩ = W.frozen? ⟨b, o, none⟩) :=
 ⟨fun b o h => hb.cell (p := ⟨b, o, none⟩) h, fun b o h => hb.frozen (p := ⟨b, o, none⟩) h⟩
theorem qim {s : ByteArray} (h : qaN s = true) : s.size ≤ 256 := by
 unfold qaN at h
 simp only [Bool.and_eq_true, decide_eq_true_eq] at h
 exact h.1.1.2

theorem qev (s t : ByteArray) (hs : s.size ≤ 140737488355328) (ht : t.size ≤ 140737488355328) (w : World) (hE : Env w) :
  Calls Tryz.prog 83 #[.agg #[.string s, .string t]] w (RetB w (qbb (s, t))) := by
 have cS := fun W (hW : Env W) => qhI s hs W hW.tabs
 have cT := fun W (hW : Env W) => qhI t ht W hW.tabs
 have HR := Lib.hid (show qbb (s, t) = (qaN s && qaN t && (if s = qbO then qbP t else if s = sIp then (adr t).isSome else decide (s = qcw))) from rfl)
 have hb0 : Below w.heap.size w (w.alloc (.cells #[.string s, .string t] 155)) := (Below.refl _ w).alloc (Nat.le_refl _) _
 cases hts : qaN s with
 | false =>
  rw [hts] at cS
  have HB := Lib.hid (show qbb (s, t) = false by rw [HR.out, hts]; simp)
  clear hts
  go_enter Tryz.func83, Tryz.ntmps83
  go_wp2_with fail
  refine (cS _ (hE.later hb0)).mono ?_
  rintro e w1 ⟨rfl, hb1⟩
  go_wp2
  go_ret
  exact RetB.mk (hb0.trans (hb1.mono hb0.size)) HB.out.symm
 | true =>
  rw [hts] at cS
  cases htt : qaN t with
  | false =>
   rw [htt] at cT
   have HB := Lib.hid (show qbb (s, t) = false by rw [HR.out, htt]; simp)
   clear hts htt
   go_enter Tryz.func83, Tryz.ntmps83
   go_wp2_with fail
   refine (cS _ (hE.later hb0)).mono ?_
   rintro e w1 ⟨rfl, hb1⟩
   obtain ⟨hc1, hf1⟩ := qdX hb1
   go_wp2_with fail
   refine (cT _ ((hE.later hb0).later hb1)).mono ?_
   rintro e w2 ⟨rfl, hb2⟩
   go_wp2
   go_ret
   exact RetB.mk ((hb0.trans (hb1.mono hb0.size)).trans (hb2.mono (by have := hb1.size; simp at this; omega))) HB.out.symm
  | true =>
   rw [htt] at cT
   have hz := qim htt
   have HR2 := Lib.hid (show qbb (s, t) = (if s = qbO then qbP t else if s = sIp then (adr t).isSome else decide (s = qcw)) by rw [HR.out, hts, htt]; simp)
   clear hts htt HR
   have f1 := qfW s; have f2 := qkA s; have f3 := qgx s
   have cD := fun W => qjL t W
   have cN := fun W (hW : Env W) => qiG t (by omega) W hW
   have hcase : (s = qbO ∧ qbb (s, t) = qbP t) ∨ (s ≠ qbO ∧ s = sIp ∧ qbb (s, t) = (adr t).isSome) ∨ (s ≠ qbO ∧ s ≠ sIp ∧ qbb (s, t) = decide (s = qcw)) := by
    rw [HR2.out]
    by_cases e2 : s = qbO
    ·rw [if_pos e2]; exact (.inl ⟨e2, rfl⟩)
    ·rw [if_neg e2]
     by_cases e3 : s = sIp
     ·rw [if_pos e3]; exact (.inr (.inl ⟨e2, e3, rfl⟩))
     ·rw [if_neg e3]; exact .inr (.inr ⟨e2, e3, rfl⟩)
   clear HR2
   rcases hcase with ⟨e1, hv⟩ | ⟨e1, e2, hv⟩ | ⟨e1, e2, hv⟩
   ·rw [decide_eq_true e1] at f1
    have HV := Lib.hid hv
    clear e1 hv f2 f3 cN
    generalize qbP t = b at *
    go_enter Tryz.func83, Tryz.ntmps83
    go_wp2_with fail
    refine (cS _ (hE.later hb0)).mono ?_
    rintro e w1 ⟨rfl, hb1⟩
    obtain ⟨hc1, hf1⟩ := qdX hb1
    have hz1 : w.heap.size < w1.heap.size := by have := hb1.size; simp at this; omega
    go_wp2_with fail
    refine (cT _ ((hE.later hb0).later hb1)).mono ?_
    rintro e w2 ⟨rfl, hb2⟩
    obtain ⟨hc2, hf2⟩ := qdX hb2
    go_wp2_with fail
    refine (cD _).mono ?_
    rintro e w3 ⟨rfl, hb3⟩
    go_wp2
    go_ret
    exact RetB.mk (((hb0.trans (hb1.mono hb0.size)).trans (hb2.mono (by omega))).trans (hb3.mono (by have := hb2.size; omega))) HV.out.symm
   ·rw [decide_eq_false e1] at f1
    rw [decide_eq_true e2] at f2
    have HV := Lib.hid hv
    clear e1 e2 hv f3 cD
    unfold RetA at cN
    generalize (adr t).isSome = b at *
    generalize (adr t).getD 0 = na at *
    go_enter Tryz.func83, Tryz.ntmps83
    go_wp2_with fail
    refine (cS _ (hE.later hb0)).mono ?_
    rintro e w1 ⟨rfl, hb1⟩
    obtain ⟨hc1, hf1⟩ := qdX hb1
    have hz1 : w.heap.size < w1.heap.size := by have := hb1.size; simp at this; omega
    go_wp2_with fail
    refine (cT _ ((hE.later hb0).later hb1)).mono ?_
    rintro e w2 ⟨rfl, hb2⟩
    obtain ⟨hc2, hf2⟩ := qdX hb2
    go_wp2_with fail
    refine (cN _ (((hE.later hb0).later hb1).later hb2)).mono ?_
    rintro e w3 ⟨rfl, hb3⟩
    go_wp2
    go_ret
    exact RetB.mk (((hb0.trans (hb1.mono hb0.size)).trans (hb2.mono (by omega))).trans (hb3.mono (by have := hb2.size; omega))) HV.out.symm
   ·rw [decide_eq_false e1] at f1
    rw [decide_eq_false e2] at f2
    have HV := Lib.hid hv
    clear e1 e2 hv cD cN
    cases hb : decide (s = qcw)
    all_goals
     rw [hb] at f3 HV
     clear hb
     go_enter Tryz.func83, Tryz.ntmps83
     go_wp2_with fail
     refine (cS _ (hE.later hb0)).mono ?_
     rintro e w1 ⟨rfl, hb1⟩
     obtain ⟨hc1, hf1⟩ := qdX hb1
     have hz1 : w.heap.size < w1.heap.size := by have := hb1.size; simp at this; omega
     go_wp2_with fail
     refine (cT _ ((hE.later hb0).later hb1)).mono ?_
     rintro e w2 ⟨rfl, hb2⟩
     obtain ⟨hc2, hf2⟩ := qdX hb2
     go_wp2
     go_ret
     exact RetB.mk ((hb0.trans (hb1.mono hb0.size)).trans (hb2.mono (by omega))) HV.out.symm
open Go.RowKit Go.WideShapes
set_option maxRecDepth 100000
theorem qcX {H : Type} (f : Nat → DataW H) : ∀ (l : List Nat) (i : Nat), i ∈ l → Rows.uptoBulk (f i) ≤ Rows.uptoBulkAll (l.map f) := fun _ _ h => bulk_part (List.mem_map_of_mem h)
theorem qfo {H : Type} (d : DataW H) : 1 ≤ Rows.uptoBulk d := by
 cases d with
 | lit x => cases x <;> simp [Rows.uptoBulk]
 | _ => simp [Rows.uptoBulk]
theorem qcZ {H : Type} : ∀ l : List (DataW H), l.length ≤ Rows.uptoBulkAll l
 | [] => by simp [Rows.uptoBulkAll]
 | d :: r => by have := qcZ r; have := qfo d; simp only [Rows.uptoBulkAll, List.length_cons]; omega
section
variable {H : Type} {enc : TypeId × Value → H} {w : World} {base : Nat} {spare : Nat → Bool} {held : Bool}
theorem qgi {a : Addr} (hs : a.spot = none) (i u : Nat) : (a.add i).add u = ⟨a.block, a.off + i + u, none⟩ := by
 obtain ⟨b, o, s⟩ := a
 simp only at hs
 subst hs
 simp only [Addr.add]
 by_cases h : i = 0 <;> by_cases h' : u = 0 <;> simp [h, h']
theorem qcU (a : Addr) : a.add 0 = a := by simp [Addr.add]
theorem qgA {α : Type} [Inhabited α] {enc0 : α → List Value} {k : Nat} {t e : TypeId} (ht : Tryz.prog.underlying t = some (.slice e)) (hC : Tryz.prog.cellsOf e = k) (hk0 : 0 < k) (small : α → Nat → Prop)
  (hel : ∀ (fuel : Nat) cs' (x : DataW H × List MemPlace), DataW.trod enc Tryz.prog w base spare held fuel e cs' = some x → ∃ z : α, cs' = enc0 z ∧ small z (Rows.uptoBulk x.1)) (hmono : ∀ z a b, a ≤ b → small z a → small z b)
  {v : Value} {d : DataW H} {ps : List MemPlace} {b0 : Nat} (hval : Value.okWide Tryz.prog w .any b0 t v) (h : DataW.Trod enc Tryz.prog w base spare held t v d ps) :
  ∃ A n c l, v = .slice A n c ∧ Sl w w.heap.size enc0 k A n l ∧ (A = none → n = 0 ∧ c = 0) ∧ n ≤ Rows.uptoBulk d ∧ ∀ j, j < n → small l[j]! (Rows.uptoBulk d) := by
 obtain ⟨A, n, c, rfl⟩ := okWide_slice ht hval
 obtain ⟨fuel, h⟩ := h
 rcases Deep.open_slice ht h with ⟨e1, e2⟩ | ⟨a, len, cap, m, n', D, Pl, e1, _, hlc, _, hm, e2, hx⟩
 ·injection e1 with e1 _
  injection e1 with e1 e3 e4
  subst e1 e3 e4
  exact ⟨none, 0, 0, [], rfl, Sl.nil_, fun _ => ⟨rfl, rfl⟩, Nat.zero_le _, fun j hj => absurd hj (by omega)⟩
 ·injection e1 with e1 _
  injection e1 with e1 e3 e4
  subst e1 e3 e4
  have hd : d = .slice ((List.range n).map D) ((List.range (m - n)).map fun j => D (n + j)) := congrArg Prod.fst e2
  have hnm : n ≤ m := by rw [hm]; split <;> omega
  have hspot : 0 < n → a.spot = none := fun h0 => by
   obtain ⟨cs', h1, h2⟩ := hx 0 (by omega)
   rw [hC, Nat.zero_mul, qcU] at h1
   obtain ⟨_, hlen, hcell⟩ := World.cells?_some h1
   have hg := hcell 0 hk0
   rw [qcU, List.getElem?_eq_getElem (by omega)] at hg
   exact World.cell?_spot hg
  have key : ∀ i, i < n → ∃ z : α, (∀ u y, (enc0 z)[u]? = some y → a.spot = none ∧ w.cell? ⟨a.block, a.off + i * k + u, none⟩ = some y ∧ a.block < w.heap.size) ∧ small z (Rows.uptoBulk d) ∧ (enc0 z).length = k := by
   intro i hi
   obtain ⟨cs', h1, h2⟩ := hx i (by omega)
   rw [hC] at h1
   obtain ⟨z, e3, hz⟩ := hel _ _ _ h2
   subst e3
   obtain ⟨_, hlen, hcell⟩ := World.cells?_some h1
   refine ⟨z, fun u y hu => ?_, hmono z _ _ ?_ hz, hlen⟩
   ·have hul : u < k := by rw [← hlen]; exact (List.getElem?_eq_some_iff.1 hu).1
    have hg := (hcell u hul).trans hu
    have hg' : w.cell? ⟨a.block, a.off + i * k + u, none⟩ = some y := by
     rw [← hg, qgi (hspot (by omega))]
    exact ⟨hspot (by omega), hg', (by have := World.block_lt_of_cell? _ _ hg'; exact this)⟩
   ·rw [hd]
    have := qcX D (List.range n) i (by simp [hi])
    simp only [Rows.uptoBulk]
    omega
  obtain ⟨Z, hZ⟩ : ∃ Z : Nat → α, ∀ i, i < n → (∀ u y, (enc0 (Z i))[u]? = some y → a.spot = none ∧ w.cell? ⟨a.block, a.off + i * k + u, none⟩ = some y ∧ a.block < w.heap.size) ∧ small (Z i) (Rows.uptoBulk d) ∧ (enc0 (Z i)).length = k := by
   classical
   refine ⟨fun i => if h : i < n then (key i h).choose else default, fun i hi => ?_⟩
   simp only [dif_pos hi]
   exact (key i hi).choose_spec
  have hget : ∀ j, j < n → ((List.range n).map Z)[j]! = Z j := fun j hj => by
   rw [getElem!_pos _ _ (by simpa using hj)]; simp
  refine ⟨some a, n, c, (List.range n).map Z, rfl, ⟨by simp, fun h0 => ?_⟩, (fun hh => by cases hh), ?_, fun j hj => by rw [hget j hj]; exact (hZ j hj).2.1⟩
  ·obtain ⟨h1, _, h3⟩ := hZ 0 h0
   obtain ⟨y, hy⟩ : ∃ y, (enc0 (Z 0))[0]? = some y := ⟨_, List.getElem?_eq_getElem (by omega)⟩
   obtain ⟨hs, _, hb⟩ := h1 0 y hy
   refine ⟨a.block, a.off, ?_, hb, fun j hj i u hu => ?_⟩
   ·obtain ⟨b, o, s⟩ := a
    simp only at hs
    subst hs; rfl
   ·rw [hget j hj] at hu
    exact ((hZ j hj).1 i u hu).2.1
  ·rw [hd]
   have := qcZ ((List.range n).map D)
   simp only [Rows.uptoBulk]
   simp at this
   omega
end
open Go.RowKit Go.WideShapes
set_option maxRecDepth 100000
section
variable {H : Type} {enc : TypeId × Value → H} {w : World} {base : Nat} {spare : Nat → Bool} {held : Bool}
theorem qjf {fuel : Nat} {cs : List Value} {x : DataW H × List MemPlace} (h : DataW.trod enc Tryz.prog w base spare held fuel 155 cs = some x) :
  ∃ z : IdV, cs = qaz z ∧ z.1.size ≤ Rows.uptoBulk x.1 ∧ z.2.size ≤ Rows.uptoBulk x.1 := by
 obtain ⟨ys, n, _, rfl, hlen, hyl, hf⟩ := DataW.trod_struct Tryz.underlying155 h
 have hc : Tryz.prog.cellsOf 155 = 2 := by kernel_rfl
 have hs : Tryz.prog.cellsOf 9 = 1 := by kernel_rfl
 rw [hc] at hlen
 match cs, hlen with
 | [a, b], _ =>
  match ys, hyl with
  | [y0, y1], _ =>
   have g0 : DataW.trod enc Tryz.prog w base spare held n 9 (List.take (Tryz.prog.cellsOf 9) [a, b]) = some y0 := hf 0 _ rfl
   have g1 : DataW.trod enc Tryz.prog w base spare held n 9 (List.take (Tryz.prog.cellsOf 9) [b]) = some y1 := hf 1 _ rfl
   rw [hs] at g0 g1
   simp only [List.take_succ_cons, List.take_zero] at g0 g1
   obtain ⟨s, e0, rfl, _⟩ := DataW.trod_string Tryz.underlying9 g0
   obtain ⟨t, e1, rfl, _⟩ := DataW.trod_string Tryz.underlying9 g1
   injection e0 with e0
   injection e1 with e1
   subst e0 e1
   refine ⟨(s, t), rfl, ?_, ?_⟩ <;> simp [Rows.uptoBulk, Rows.uptoBulkAll] <;> omega
theorem qdp {α : Type} [Inhabited α] {enc0 : α → List Value} {k : Nat} {t e : TypeId} (ht : Tryz.prog.underlying t = some (.slice e)) (hC : Tryz.prog.cellsOf e = k) (hk0 : 0 < k) (small : α → Nat → Prop)
  (hel : ∀ (fuel : Nat) cs' (x : DataW H × List MemPlace), DataW.trod enc Tryz.prog w base spare held fuel e cs' = some x → ∃ z : α, cs' = enc0 z ∧ small z (Rows.uptoBulk x.1)) (hmono : ∀ z a b, a ≤ b → small z a → small z b)
  {fuel0 : Nat} {cs : List Value} {x : DataW H × List MemPlace} (h : DataW.trod enc Tryz.prog w base spare held fuel0 t cs = some x) :
  ∃ A n c l, cs = [.slice A n c] ∧ Sl w w.heap.size enc0 k A n l ∧ ((A = none → n = 0 ∧ c = 0) ∧ n ≤ c) ∧ n ≤ Rows.uptoBulk x.1 ∧ ∀ j, j < n → small l[j]! (Rows.uptoBulk x.1) := by
 obtain ⟨d, ps⟩ := x
 dsimp only
 rcases Deep.open_slice ht h with ⟨e1, e2⟩ | ⟨a, n, c, m, n', D, Pl, e1, _, hlc, _, hm, e2, hx⟩
 ·subst e1
  exact ⟨none, 0, 0, [], rfl, Sl.nil_, ⟨fun _ => ⟨rfl, rfl⟩, Nat.le_refl _⟩, Nat.zero_le _, fun j hj => absurd hj (by omega)⟩
 ·subst e1
  have hd : d = .slice ((List.range n).map D) ((List.range (m - n)).map fun j => D (n + j)) := congrArg Prod.fst e2
  have hnm : n ≤ m := by rw [hm]; split <;> omega
  have hspot : 0 < n → a.spot = none := fun h0 => by
   obtain ⟨cs', h1, h2⟩ := hx 0 (by omega)
   rw [hC, Nat.zero_mul, qcU] at h1
   obtain ⟨_, hlen, hcell⟩ := World.cells?_some h1
   have hg := hcell 0 hk0
   rw [qcU, List.getElem?_eq_getElem (by omega)] at hg
   exact World.cell?_spot hg
  have key : ∀ i, i < n → ∃ z : α, (∀ u y, (enc0 z)[u]? = some y → a.spot = none ∧ w.cell? ⟨a.block, a.off + i * k + u, none⟩ = some y ∧ a.block < w.heap.size) ∧ small z (Rows.uptoBulk d) ∧ (enc0 z).length = k := by
   intro i hi
   obtain ⟨cs', h1, h2⟩ := hx i (by omega)
   rw [hC] at h1
   obtain ⟨z, e3, hz⟩ := hel _ _ _ h2
   subst e3
   obtain ⟨_, hlen, hcell⟩ := World.cells?_some h1
   refine ⟨z, fun u y hu => ?_, hmono z _ _ ?_ hz, hlen⟩
   ·have hul : u < k := by rw [← hlen]; exact (List.getElem?_eq_some_iff.1 hu).1
    have hg := (hcell u hul).trans hu
    have hg' : w.cell? ⟨a.block, a.off + i * k + u, none⟩ = some y := by
     rw [← hg, qgi (hspot (by omega))]
    exact ⟨hspot (by omega), hg', (by have := World.block_lt_of_cell? _ _ hg'; exact this)⟩
   ·rw [hd]
    have := qcX D (List.range n) i (by simp [hi])
    simp only [Rows.uptoBulk]
    omega
  obtain ⟨Z, hZ⟩ : ∃ Z : Nat → α, ∀ i, i < n → (∀ u y, (enc0 (Z i))[u]? = some y → a.spot = none ∧ w.cell? ⟨a.block, a.off + i * k + u, none⟩ = some y ∧ a.block < w.heap.size) ∧ small (Z i) (Rows.uptoBulk d) ∧ (enc0 (Z i)).length = k := by
   classical
   refine ⟨fun i => if h : i < n then (key i h).choose else default, fun i hi => ?_⟩
   simp only [dif_pos hi]
   exact (key i hi).choose_spec
  have hget : ∀ j, j < n → ((List.range n).map Z)[j]! = Z j := fun j hj => by
   rw [getElem!_pos _ _ (by simpa using hj)]; simp
  refine ⟨some a, n, c, (List.range n).map Z, rfl, ⟨by simp, fun h0 => ?_⟩, ⟨(fun hh => by cases hh), hlc⟩, ?_, fun j hj => by rw [hget j hj]; exact (hZ j hj).2.1⟩
  ·obtain ⟨h1, _, h3⟩ := hZ 0 h0
   obtain ⟨y, hy⟩ : ∃ y, (enc0 (Z 0))[0]? = some y := ⟨_, List.getElem?_eq_getElem (by omega)⟩
   obtain ⟨hs, _, hb⟩ := h1 0 y hy
   refine ⟨a.block, a.off, ?_, hb, fun j hj i u hu => ?_⟩
   ·obtain ⟨b, o, s⟩ := a
    simp only at hs
    subst hs; rfl
   ·rw [hget j hj] at hu
    exact ((hZ j hj).1 i u hu).2.1
  ·rw [hd]
   have := qcZ ((List.range n).map D)
   simp only [Rows.uptoBulk]
   simp at this
   omega

def qhN (l : List IdV) (n m : Nat) : Prop := ∀ j, j < n → l[j]!.1.size ≤ m ∧ l[j]!.2.size ≤ m
/-- a session: its number, its timeout, the slice of its identities -/
abbrev SesV := Int × Int × Option Addr × Nat × Nat
def encS (z : SesV) : List Value := [.int .i64 z.1, .int .i32 z.2.1, .slice z.2.2.1 z.2.2.2.1 z.2.2.2.2]
/-- what holds of a session that lies in memory: these are its identities -/
def SesOk (w : World) (z : SesV) (l : List IdV) (m : Nat) : Prop := wfI z.1 ∧ (-2147483648 ≤ z.2.1 ∧ z.2.1 ≤ 2147483647) ∧ Sl w w.heap.size qaz 2 z.2.2.1 z.2.2.2.1 l ∧ ((z.2.2.1 = none → z.2.2.2.1 = 0 ∧ z.2.2.2.2 = 0) ∧ z.2.2.2.1 ≤ z.2.2.2.2) ∧ z.2.2.2.1 ≤ m ∧ qhN l z.2.2.2.1 m
theorem SesOk.mono {z : SesV} {l : List IdV} {m m' : Nat} (h : SesOk w z l m) (hm : m ≤ m') : SesOk w z l m' :=
 ⟨h.1, h.2.1, h.2.2.1, h.2.2.2.1, Nat.le_trans h.2.2.2.2.1 hm, fun j hj => ⟨Nat.le_trans (h.2.2.2.2.2 j hj).1 hm, Nat.le_trans (h.2.2.2.2.2 j hj).2 hm⟩⟩
theorem qgt {fuel : Nat} {cs : List Value} {x : DataW H × List MemPlace} (h : DataW.trod enc Tryz.prog w base spare held fuel 47 cs = some x) :
  ∃ z : SesV, cs = encS z ∧ ∃ l, SesOk w z l (Rows.uptoBulk x.1) := by
 obtain ⟨ys, n, _, rfl, hlen, hyl, hf⟩ := DataW.trod_struct Tryz.underlying47 h
 have hc : Tryz.prog.cellsOf 47 = 3 := by kernel_rfl
 have h1 : Tryz.prog.cellsOf 2 = 1 := by kernel_rfl
 have h2 : Tryz.prog.cellsOf 21 = 1 := by kernel_rfl
 have h3 : Tryz.prog.cellsOf 45 = 1 := by kernel_rfl
 rw [hc] at hlen
 match cs, hlen with
 | [a, b, c], _ =>
  match ys, hyl with
  | [y0, y1, y2], _ =>
   have g0 : DataW.trod enc Tryz.prog w base spare held n 2 (List.take (Tryz.prog.cellsOf 2) [a, b, c]) = some y0 := hf 0 _ rfl
   have g1 : DataW.trod enc Tryz.prog w base spare held n 21 (List.take (Tryz.prog.cellsOf 21) [b, c]) = some y1 := hf 1 _ rfl
   have g2 : DataW.trod enc Tryz.prog w base spare held n 45 (List.take (Tryz.prog.cellsOf 45) [c]) = some y2 := hf 2 _ rfl
   rw [h1] at g0
   rw [h2] at g1
   rw [h3] at g2
   simp only [List.take_succ_cons, List.take_zero] at g0 g1 g2
   obtain ⟨p0, e0, _, w0⟩ := DataW.trod_int Tryz.underlying2 g0
   obtain ⟨p1, e1, _, w1⟩ := DataW.trod_int Tryz.underlying21 g1
   obtain ⟨A, k, cp, l, e2, q1, q2, q3, q4⟩ := qdp (enc0 := qaz) (k := 2) Tryz.underlying45 (by kernel_rfl) (by decide) (fun (z : IdV) m => z.1.size ≤ m ∧ z.2.size ≤ m) (fun _ _ x hx => qjf hx) (fun _ _ _ hab hz => ⟨Nat.le_trans hz.1 hab, Nat.le_trans hz.2 hab⟩) g2
   injection e0 with e0; injection e1 with e1; injection e2 with e2
   subst e0 e1 e2
   refine ⟨(p0, p1, A, k, cp), rfl, l, ?_⟩
   have hb : Rows.uptoBulk y2.1 ≤ Rows.uptoBulk (DataW.agg ([y0, y1, y2].map (·.1))) := by simp [Rows.uptoBulk, Rows.uptoBulkAll]; omega
   refine SesOk.mono ⟨?_, ?_, q1, q2, q3, q4⟩ hb
   ·simp [Lit.wf] at w0; exact w0
   ·simp [Lit.wf] at w1; exact w1
end
open Go.RowKit Go.MapKept Go.Maps
section
variable {w w' : World} {rb : Nat} {ro ro' : List Nat} {A : Option Addr} {n c : Nat} {L : List KV}
end
theorem Fr.cell {own : List Nat} {w w' : World} (h : Fr own w w') {p : Addr} (hp : p.block < w.heap.size) (hn : p.block ∉ own) : w'.cell? p = w.cell? p := by
 have := h.block p.block hp hn
 obtain ⟨b, o, s⟩ := p
 simp only [World.cell?, this]
open Go.RowKit Go.MapKept Go.Maps
theorem qaC {w w' : World} {a : Addr} {v : Value} (h : w.cell? a = some v) (hb : Below w.heap.size w w') : w'.cell? a = some v := (hb.cell (World.block_lt_of_cell? w _ h)).trans h
theorem qaK (w : World) (b o : Nat) (v : Value) {g : Nat} (h : g ≠ b) : (w.setCell ⟨b, o, none⟩ v).heap[g]? = w.heap[g]? := Below.heap_setCell w ⟨b, o, none⟩ v g h
theorem qaE (w : World) (b o : Nat) (v : Value) : Fr [b] w (w.setCell ⟨b, o, none⟩ v) := ⟨rfl, rfl, rfl, by simp [World.setCell], fun g _ hn => qaK w b o v (by simpa using hn)⟩
open Go.RowKit Go.MapKept
section
variable {P : Program} {o : Oper} {a : Act} {w w0 : World} {K : Act → World → Prop} {Q : Exit → Act → World → Prop}
/-- into the variable that was made last -/
theorem qix (ty t : TypeId) {x y : Operand} {old cells : Array Value} {g : Nat} (ho : o.op = .store ty x y) (hx : a.eval x = .pointer (some ⟨g, 0, none⟩)) (hg : w0.heap.size = g) (hy : a.eval y = .agg cells)
  (hi : (P.info? ty).map (·.size) = some cells.size) (hold : old.size = cells.size) (h1 : cells.all (·.oneCell') = true) (h : K (a.put o.dst undef) (w0.alloc (.cells cells t))) : o.wp P a (w0.alloc (.cells old t)) K Q := by
 subst hg
 refine wp_store_row ty x y ho w0.heap.size cells hx hy t old (heap_alloc_last w0 _) hi hold h1 ?_
 rw [World.setRow_alloc_new]
 exact h
/-- into a variable -/
theorem qif (ty t : TypeId) {x y : Operand} {old cells : Array Value} {g : Nat} (ho : o.op = .store ty x y) (hx : a.eval x = .pointer (some ⟨g, 0, none⟩)) (hy : a.eval y = .agg cells) (hg : w.heap[g]? = some (.cells old t (0, 0)))
  (hi : (P.info? ty).map (·.size) = some cells.size) (hold : old.size = cells.size) (h1 : cells.all (·.oneCell') = true) (h : K (a.put o.dst undef) (w.setRow g cells)) : o.wp P a w K Q :=
 wp_store_row ty x y ho g cells hx hy t old hg hi hold h1 h
/-- a whole struct out of a variable -/
theorem qjW (ty t : TypeId) {x : Operand} {g : Nat} {cs : Array Value} {d : TypeDesc} (ho : o.op = .load ty x) (hx : a.eval x = .pointer (some ⟨g, 0, none⟩)) (hg : w.heap[g]? = some (.cells cs t (0, 0)))
  (hu : P.underlying ty = some d) (hd : d.isRow = true) (hi : (P.info? ty).map (·.size) = some cs.size) (h : K (a.put o.dst (.agg cs)) w) : o.wp P a w K Q := by
 refine wp_load_row ty x ho g hx t cs (0, 0) d hg hu ?_ hi h
 cases d <;> simp_all [TypeDesc.isRow]
variable {ops : Array Oper} {rest : List Oper}
theorem qai (ty t : TypeId) {x y : Operand} {old cells : Array Value} {g : Nat} (hgd : o.guard = none) (ho : o.op = .store ty x y) (hx : a.eval x = .pointer (some ⟨g, 0, none⟩)) (hg : w0.heap.size = g) (hy : a.eval y = .agg cells)
  (hi : (P.info? ty).map (·.size) = some cells.size) (hold : old.size = cells.size) (h1 : cells.all (·.oneCell') = true) (h : wpList P ops Q rest (a.put o.dst undef) (w0.alloc (.cells cells t))) : wpList P ops Q (o :: rest) a (w0.alloc (.cells old t)) :=
 wpList_plain hgd fun _ hK => qix ty t ho hx hg hy hi hold h1 (hK _ _ h)
theorem qam (ty t : TypeId) {x y : Operand} {old cells : Array Value} {g : Nat} (hgd : o.guard = none) (ho : o.op = .store ty x y) (hx : a.eval x = .pointer (some ⟨g, 0, none⟩)) (hy : a.eval y = .agg cells) (hg : w.heap[g]? = some (.cells old t (0, 0)))
  (hi : (P.info? ty).map (·.size) = some cells.size) (hold : old.size = cells.size) (h1 : cells.all (·.oneCell') = true) (h : wpList P ops Q rest (a.put o.dst undef) (w.setRow g cells)) : wpList P ops Q (o :: rest) a w :=
 wpList_plain hgd fun _ hK => qif ty t ho hx hy hg hi hold h1 (hK _ _ h)
theorem qaw (ty t : TypeId) {x : Operand} {g : Nat} {cs : Array Value} {d : TypeDesc} (hgd : o.guard = none) (ho : o.op = .load ty x) (hx : a.eval x = .pointer (some ⟨g, 0, none⟩)) (hg : w.heap[g]? = some (.cells cs t (0, 0)))
  (hu : P.underlying ty = some d) (hd : d.isRow = true) (hi : (P.info? ty).map (·.size) = some cs.size) (h : wpList P ops Q rest (a.put o.dst (.agg cs)) w) : wpList P ops Q (o :: rest) a w :=
 wpList_plain hgd fun _ hK => qjW ty t ho hx hg hu hd hi (hK _ _ h)
/-- a whole struct out of the middle of a block -/
theorem qau (ty : TypeId) {x : Operand} {b q : Nat} {cs : List Value} {d : TypeDesc} (hgd : o.guard = none) (ho : o.op = .load ty x) (hx : a.eval x = .pointer (some ⟨b, q, none⟩)) (hc : w.rangeAt b q cs)
  (hu : P.underlying ty = some d) (hd : d.isRow = true) (hi : (P.info? ty).map (·.size) = some cs.length) (h : wpList P ops Q rest (a.put o.dst (.agg cs.toArray)) w) : wpList P ops Q (o :: rest) a w :=
 wpList_load_mid hgd ty x ho b q hx cs d hc hu hd hi h
theorem qaW (ty : TypeId) {x y : Operand} {b q : Nat} {cells : Array Value} (hgd : o.guard = none) (ho : o.op = .store ty x y) (hx : a.eval x = .pointer (some ⟨b, q, none⟩)) (hy : a.eval y = .agg cells) (ht : w.there b q cells.size)
  (hi : (P.info? ty).map (·.size) = some cells.size) (h1 : cells.all (·.oneCell') = true) (h : wpList P ops Q rest (a.put o.dst undef) (w.setCells b q cells.toList)) : wpList P ops Q (o :: rest) a w :=
 wpList_store_mid hgd ty x y ho b q cells hx hy ht hi h1 h
end
theorem qgR {fn : Func} {p : Tmp} {ty : TypeId} (h : fn.results = #[.cell p ty]) (tmps : Array Value) (P : Program) (w : World) :
  (results fn tmps).run P w = ((asAddr (tmps.getD p undef)).run P w).andThen fun a w₁ => (loadVar ty a).run P w₁ := by
 simp only [results, h]
 simp [Sem.run_bind]
theorem qhj {P : Program} {w : World} {x : Value} {g : Nat} {ty t : TypeId} {cs : Array Value} {d : TypeDesc} (hx : x = .pointer (some ⟨g, 0, none⟩)) (hg : w.heap[g]? = some (.cells cs t (0, 0))) (hu : P.underlying ty = some d) (hd : d.isRow = true)
  (hi : (P.info? ty).map (·.size) = some cs.size) : (((asAddr x).run P w).andThen fun a w₁ => (loadVar ty a).run P w₁) = .ok (.agg cs) w := by
 subst hx
 show (loadVar ty ⟨g, 0, none⟩).run P w = _
 refine run_loadVar_row w g t ty cs (0, 0) d hg hu ?_ hi
 cases d <;> simp_all [TypeDesc.isRow]
/-- a function's end whose result is a struct in a variable -/
theorem qaD {P : Program} {fn : Func} {Q : Ending → World → Prop} {a : Act} {w : World} {p : Tmp} {ty t : TypeId} {g : Nat} {cs : Array Value} {d : TypeDesc} (h : fn.results = #[.cell p ty]) (hx : a.tmps.getD p undef = .pointer (some ⟨g, 0, none⟩))
  (hg : w.heap[g]? = some (.cells cs t (0, 0))) (hu : P.underlying ty = some d) (hd : d.isRow = true) (hi : (P.info? ty).map (·.size) = some cs.size) (hdf : a.defers = []) (hq : Q (.returned (.agg cs)) w) : bodyPost P fn Q .ret a w :=
 bodyPost_ret ((qgR h _ _ _).trans (qhj hx hg hu hd hi)) hdf hq
theorem qaa {w : World} {o : Obj} {g : Nat} {x : Obj} (h : w.heap[g]? = some x) : (w.alloc o).heap[g]? = some x := by
 rw [Below.heap_alloc _ _ g (Array.getElem?_eq_some_iff.1 h).1]; exact h
theorem heap_top' {w : World} {o : Obj} {g : Nat} (h : w.heap.size = g) : (w.alloc o).heap[g]? = some o := by subst h; exact heap_alloc_last w o
theorem sz1 (w : World) (a : Obj) : (w.alloc a).heap.size = w.heap.size + 1 := by simp
theorem sz2 (w : World) (a b : Obj) : ((w.alloc a).alloc b).heap.size = w.heap.size + 1 + 1 := by simp
theorem sz3 (w : World) (a b c : Obj) : (((w.alloc a).alloc b).alloc c).heap.size = w.heap.size + 1 + 1 + 1 := by simp
theorem qab (w : World) (a : Obj) : (w.alloc a).heap[w.heap.size]? = some a := heap_alloc_last w a
theorem qae (w : World) (a b : Obj) : ((w.alloc a).alloc b).heap[w.heap.size + 1]? = some b := heap_top' (sz1 w a)
theorem qag (w : World) (a b c : Obj) : (((w.alloc a).alloc b).alloc c).heap[w.heap.size + 1 + 1]? = some c := heap_top' (sz2 w a b)
theorem qas (w : World) (a b c d : Obj) : ((((w.alloc a).alloc b).alloc c).alloc d).heap[w.heap.size + 1 + 1 + 1]? = some d := heap_top' (sz3 w a b c)
theorem qaF : Tryz.prog.underlying 52 = some (.struct (Tryz.prog.fieldsOf 52)) := by kernel_rfl
theorem qap : (Tryz.prog.info? 52).map (·.size) = some 16 := by kernel_rfl
theorem qcn : Tryz.prog.underlying 54 = some (.struct (Tryz.prog.fieldsOf 54)) := by kernel_rfl
theorem qbC : (Tryz.prog.info? 54).map (·.size) = some 20 := by kernel_rfl
theorem qna (h : TxH) : (qar h).toArray.all (·.oneCell') = true := by simp [qar, Value.oneCell']
open Go.RowKit
/-- a Stat's numbers -/
structure StN where
 (a b c d e f g h i j k : Int)
instance : Inhabited StN := ⟨⟨0, 0, 0, 0, 0, 0, 0, 0, 0, 0, 0⟩⟩
/-- what of a result lies outside its lists -/
structure RsN where
 (ty co : Int) (path : ByteArray) (q : StN) (ct si st : Int)
instance : Inhabited RsN := ⟨⟨0, 0, ByteArray.empty, default, 0, 0, 0⟩⟩
structure RsH where
 (n : RsN) (d a m i s : SlC)
instance : Inhabited RsH := ⟨⟨default, (none, 0, 0), (none, 0, 0), (none, 0, 0), (none, 0, 0), (none, 0, 0)⟩⟩
structure RsF where
 (n : RsN) (data : Bs) (acl : List AclV) (names : List ByteArray) (ids : List IdV)
instance : Inhabited RsF := ⟨⟨default, [], [], [], []⟩⟩
abbrev RsT := Tr RsF
@[reducible] def qax (h : RsH) : List Value := [.int .i32 h.n.ty, .int .i32 h.n.co, .string h.n.path, .int .i64 h.n.q.a, .int .i64 h.n.q.b, .int .i64 h.n.q.c, .int .i64 h.n.q.d, .int .i32 h.n.q.e, .int .i32 h.n.q.f, .int .i32 h.n.q.g, .int .i64 h.n.q.h, .int .i32 h.n.q.i, .int .i32 h.n.q.j, .int .i64 h.n.q.k, slV h.d, slV h.a, slV h.m, .int .i32 h.n.ct, .int .i64 h.n.si, .int .i32 h.n.st, slV h.i, slV h.s]
@[reducible] def rsV (h : RsH) : Value := .agg #[.int .i32 h.n.ty, .int .i32 h.n.co, .string h.n.path, .int .i64 h.n.q.a, .int .i64 h.n.q.b, .int .i64 h.n.q.c, .int .i64 h.n.q.d, .int .i32 h.n.q.e, .int .i32 h.n.q.f, .int .i32 h.n.q.g, .int .i64 h.n.q.h, .int .i32 h.n.q.i, .int .i32 h.n.q.j, .int .i64 h.n.q.k, slV h.d, slV h.a, slV h.m, .int .i32 h.n.ct, .int .i64 h.n.si, .int .i32 h.n.st, slV h.i, slV h.s]
def locRs (w : World) (R : Nat → Prop) (h : RsH) (v : RsF) : Prop :=
 v.n = h.n ∧ SlR w R enc8 1 h.d v.data ∧ SlR w R qao 3 h.a v.acl ∧ SlR w R qay 1 h.m v.names ∧ SlR w R qaz 2 h.i v.ids
@[reducible] def kRs : Kd RsH RsF := ⟨qax, 22, RsH.s, locRs⟩
abbrev RsAt := TrAt kRs
theorem locRs.keep {w w' : World} {R : Nat → Prop} (hk : ∀ p : Addr, R p.block → w'.cell? p = w.cell? p) {h : RsH} {v : RsF} (H : locRs w R h v) : locRs w' R h v :=
 ⟨H.1, H.2.1.keep hk, H.2.2.1.keep hk, H.2.2.2.1.keep hk, H.2.2.2.2.keep hk⟩
theorem RsAt.keep {w w' : World} {R : Nat → Prop} {h : RsH} {t : RsT} (H : RsAt w R h t) (hk : ∀ p : Addr, R p.block → w'.cell? p = w.cell? p) : RsAt w' R h t := TrAt.keep H hk fun _ _ l => locRs.keep hk l
theorem RsAt.more {w : World} {R R' : Nat → Prop} {h : RsH} {t : RsT} (H : RsAt w R h t) (hR : ∀ b, b < w.heap.size → R b → R' b) : RsAt w R' h t :=
 TrAt.more H hR (fun _ => by simp [qax]) fun _ _ l => ⟨l.1, l.2.1.more hR (fun _ => by simp [enc8]), l.2.2.1.more hR (fun _ => by simp [qao]), l.2.2.2.1.more hR (fun _ => by simp [qay]), l.2.2.2.2.more hR (fun _ => by simp [qaz])⟩
structure RpH where
 (xi zx co : Int) (r : RsH)
instance : Inhabited RpH := ⟨⟨0, 0, 0, default⟩⟩
structure RpT where
 (xi zx co : Int) (r : RsT)
instance : Inhabited RpT := ⟨⟨0, 0, 0, default⟩⟩
@[reducible] def qaX (h : RpH) : List Value := [.int .i32 h.xi, .int .i64 h.zx, .int .i32 h.co] ++ qax h.r
def RpAt (w : World) (R : Nat → Prop) (h : RpH) (d : RpT) : Prop := (d.xi = h.xi ∧ d.zx = h.zx ∧ d.co = h.co) ∧ RsAt w R h.r d.r
def RsSm (m : Nat) (v : RsF) (k : Nat) : Prop :=
 (in32 v.n.ty ∧ in32 v.n.co ∧ in32 v.n.ct ∧ in64 v.n.si ∧ in32 v.n.st) ∧ v.n.path.size ≤ m ∧ v.data.length ≤ m ∧ v.acl.length ≤ m ∧ v.names.length ≤ m ∧ v.ids.length ≤ m ∧ k ≤ m ∧
 (∀ j, j < v.acl.length → in32 v.acl[j]!.1 ∧ v.acl[j]!.2.1.size ≤ m ∧ v.acl[j]!.2.2.size ≤ m) ∧ (∀ j, j < v.ids.length → v.ids[j]!.1.size ≤ m ∧ v.ids[j]!.2.size ≤ m) ∧ (∀ j, j < v.names.length → v.names[j]!.size ≤ m)
abbrev RsOk (m : Nat) (t : RsT) : Prop := TrAll (RsSm m) t
theorem RsSm.mono {m m' : Nat} (hm : m ≤ m') {v : RsF} {k : Nat} (h : RsSm m v k) : RsSm m' v k := by
 obtain ⟨h0, h1, h2, h3, h4, h5, h6, h7, h8, h9⟩ := h
 exact ⟨h0, by omega, by omega, by omega, by omega, by omega, by omega, fun j hj => ⟨(h7 j hj).1, by have := (h7 j hj).2; omega, by have := (h7 j hj).2; omega⟩, fun j hj => ⟨by have := h8 j hj; omega, by have := h8 j hj; omega⟩, fun j hj => by have := h9 j hj; omega⟩
def RpSm (m : Nat) (d : RpT) : Prop := (in32 d.xi ∧ in64 d.zx ∧ in32 d.co) ∧ RsOk m d.r
/-- a proposal: a delta and a reply -/
structure PrH where
 (d : DlH) (r : RpH)
instance : Inhabited PrH := ⟨⟨default, default⟩⟩
@[reducible] def rwRs (h : RsH) : Array Value := #[.int .i32 h.n.ty, .int .i32 h.n.co, .string h.n.path, .int .i64 h.n.q.a, .int .i64 h.n.q.b, .int .i64 h.n.q.c, .int .i64 h.n.q.d, .int .i32 h.n.q.e, .int .i32 h.n.q.f, .int .i32 h.n.q.g, .int .i64 h.n.q.h, .int .i32 h.n.q.i, .int .i32 h.n.q.j, .int .i64 h.n.q.k, slV h.d, slV h.a, slV h.m, .int .i32 h.n.ct, .int .i64 h.n.si, .int .i32 h.n.st, slV h.i, slV h.s]
@[reducible] def rzRs : Array Value := #[.int .i32 0, .int .i32 0, .string ⟨#[]⟩, .int .i64 0, .int .i64 0, .int .i64 0, .int .i64 0, .int .i32 0, .int .i32 0, .int .i32 0, .int .i64 0, .int .i32 0, .int .i32 0, .int .i64 0, .slice none 0 0, .slice none 0 0, .slice none 0 0, .int .i32 0, .int .i64 0, .int .i32 0, .slice none 0 0, .slice none 0 0]
@[reducible] def rwRp (h : RpH) : Array Value := #[.int .i32 h.xi, .int .i64 h.zx, .int .i32 h.co, .int .i32 h.r.n.ty, .int .i32 h.r.n.co, .string h.r.n.path, .int .i64 h.r.n.q.a, .int .i64 h.r.n.q.b, .int .i64 h.r.n.q.c, .int .i64 h.r.n.q.d, .int .i32 h.r.n.q.e, .int .i32 h.r.n.q.f, .int .i32 h.r.n.q.g, .int .i64 h.r.n.q.h, .int .i32 h.r.n.q.i, .int .i32 h.r.n.q.j, .int .i64 h.r.n.q.k, slV h.r.d, slV h.r.a, slV h.r.m, .int .i32 h.r.n.ct, .int .i64 h.r.n.si, .int .i32 h.r.n.st, slV h.r.i, slV h.r.s]
@[reducible] def rzRp : Array Value := #[.int .i32 0, .int .i64 0, .int .i32 0, .int .i32 0, .int .i32 0, .string ⟨#[]⟩, .int .i64 0, .int .i64 0, .int .i64 0, .int .i64 0, .int .i32 0, .int .i32 0, .int .i32 0, .int .i64 0, .int .i32 0, .int .i32 0, .int .i64 0, .slice none 0 0, .slice none 0 0, .slice none 0 0, .int .i32 0, .int .i64 0, .int .i32 0, .slice none 0 0, .slice none 0 0]
@[reducible] def rwPr (h : PrH) : Array Value := #[.int .i64 h.d.se, .int .i32 h.d.xi, .int .i64 h.d.zx, .int .i64 h.d.ti, .int .i32 h.d.t.n.ty, .string h.d.t.n.path, slV h.d.t.d, slV h.d.t.a, .int .i64 h.d.t.n.ow, .int .i32 h.d.t.n.ve, .int .i32 h.d.t.n.cr, .bool h.d.t.n.qh, .int .i64 h.d.t.n.qc, .int .i64 h.d.t.n.qb, .int .i64 h.d.t.n.si, .int .i32 h.d.t.n.st, slV h.d.t.i, slV h.d.t.p, .int .i32 h.d.t.n.co, slV h.d.t.s, .int .i32 h.r.xi, .int .i64 h.r.zx, .int .i32 h.r.co, .int .i32 h.r.r.n.ty, .int .i32 h.r.r.n.co, .string h.r.r.n.path, .int .i64 h.r.r.n.q.a, .int .i64 h.r.r.n.q.b, .int .i64 h.r.r.n.q.c, .int .i64 h.r.r.n.q.d, .int .i32 h.r.r.n.q.e, .int .i32 h.r.r.n.q.f, .int .i32 h.r.r.n.q.g, .int .i64 h.r.r.n.q.h, .int .i32 h.r.r.n.q.i, .int .i32 h.r.r.n.q.j, .int .i64 h.r.r.n.q.k, slV h.r.r.d, slV h.r.r.a, slV h.r.r.m, .int .i32 h.r.r.n.ct, .int .i64 h.r.r.n.si, .int .i32 h.r.r.n.st, slV h.r.r.i, slV h.r.r.s]
@[reducible] def rzPr : Array Value := #[.int .i64 0, .int .i32 0, .int .i64 0, .int .i64 0, .int .i32 0, .string ⟨#[]⟩, .slice none 0 0, .slice none 0 0, .int .i64 0, .int .i32 0, .int .i32 0, .bool false, .int .i64 0, .int .i64 0, .int .i64 0, .int .i32 0, .slice none 0 0, .slice none 0 0, .int .i32 0, .slice none 0 0, .int .i32 0, .int .i64 0, .int .i32 0, .int .i32 0, .int .i32 0, .string ⟨#[]⟩, .int .i64 0, .int .i64 0, .int .i64 0, .int .i64 0, .int .i32 0, .int .i32 0, .int .i32 0, .int .i64 0, .int .i32 0, .int .i32 0, .int .i64 0, .slice none 0 0, .slice none 0 0, .slice none 0 0, .int .i32 0, .int .i64 0, .int .i32 0, .slice none 0 0, .slice none 0 0]
structure PrT where
 (d : DlT) (r : RpT)
instance : Inhabited PrT := ⟨⟨default, default⟩⟩
def qah (p : PrH) : List Value := qaU p.d ++ qaX p.r
def PrAt (w : World) (R : Nat → Prop) (h : PrH) (p : PrT) : Prop := DlAt w R h.d p.d ∧ RpAt w R h.r p.r
theorem DlAt.keep {w w' : World} {R : Nat → Prop} {h : DlH} {t : DlT} (H : DlAt w R h t) (hk : ∀ p : Addr, R p.block → w'.cell? p = w.cell? p) : DlAt w' R h t := ⟨H.1, TxAt.keep H.2 hk⟩
theorem RpAt.keep {w w' : World} {R : Nat → Prop} {h : RpH} {t : RpT} (H : RpAt w R h t) (hk : ∀ p : Addr, R p.block → w'.cell? p = w.cell? p) : RpAt w' R h t := ⟨H.1, RsAt.keep H.2 hk⟩
theorem PrAt.keep {w w' : World} {R : Nat → Prop} {h : PrH} {t : PrT} (H : PrAt w R h t) (hk : ∀ p : Addr, R p.block → w'.cell? p = w.cell? p) : PrAt w' R h t := ⟨H.1.keep hk, H.2.keep hk⟩
open Go.RowKit Go.MapKept Go.Maps
theorem qlf : ElemB enc8 41 5 1 1 (.int .u8 0) where
 under := Tryz.underlying41
 info := by kernel_rfl
 size := rfl
 len := fun _ => rfl
 pos := by decide
 one := fun x u hu => by
  simp [enc8] at hu
  subst hu; rfl
 small := by decide
theorem qlp (w : World) : (binOp .eql 41 (.slice none 0 0) (.slice none 0 0)).run Tryz.prog w = .ok (.bool true) w := by kernel_rfl
theorem qjn (a : Addr) (n c : Nat) (w : World) : (binOp .eql 41 (.slice (some a) n c) (.slice none 0 0)).run Tryz.prog w = .ok (.bool false) w := by kernel_rfl
theorem qhy (w : World) : Calls Tryz.prog 97 #[.slice none 0 0] w fun e w' => e = .returned (.slice none 0 0) ∧ w = w' := by
 have hq := qlp
 go_enter Tryz.func97, Tryz.ntmps97
 go_wp2_with fail
 go_ret
 exact ⟨rfl, rfl⟩
theorem qen (A : Option Addr) (n c : Nat) (l : List UInt8) (w : World) (hz : Sl w w.heap.size enc8 1 A n l) (hA : A = none → n = 0 ∧ c = 0) (hn : n ≤ 4194304) :
  Calls Tryz.prog 97 #[.slice A n c] w (CloneP 5 enc8 1 n l w) := by
 cases A with
 | none =>
  obtain ⟨rfl, rfl⟩ := hA rfl
  have hl : l = [] := List.length_eq_zero_iff.1 hz.len
  subst hl
  refine (qhy w).mono ?_
  rintro e w' ⟨rfl, rfl⟩
  exact ⟨⟨none, 0, rfl, World.ownsRow_nil _ _ _ _⟩, Below.refl _ _⟩
 | some a =>
  have hb0 : Below w.heap.size w (w.alloc (.cells #[] 5)) := (Below.refl _ w).alloc (Nat.le_refl _) _
  have HS := Lib.hid (hz.belowMore hb0 hb0.size)
  have HB := Lib.hid hb0
  have HOW := Lib.hid (qbc (T := 5) (k := 1) w)
  have hq := qjn a n c
  clear hz hA hb0
  go_enter Tryz.func97, Tryz.ntmps97
  go_wp2_with (at_builtin; refine qaY qlf rfl _ _ rfl w.heap.size (some ⟨w.heap.size, 0, none⟩) 0 0 [] ?hx HOW.out (some a) n c l ?hy HS.out (fun e => by cases e) (by omega) HB.out.size ?hk)
  (try case hx => rfl)
  (try case hy => rfl)
  case hk =>
   intro A2 c2 w2 hv2 hb2 _
   have HV2 := Lib.hid hv2; have HB2 := Lib.hid (HB.out.trans hb2)
   clear hv2 hb2
   go_wp2_with fail
   go_ret
   exact ⟨⟨A2, c2, by simp, by simpa using HV2.out⟩, HB2.out⟩
theorem qiP : ElemB qax 57 59 22 240 (.agg rzRs) where
 under := Tryz.underlying57
 info := by kernel_rfl
 size := rfl
 len := fun _ => rfl
 pos := by decide
 one := fun x u hu => by
  simp [qax] at hu
  rcases hu with rfl | rfl | rfl | rfl | rfl | rfl | rfl | rfl | rfl | rfl | rfl | rfl | rfl | rfl | rfl | rfl | rfl | rfl | rfl | rfl | rfl | rfl <;> rfl
 small := by decide
theorem qoj (w : World) : (binOp .eql 57 (.slice none 0 0) (.slice none 0 0)).run Tryz.prog w = .ok (.bool true) w := by kernel_rfl
theorem qmj (a : Addr) (n c : Nat) (w : World) : (binOp .eql 57 (.slice (some a) n c) (.slice none 0 0)).run Tryz.prog w = .ok (.bool false) w := by kernel_rfl
theorem qjm (w : World) : Calls Tryz.prog 184 #[.slice none 0 0] w fun e w' => e = .returned (.slice none 0 0) ∧ w = w' := by
 have hq := qoj
 go_enter Tryz.func184, Tryz.ntmps184
 go_wp2_with fail
 go_ret
 exact ⟨rfl, rfl⟩
theorem qeX (A : Option Addr) (n c : Nat) (l : List RsH) (w : World) (hz : Sl w w.heap.size qax 22 A n l) (hA : A = none → n = 0 ∧ c = 0) (hn : n ≤ 4194304) :
  Calls Tryz.prog 184 #[.slice A n c] w (CloneP 59 qax 22 n l w) := by
 cases A with
 | none =>
  obtain ⟨rfl, rfl⟩ := hA rfl
  have hl : l = [] := List.length_eq_zero_iff.1 hz.len
  subst hl
  refine (qjm w).mono ?_
  rintro e w' ⟨rfl, rfl⟩
  exact ⟨⟨none, 0, rfl, World.ownsRow_nil _ _ _ _⟩, Below.refl _ _⟩
 | some a =>
  have hb0 : Below w.heap.size w (w.alloc (.cells #[] 59)) := (Below.refl _ w).alloc (Nat.le_refl _) _
  have HS := Lib.hid (hz.belowMore hb0 hb0.size)
  have HB := Lib.hid hb0
  have HOW := Lib.hid (qbc (T := 59) (k := 22) w)
  have hq := qmj a n c
  clear hz hA hb0
  go_enter Tryz.func184, Tryz.ntmps184
  go_wp2_with (at_builtin; refine qaY qiP rfl _ _ rfl w.heap.size (some ⟨w.heap.size, 0, none⟩) 0 0 [] ?hx HOW.out (some a) n c l ?hy HS.out (fun e => by cases e) (by omega) HB.out.size ?hk)
  (try case hx => rfl)
  (try case hy => rfl)
  case hk =>
   intro A2 c2 w2 hv2 hb2 _
   have HV2 := Lib.hid hv2; have HB2 := Lib.hid (HB.out.trans hb2)
   clear hv2 hb2
   go_wp2_with fail
   go_ret
   exact ⟨⟨A2, c2, by simp, by simpa using HV2.out⟩, HB2.out⟩
open Go.RowKit Go.MapKept Go.Maps
theorem qdI : ∀ (l : List VtV) (v : VtV) (g : Int), gsum (l ++ [v]) g = gsum l g + (if v.1 = g then v.2 else 0)
 | [], v, g => by simp [gsum]
 | x :: r, v, g => by
  rw [List.cons_append]
  unfold gsum
  rw [qdI r v g]
  omega
theorem qbi {α : Type} [Inhabited α] (l : List α) (k : Nat) (h : k < l.length) : l.take (k + 1) = l.take k ++ [l[k]!] := by
 rw [List.take_succ_eq_append_getElem h, getElem!_pos l k h]
theorem qcg : ∀ (l : List VtV) (g : Int), (∀ v ∈ l, wOk v) → 0 ≤ gsum l g ∧ gsum l g ≤ l.length * 4294967296
 | [], g, _ => by simp [gsum]
 | v :: r, g, h => by
  have ih := qcg r g (fun x hx => h x (List.mem_cons_of_mem _ hx))
  have hv := h v List.mem_cons_self
  unfold wOk at hv
  unfold gsum
  rw [List.length_cons]
  split <;> omega
theorem qje {l : List VtV} {v : VtV} (hv : v ∈ l) (h : ¬ wOk v) : fitB l = false := by
 cases hf : fitB l with
 | false => rfl
 | true => exact absurd (qhb hf v hv) h
theorem qmx {l : List VtV} (h : 9 < l.length) : fitB l = false := by unfold fitB; simp; omega
theorem qnQ {l : List VtV} {K : List Int} (h9 : l.length ≤ 9) (hw : ∀ v ∈ l, wOk v) (hK : ∀ g, g ∈ K ↔ 0 < gsum l g) : fitB l = decide (0 < K.length) := by
 have h1 : (l.all fun v => decide (0 ≤ v.2 ∧ v.2 ≤ 4294967296)) = true := by
  rw [List.all_eq_true]; intro v hv; exact decide_eq_true (hw v hv)
 unfold fitB
 rw [h1, decide_eq_true h9, Bool.true_and, Bool.and_true]
 rw [Bool.eq_iff_iff, decide_eq_true_eq, List.any_eq_true]
 constructor
 ·rintro ⟨v, hv, hp⟩
  have hp : 0 < v.2 := of_decide_eq_true hp
  have : v.1 ∈ K := (hK v.1).2 (by
   obtain ⟨a, b, rfl⟩ := List.append_of_mem hv
   have ha := (qcg a v.1 (fun x hx => hw x (by simp [hx]))).1
   have hb := (qcg b v.1 (fun x hx => hw x (by simp [hx]))).1
   have e : ∀ (a : List VtV), gsum (a ++ v :: b) v.1 = gsum a v.1 + (v.2 + gsum b v.1) := by
    intro a
    induction a with
    | nil => simp [gsum]
    | cons x r ih =>
     rw [List.cons_append]
     show (if x.1 = v.1 then x.2 else 0) + gsum (r ++ v :: b) v.1 = (if x.1 = v.1 then x.2 else 0) + gsum r v.1 + _
     rw [ih]; omega
   rw [e]; omega)
  cases K with
  | nil => cases this
  | cons _ _ => simp
 ·intro h
  obtain ⟨g, hg⟩ := List.exists_mem_of_length_pos h
  have hp := (hK g).1 hg
  apply Classical.byContradiction
  intro hn
  have : ∀ v ∈ l, v.2 = 0 := fun v hv => by
   have h1 := hw v hv
   have h2 : ¬ 0 < v.2 := fun h0 => hn ⟨v, hv, decide_eq_true h0⟩
   unfold wOk at h1
   omega
  have h0 : ∀ (l : List VtV), (∀ v ∈ l, v.2 = 0) → gsum l g = 0 := by
   intro l
   induction l with
   | nil => intro _; rfl
   | cons x r ih =>
    intro h
    unfold gsum
    rw [ih (fun v hv => h v (List.mem_cons_of_mem _ hv)), h x List.mem_cons_self]
    split <;> rfl
  rw [h0 l this] at hp
  omega
def GrpP (l : List VtV) (w : World) (e : Ending) (w' : World) : Prop :=
 (∃ mv, e = .returned (.tuple #[mv, .bool (fitB l)]) ∧ (fitB l = true → ∃ b K, mv = .map (some b) ∧ SumM w' b K (gsum l) ∧ (∀ g, g ∈ K ↔ 0 < gsum l g) ∧ w.heap.size ≤ b)) ∧ Below w.heap.size w w'
theorem GrpP.no {l : List VtV} {w w' : World} {mv : Value} (h : fitB l = false) (hb : Below w.heap.size w w') : GrpP l w (.returned (.tuple #[mv, .bool false])) w' :=
 ⟨⟨mv, by rw [h], fun h1 => by rw [h] at h1; cases h1⟩, hb⟩
/-- the loop's state -/
structure GrR (w : World) (l : List VtV) (b k : Nat) (wr : World) : Prop where
 s : ∃ K, SumM wr b K (gsum (l.take k)) ∧ ∀ g, g ∈ K ↔ 0 < gsum (l.take k) g
 ok : ∀ v ∈ l.take k, wOk v
 bel : Below w.heap.size w wr
theorem GrR.row {w : World} {l : List VtV} {b k : Nat} {wr w' : World} (h : GrR w l b k wr) (hb : Below wr.heap.size wr w') : GrR w l b k w' := by
 obtain ⟨K, hs, hK⟩ := h.s
 exact ⟨⟨K, hs.fr (Fr.of_below (own := []) hb) (by simp), hK⟩, h.ok, h.bel.trans (hb.mono h.bel.size)⟩
theorem GrR.skip {w : World} {l : List VtV} {b k : Nat} {wr : World} (h : GrR w l b k wr) (hk : k < l.length) (hv : l[k]!.2 = 0) : GrR w l b (k + 1) wr := by
 have e : gsum (l.take (k + 1)) = gsum (l.take k) := by
  funext g; rw [qbi l k hk, qdI, hv]; split <;> omega
 refine ⟨by rw [e]; exact h.s, fun v hm => ?_, h.bel⟩
 rw [qbi l k hk, List.mem_append, List.mem_singleton] at hm
 rcases hm with hm | rfl
 ·exact h.ok v hm
 ·unfold wOk; omega
theorem GrR.add {w : World} {l : List VtV} {b k : Nat} {wr : World} (h : GrR w l b k wr) (hk : k < l.length) (hv : 0 < l[k]!.2) (hw : wOk l[k]!) (hg : wfI l[k]!.1) (hb : w.heap.size ≤ b) :
  ∃ w', (Instr.mapUpdate 125 (.map (some b)) (.int .i64 l[k]!.1) (.int .i64 (gsum (l.take k) l[k]!.1 + l[k]!.2))).run Tryz.prog wr = .ok () w' ∧ GrR w l b (k + 1) w' := by
 obtain ⟨K, hs, hK⟩ := h.s
 obtain ⟨w', K', h1, h2, h3, h4, h5⟩ := hs.put hg (gsum (l.take k) l[k]!.1 + l[k]!.2)
 have e : gsum (l.take (k + 1)) = fun x => if x = l[k]!.1 then gsum (l.take k) l[k]!.1 + l[k]!.2 else gsum (l.take k) x := by
  funext g; rw [qbi l k hk, qdI]
  by_cases hgx : g = l[k]!.1
  ·rw [if_pos hgx.symm, if_pos hgx, hgx]
  ·rw [if_neg (Ne.symm hgx), if_neg hgx]; omega
 refine ⟨w', h1, ⟨⟨K', by rw [e]; exact h2, fun g => ?_⟩, fun v hm => ?_, h.bel.grown h4 h.bel.size (fun j hj => by injection hj with hj; omega)⟩⟩
 ·rw [h3, hK, e]
  show _ ↔ 0 < (if g = l[k]!.1 then gsum (l.take k) l[k]!.1 + l[k]!.2 else gsum (l.take k) g)
  have := (qcg (l.take k) l[k]!.1 h.ok).1
  by_cases hgx : g = l[k]!.1
  ·rw [if_pos hgx]; constructor
   ·intro _; omega
   ·intro _; exact .inr hgx
  ·rw [if_neg hgx]; constructor
   ·rintro (h | h)
    ·exact h
    ·exact absurd h hgx
   ·exact fun h => .inl h
 ·rw [qbi l k hk, List.mem_append, List.mem_singleton] at hm
  rcases hm with hm | rfl
  ·exact h.ok v hm
  ·exact hw
theorem GrR.done {w : World} {l : List VtV} {b : Nat} {wr : World} (h : GrR w l b l.length wr) (h9 : l.length ≤ 9) (hb : w.heap.size ≤ b) : ∃ K, SumM wr b K (gsum l) ∧ GrpP l w (.returned (.tuple #[.map (some b), .bool (decide (0 < K.length))])) wr := by
 obtain ⟨⟨K, hs, hK⟩, hok, hbel⟩ := h
 rw [List.take_length] at hs hK hok
 refine ⟨K, hs, ⟨_, ?_, fun _ => ⟨b, K, rfl, hs, hK, hb⟩⟩, hbel⟩
 rw [qnQ h9 hok hK]
theorem qdW (A : Option Addr) (n c : Nat) (l : List VtV) (w : World) (hz : Sl w w.heap.size encVt 2 A n l) (hg : ∀ v ∈ l, wfI v.1) : Calls Tryz.prog 58 #[.slice A n c] w (GrpP l w) := by
 have hl := hz.len
 by_cases h0 : n = 0
 ·subst h0
  have hl0 : l = [] := List.length_eq_zero_iff.1 hl
  subst hl0
  clear hz hg hl
  go_enter Tryz.func58, Tryz.ntmps58
  go_wp2_with fail
  go_ret2
  exact GrpP.no rfl (Below.refl _ _)
 by_cases h9 : 9 < n
 ·have HF := Lib.hid (qmx (l := l) (by rw [hl]; exact h9))
  have d0 : ((n : Int) == 0) = false := beq_eq_false_iff_ne.2 (by omega)
  have d9 : decide ((9 : Int) < (n : Int)) = true := decide_eq_true (by omega)
  clear hz hg hl h0 h9
  go_enter Tryz.func58, Tryz.ntmps58
  go_wp2_with fail
  go_ret2
  exact GrpP.no HF.out (Below.refl _ _)
 have hn9 : n ≤ 9 := by omega
 have HR0 := Lib.hid (show GrR w l w.heap.size 0 (w.alloc (.map #[] 0)) from ⟨⟨[], by rw [List.take_zero]; exact SumM.made w, fun g => by rw [List.take_zero]; simp [gsum]⟩, (fun v hv => by rw [List.take_zero] at hv; cases hv), (Below.refl _ w).alloc (Nat.le_refl _) _⟩)
 have HZ := Lib.hid hz; have HG := Lib.hid hg; have HL := Lib.hid hl
 have hmm := @run_makeMap Tryz.prog
 have d0 : ((n : Int) == 0) = false := beq_eq_false_iff_ne.2 (by omega)
 have d9 : decide ((9 : Int) < (n : Int)) = false := decide_eq_false (by omega)
 clear hz hg hl h0 h9
 go_enter Tryz.func58, Tryz.ntmps58
 go_wp2_with fail
 go_loopw [18] (fun i wr => ∃ k : Nat, i = .int .i64 ↑k ∧ k ≤ n ∧ GrR w l w.heap.size k wr) (fun i _ => n - (RowKit.intOf i).toNat)
 case atStart => exact ⟨0, rfl, Nat.zero_le _, HR0.out⟩
 case round =>
  obtain ⟨k, rfl, hk, hR⟩ := hrel
  have HR := Lib.hid hR
  by_cases hlt : k < n
  ·obtain ⟨b, off, rfl, hbl, hc⟩ := (HZ.out.below hR.bel).cells hlt
   have hlk : k < l.length := by rw [HL.out]; exact hlt
   have HLK := Lib.hid hlk
   have c0 : wr.cell? ⟨b, off + k * 2, none⟩ = some (.int .i64 l[k]!.1) := hc 0 _ rfl
   have c1 : wr.cell? ⟨b, off + k * 2 + 1, none⟩ = some (.int .i64 l[k]!.2) := hc 1 _ rfl
   have hm : l[k]! ∈ l := by rw [getElem!_pos l k hlk]; exact List.getElem_mem _
   have HM := Lib.hid hm
   have HRA := Lib.hid (hR.row ((Below.refl _ wr).alloc (Nat.le_refl _) (.cells #[.int .i64 l[k]!.1, .int .i64 l[k]!.2] 82)))
   clear hR hc hbl hm hlk
   by_cases hw : wOk l[k]!
   ·have HW := Lib.hid hw
    have e1 : decide (l[k]!.2 < 0) = false := decide_eq_false (by unfold wOk at hw; omega)
    have e2 : decide (4294967296 < l[k]!.2) = false := decide_eq_false (by unfold wOk at hw; omega)
    by_cases hp : 0 < l[k]!.2
    ·have e3 : decide (0 < l[k]!.2) = true := decide_eq_true hp
     obtain ⟨w', ru, hR'⟩ := HRA.out.add HLK.out hp hw (HG.out _ HM.out) (Nat.le_refl _)
     obtain ⟨K, hs, _⟩ := HRA.out.s
     have rl := hs.look (HG.out _ HM.out) _ rfl
     have hov : IntKind.i64.wrap (gsum (l.take k) l[k]!.1 + l[k]!.2) = gsum (l.take k) l[k]!.1 + l[k]!.2 := by
      have h1 := qcg (l.take k) l[k]!.1 HRA.out.ok
      have h2 : (l.take k).length ≤ 9 := by rw [List.length_take]; omega
      unfold wOk at hw
      rw [IntKind.wrap_i64]; omega
     have HR' := Lib.hid hR'
     clear hs hR' hp hw HR HRA
     generalize gsum (l.take k) l[k]!.1 = s at *
     generalize l[k]! = v at *
     go_wp2_with fail
     go_roundw
     case rel => exact ⟨k + 1, by go_num, by omega, HR'.out⟩
     case measure => show n - ((↑k + 1 : Int)).toNat < n - (↑k : Int).toNat; omega
    ·have e3 : decide (0 < l[k]!.2) = false := decide_eq_false hp
     have HR' := Lib.hid (HRA.out.skip HLK.out (by unfold wOk at hw; omega))
     clear hp hw HR HRA
     generalize l[k]! = v at *
     go_wp2_with fail
     go_roundw
     case rel => exact ⟨k + 1, by go_num, by omega, HR'.out⟩
     case measure => show n - ((↑k + 1 : Int)).toNat < n - (↑k : Int).toNat; omega
   ·have HF := Lib.hid (qje HM.out hw)
    have HBA := Lib.hid HRA.out.bel
    clear HR HRA
    by_cases hneg : l[k]!.2 < 0
    ·have e1 : decide (l[k]!.2 < 0) = true := decide_eq_true hneg
     clear hw hneg
     generalize l[k]! = v at *
     go_wp2_with fail
     go_ret2
     exact GrpP.no HF.out HBA.out
    ·have e1 : decide (l[k]!.2 < 0) = false := decide_eq_false hneg
     have e2 : decide (4294967296 < l[k]!.2) = true := decide_eq_true (by unfold wOk at hw; omega)
     clear hw hneg
     generalize l[k]! = v at *
     go_wp2_with fail
     go_ret2
     exact GrpP.no HF.out HBA.out
  ·have hkn : k = l.length := by rw [HL.out]; omega
   subst hkn
   obtain ⟨K, hs, hpost⟩ := HR.out.done (by rw [HL.out]; exact hn9) (Nat.le_refl _)
   have rn := hs.len
   have HP := Lib.hid hpost
   clear hs hpost hR
   generalize K.length = m at *
   go_wp2_with fail
   go_ret2
   exact HP.out
end Go.Proofs.YtbpmmmnphpkdjaaGreatDoor
