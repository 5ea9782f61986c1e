/- Words for values that lie in memory as trees: cells, lists, and a list of values of the same kind below. -/
import Derived.Test.YthpjneobmmpbnaaGreatDoorDJutP
import Derived.Test.YthpjneobmmpbnaaGreatDoorDAclDec
import Derived.Laws.Rows
import Derived.Laws.Tables
import Derived.Deep.WholeRow
import Derived.Deep.MidRow
import Derived.Laws.CopyOwn
import Derived.Test.YthpjneobmmpbnaaGreatDoorDRows2
import Derived.Test.YthpjneobmmpbnaaGreatDoorDClkE
namespace Go.Proofs.YthpjneobmmpbnaaGreatDoor
open Go.RowKit

/-- a slice's header: where, how many, how many may be -/
abbrev SlC := Option Addr × Nat × Nat
def hdOk (h : SlC) : Prop := (h.1 = none → h.2.1 = 0 ∧ h.2.2 = 0) ∧ h.2.1 ≤ h.2.2
@[reducible] def slV (h : SlC) : Value := .slice h.1 h.2.1 h.2.2
/-- the slice of header h holds the elements zs, k cells each, in a block of R -/
def SlR {α : Type} [Inhabited α] (w : World) (R : Nat → Prop) (enc : α → List Value) (k : Nat) (h : SlC) (zs : List α) : Prop :=
  zs.length = h.2.1 ∧ hdOk h ∧ (0 < h.2.1 → ∃ b off, h.1 = some ⟨b, off, none⟩ ∧ R b ∧ ∀ j, j < h.2.1 → ∀ i u, (enc zs[j]!)[i]? = some u → w.cell? ⟨b, off + j * k + i, none⟩ = some u)
section
variable {α : Type} [Inhabited α] {w w' : World} {R R' : Nat → Prop} {k : Nat} {enc : α → List Value} {h : SlC} {zs : List α}
theorem SlR.len (H : SlR w R enc k h zs) : zs.length = h.2.1 := H.1
theorem SlR.hd (H : SlR w R enc k h zs) : hdOk h := H.2.1
theorem SlR.keep (H : SlR w R enc k h zs) (hk : ∀ p : Addr, R p.block → w'.cell? p = w.cell? p) : SlR w' R enc k h zs :=
  ⟨H.1, H.2.1, fun hn => by
    obtain ⟨b, off, e, hb, hc⟩ := H.2.2 hn
    exact ⟨b, off, e, hb, fun j hj i u hu => (hk _ hb).trans (hc j hj i u hu)⟩⟩
theorem SlR.more (H : SlR w R enc k h zs) (hR : ∀ b, b < w.heap.size → R b → R' b) (hk0 : ∀ x, 0 < (enc x).length) : SlR w R' enc k h zs :=
  ⟨H.1, H.2.1, fun hn => by
    obtain ⟨b, off, e, hb, hc⟩ := H.2.2 hn
    refine ⟨b, off, e, hR b ?_ hb, hc⟩
    have hx := hk0 zs[0]!
    have := hc 0 hn 0 _ (List.getElem?_eq_getElem hx)
    exact World.block_lt_of_cell? _ _ this⟩
theorem SlR.sl (H : SlR w R enc k h zs) (hk0 : ∀ x, 0 < (enc x).length) : Sl w w.heap.size enc k h.1 h.2.1 zs :=
  ⟨H.1, fun hn => by
    obtain ⟨b, off, e, hb, hc⟩ := H.2.2 hn
    refine ⟨b, off, e, ?_, hc⟩
    have hx := hk0 zs[0]!
    have := hc 0 hn 0 _ (List.getElem?_eq_getElem hx)
    exact World.block_lt_of_cell? _ _ this⟩
theorem SlR.of_sl {B : Nat} {A : Option Addr} {n c : Nat} (H : Sl w B enc k A n zs) (hh : hdOk (A, n, c)) : SlR w (· < B) enc k (A, n, c) zs := ⟨H.1, hh, H.2⟩
theorem SlR.nil_ : SlR w R enc k (none, 0, 0) ([] : List α) := ⟨rfl, ⟨fun _ => ⟨rfl, rfl⟩, Nat.le_refl _⟩, fun h => absurd h (by simp)⟩
end

/-- plain trees -/
inductive Tr (β : Type) where
  | mk : β → List (Tr β) → Tr β
instance {β : Type} [Inhabited β] : Inhabited (Tr β) := ⟨.mk default []⟩
def Tr.v {β : Type} : Tr β → β | .mk v _ => v
def Tr.subs {β : Type} : Tr β → List (Tr β) | .mk _ l => l
/-- how a kind of values lies in memory: α what the cells hold, β what is read of it but the values below -/
structure Kd (α β : Type) where
  enc : α → List Value
  k : Nat
  sub : α → SlC
  loc : World → (Nat → Prop) → α → β → Prop
inductive TrAt {α β : Type} [Inhabited β] (K : Kd α β) (w : World) (R : Nat → Prop) : α → Tr β → Prop
  | mk (h : α) (v : β) (subs : List (Tr β)) (H : Nat → α) (b off : Nat) (l : K.loc w R h v) (ls : subs.length = (K.sub h).2.1) (hs : hdOk (K.sub h))
      (at_ : 0 < (K.sub h).2.1 → (K.sub h).1 = some ⟨b, off, none⟩ ∧ R b)
      (cells : ∀ j, j < (K.sub h).2.1 → ∀ i u, (K.enc (H j))[i]? = some u → w.cell? ⟨b, off + j * K.k + i, none⟩ = some u)
      (sub : ∀ j, j < (K.sub h).2.1 → TrAt K w R (H j) subs[j]!) : TrAt K w R h (.mk v subs)
section
variable {α β : Type} [Inhabited β] {K : Kd α β} {w w' : World} {R R' : Nat → Prop} {h : α} {t : Tr β}
theorem TrAt.loc (H : TrAt K w R h t) : K.loc w R h t.v := by cases H; assumption
theorem TrAt.len (H : TrAt K w R h t) : t.subs.length = (K.sub h).2.1 := by cases H; assumption
theorem TrAt.hd (H : TrAt K w R h t) : hdOk (K.sub h) := by cases H; assumption
/-- the headers below, all at once -/
theorem TrAt.subs_at [Inhabited α] (H : TrAt K w R h t) : ∃ L : List α, SlR w R K.enc K.k (K.sub h) L ∧ ∀ j, j < (K.sub h).2.1 → TrAt K w R L[j]! t.subs[j]! := by
  cases H with
  | mk _ v subs H b off l ls hs at_ cells sub =>
    have hget : ∀ j, j < (K.sub h).2.1 → ((List.range (K.sub h).2.1).map H)[j]! = H j := fun j hj => by rw [getElem!_pos _ _ (by simpa using hj)]; simp
    refine ⟨(List.range (K.sub h).2.1).map H, ⟨by simp, hs, fun hn => ⟨b, off, (at_ hn).1, (at_ hn).2, fun j hj i u hu => ?_⟩⟩, fun j hj => ?_⟩
    · rw [hget j hj] at hu; exact cells j hj i u hu
    · rw [hget j hj]; exact sub j hj
theorem TrAt.of_subs [Inhabited α] {v : β} {subs : List (Tr β)} {L : List α} (l : K.loc w R h v) (ls : subs.length = (K.sub h).2.1) (hL : SlR w R K.enc K.k (K.sub h) L) (hs : ∀ j, j < (K.sub h).2.1 → TrAt K w R L[j]! subs[j]!) : TrAt K w R h (.mk v subs) := by
  by_cases h0 : 0 < (K.sub h).2.1
  · obtain ⟨b, off, e, hb, hc⟩ := hL.2.2 h0
    exact .mk h v subs (fun j => L[j]!) b off l ls hL.2.1 (fun _ => ⟨e, hb⟩) hc hs
  · exact .mk h v subs (fun j => L[j]!) 0 0 l ls hL.2.1 (fun h1 => absurd h1 h0) (fun j hj => absurd hj (by omega)) (fun j hj => absurd hj (by omega))
theorem TrAt.keep (H : TrAt K w R h t) (hk : ∀ p : Addr, R p.block → w'.cell? p = w.cell? p) (hl : ∀ a b, K.loc w R a b → K.loc w' R a b) : TrAt K w' R h t := by
  induction H with
  | mk h v subs H b off l ls hs at_ cells _ ih => exact .mk h v subs H b off (hl _ _ l) ls hs at_ (fun j hj i u hu => (hk _ (at_ (by omega)).2).trans (cells j hj i u hu)) ih
theorem TrAt.more (H : TrAt K w R h t) (hR : ∀ b, b < w.heap.size → R b → R' b) (hk0 : ∀ x, 0 < (K.enc x).length) (hl : ∀ a b, K.loc w R a b → K.loc w R' a b) : TrAt K w R' h t := by
  induction H with
  | mk h v subs H b off l ls hs at_ cells _ ih =>
    refine .mk h v subs H b off (hl _ _ l) ls hs (fun h0 => ⟨(at_ h0).1, hR b ?_ (at_ h0).2⟩) cells ih
    exact World.block_lt_of_cell? _ _ (cells 0 h0 0 _ (List.getElem?_eq_getElem (hk0 _)))
end
/-- a plain law at a tree, by what holds of all below -/
theorem Tr.ind {β : Type} [Inhabited β] {P : Tr β → Prop} (h : ∀ v subs, (∀ j, j < subs.length → P subs[j]!) → P (.mk v subs)) : ∀ t, P t
  | .mk v subs => h v subs fun j hj => by
    rw [getElem!_pos subs j hj]
    exact Tr.ind h _
termination_by t => SizeOf.sizeOf t
decreasing_by
  have := List.sizeOf_lt_of_mem (List.getElem_mem hj)
  simp only [Tr.mk.sizeOf_spec]
  omega
/-- all of a tree has a property -/
inductive TrAll {β : Type} [Inhabited β] (P : β → Nat → Prop) : Tr β → Prop
  | mk (v : β) (subs : List (Tr β)) (h : P v subs.length) (hs : ∀ j, j < subs.length → TrAll P subs[j]!) : TrAll P (.mk v subs)
section
variable {β : Type} [Inhabited β] {P Q : β → Nat → Prop} {t : Tr β}
theorem TrAll.top (H : TrAll P t) : P t.v t.subs.length := by cases H; assumption
theorem TrAll.subAt (H : TrAll P t) {j : Nat} (hj : j < t.subs.length) : TrAll P t.subs[j]! := by
  cases H with
  | mk v subs h hs => exact hs j hj
theorem TrAll.mono (H : TrAll P t) (h : ∀ v n, P v n → Q v n) : TrAll Q t := by
  induction H with
  | mk v subs h0 _ ih => exact .mk v subs (h _ _ h0) ih
end
end Go.Proofs.YthpjneobmmpbnaaGreatDoor
namespace Go.Proofs.YthpjneobmmpbnaaGreatDoor
open Go.RowKit

instance : Inhabited ByteArray := ⟨ByteArray.empty⟩
/-- what of a transaction lies outside its lists -/
structure TxN where
  (ty : Int) (path : ByteArray) (ow ve cr : Int) (qh : Bool) (qc qb si st co : Int)
instance : Inhabited TxN := ⟨⟨0, ByteArray.empty, 0, 0, 0, false, 0, 0, 0, 0, 0⟩⟩
/-- its cells: the headers of data, entries, identities, paths, parts -/
structure TxH where
  (n : TxN) (d a i p s : SlC)
instance : Inhabited TxH := ⟨⟨default, (none, 0, 0), (none, 0, 0), (none, 0, 0), (none, 0, 0), (none, 0, 0)⟩⟩
/-- what is read of it but its parts -/
structure TxF where
  (n : TxN) (data : Bs) (acl : List AclV) (ids : List IdV) (paths : List ByteArray)
instance : Inhabited TxF := ⟨⟨default, [], [], [], []⟩⟩
abbrev TxT := Tr TxF
def encStr (s : ByteArray) : List Value := [.string s]
@[reducible] def encTx (h : TxH) : List Value := [.int .i32 h.n.ty, .string h.n.path, slV h.d, slV h.a, .int .i64 h.n.ow, .int .i32 h.n.ve, .int .i32 h.n.cr, .bool h.n.qh, .int .i64 h.n.qc, .int .i64 h.n.qb, .int .i64 h.n.si, .int .i32 h.n.st, slV h.i, slV h.p, .int .i32 h.n.co, slV h.s]
@[reducible] def txV (h : TxH) : Value := .agg #[.int .i32 h.n.ty, .string h.n.path, slV h.d, slV h.a, .int .i64 h.n.ow, .int .i32 h.n.ve, .int .i32 h.n.cr, .bool h.n.qh, .int .i64 h.n.qc, .int .i64 h.n.qb, .int .i64 h.n.si, .int .i32 h.n.st, slV h.i, slV h.p, .int .i32 h.n.co, slV h.s]
def locTx (w : World) (R : Nat → Prop) (h : TxH) (v : TxF) : Prop :=
  v.n = h.n ∧ SlR w R enc8 1 h.d v.data ∧ SlR w R encAcl 3 h.a v.acl ∧ SlR w R encId 2 h.i v.ids ∧ SlR w R encStr 1 h.p v.paths
@[reducible] def kTx : Kd TxH TxF := ⟨encTx, 16, TxH.s, locTx⟩
abbrev TxAt := TrAt kTx
theorem locTx.keep {w w' : World} {R : Nat → Prop} (hk : ∀ p : Addr, R p.block → w'.cell? p = w.cell? p) {h : TxH} {v : TxF} (H : locTx w R h v) : locTx w' R h v :=
  ⟨H.1, H.2.1.keep hk, H.2.2.1.keep hk, H.2.2.2.1.keep hk, H.2.2.2.2.keep hk⟩
theorem TxAt.keep {w w' : World} {R : Nat → Prop} {h : TxH} {t : TxT} (H : TxAt w R h t) (hk : ∀ p : Addr, R p.block → w'.cell? p = w.cell? p) : TxAt w' R h t := TrAt.keep H hk fun _ _ l => locTx.keep hk l
theorem TxAt.more {w : World} {R R' : Nat → Prop} {h : TxH} {t : TxT} (H : TxAt w R h t) (hR : ∀ b, b < w.heap.size → R b → R' b) : TxAt w R' h t :=
  TrAt.more H hR (fun _ => by simp [encTx]) fun _ _ l => ⟨l.1, l.2.1.more hR (fun _ => by simp [enc8]), l.2.2.1.more hR (fun _ => by simp [encAcl]), l.2.2.2.1.more hR (fun _ => by simp [encId]), l.2.2.2.2.more hR (fun _ => by simp [encStr])⟩
/-- a delta's cells -/
structure DlH where
  (se xi zx ti : Int) (t : TxH)
instance : Inhabited DlH := ⟨⟨0, 0, 0, 0, default⟩⟩
structure DlT where
  (se xi zx ti : Int) (t : TxT)
instance : Inhabited DlT := ⟨⟨0, 0, 0, 0, default⟩⟩
@[reducible] def dlV (h : DlH) : Value := .agg #[.int .i64 h.se, .int .i32 h.xi, .int .i64 h.zx, .int .i64 h.ti, .int .i32 h.t.n.ty, .string h.t.n.path, slV h.t.d, slV h.t.a, .int .i64 h.t.n.ow, .int .i32 h.t.n.ve, .int .i32 h.t.n.cr, .bool h.t.n.qh, .int .i64 h.t.n.qc, .int .i64 h.t.n.qb, .int .i64 h.t.n.si, .int .i32 h.t.n.st, slV h.t.i, slV h.t.p, .int .i32 h.t.n.co, slV h.t.s]
@[reducible] def encDl (h : DlH) : List Value := [.int .i64 h.se, .int .i32 h.xi, .int .i64 h.zx, .int .i64 h.ti] ++ encTx h.t
def DlAt (w : World) (R : Nat → Prop) (h : DlH) (d : DlT) : Prop := (d.se = h.se ∧ d.xi = h.xi ∧ d.zx = h.zx ∧ d.ti = h.ti) ∧ TxAt w R h.t d.t
/-- how great things are: the numbers fit, nothing is longer than m -/
def in32 (x : Int) : Prop := -2147483648 ≤ x ∧ x ≤ 2147483647
def in64 (x : Int) : Prop := -9223372036854775808 ≤ x ∧ x ≤ 9223372036854775807
def TxSm (m : Nat) (v : TxF) (k : Nat) : Prop :=
  (in32 v.n.ty ∧ in64 v.n.ow ∧ in32 v.n.ve ∧ in32 v.n.cr ∧ in64 v.n.qc ∧ in64 v.n.qb ∧ in64 v.n.si ∧ in32 v.n.st ∧ in32 v.n.co) ∧ v.n.path.size ≤ m ∧ v.data.length ≤ m ∧ v.acl.length ≤ m ∧ v.ids.length ≤ m ∧ v.paths.length ≤ m ∧ k ≤ m ∧
  (∀ j, j < v.acl.length → in32 v.acl[j]!.1 ∧ v.acl[j]!.2.1.size ≤ m ∧ v.acl[j]!.2.2.size ≤ m) ∧ (∀ j, j < v.ids.length → v.ids[j]!.1.size ≤ m ∧ v.ids[j]!.2.size ≤ m) ∧ (∀ j, j < v.paths.length → v.paths[j]!.size ≤ m)
abbrev TxOk (m : Nat) (t : TxT) : Prop := TrAll (TxSm m) t
theorem TxSm.mono {m m' : Nat} (hm : m ≤ m') {v : TxF} {k : Nat} (h : TxSm m v k) : TxSm m' v k := by
  obtain ⟨h0, h1, h2, h3, h4, h5, h6, h7, h8, h9⟩ := h
  exact ⟨h0, by omega, by omega, by omega, by omega, by omega, by omega, fun j hj => ⟨(h7 j hj).1, by have := (h7 j hj).2; omega, by have := (h7 j hj).2; omega⟩, fun j hj => ⟨by have := h8 j hj; omega, by have := h8 j hj; omega⟩, fun j hj => by have := h9 j hj; omega⟩
def DlSm (m : Nat) (d : DlT) : Prop := (in64 d.se ∧ in32 d.xi ∧ in64 d.zx ∧ in64 d.ti) ∧ TxOk m d.t

end Go.Proofs.YthpjneobmmpbnaaGreatDoor
namespace Go.Proofs.YthpjneobmmpbnaaGreatDoor
open Go.RowKit Go.MapKept
section
variable {P : Program} {o : Oper} {a : Act} {w w0 : World} {K : Act → World → Prop} {Q : Exit → Act → World → Prop}
/-- into the variable that was made last -/
theorem wp_storeTop (ty t : TypeId) {x y : Operand} {old cells : Array Value} {g : Nat} (ho : o.op = .store ty x y) (hx : a.eval x = .pointer (some ⟨g, 0, none⟩)) (hg : w0.heap.size = g) (hy : a.eval y = .agg cells)
    (hi : (P.info? ty).map (·.size) = some cells.size) (hold : old.size = cells.size) (h1 : cells.all (·.oneCell') = true) (h : K (a.put o.dst undef) (w0.alloc (.cells cells t))) : o.wp P a (w0.alloc (.cells old t)) K Q := by
  subst hg
  refine wp_store_row ty x y ho w0.heap.size cells hx hy t old (heap_alloc_last w0 _) hi hold h1 ?_
  rw [World.setRow_alloc_new]
  exact h
/-- into a variable -/
theorem wp_storeRow (ty t : TypeId) {x y : Operand} {old cells : Array Value} {g : Nat} (ho : o.op = .store ty x y) (hx : a.eval x = .pointer (some ⟨g, 0, none⟩)) (hy : a.eval y = .agg cells) (hg : w.heap[g]? = some (.cells old t (0, 0)))
    (hi : (P.info? ty).map (·.size) = some cells.size) (hold : old.size = cells.size) (h1 : cells.all (·.oneCell') = true) (h : K (a.put o.dst undef) (w.setRow g cells)) : o.wp P a w K Q :=
  wp_store_row ty x y ho g cells hx hy t old hg hi hold h1 h
/-- a whole struct out of a variable -/
theorem wp_loadRow (ty t : TypeId) {x : Operand} {g : Nat} {cs : Array Value} {d : TypeDesc} (ho : o.op = .load ty x) (hx : a.eval x = .pointer (some ⟨g, 0, none⟩)) (hg : w.heap[g]? = some (.cells cs t (0, 0)))
    (hu : P.underlying ty = some d) (hd : d.isRow = true) (hi : (P.info? ty).map (·.size) = some cs.size) (h : K (a.put o.dst (.agg cs)) w) : o.wp P a w K Q := by
  refine wp_load_row ty x ho g hx t cs (0, 0) d hg hu ?_ hi h
  cases d <;> simp_all [TypeDesc.isRow]
variable {ops : Array Oper} {rest : List Oper}
theorem wpList_storeTop (ty t : TypeId) {x y : Operand} {old cells : Array Value} {g : Nat} (hgd : o.guard = none) (ho : o.op = .store ty x y) (hx : a.eval x = .pointer (some ⟨g, 0, none⟩)) (hg : w0.heap.size = g) (hy : a.eval y = .agg cells)
    (hi : (P.info? ty).map (·.size) = some cells.size) (hold : old.size = cells.size) (h1 : cells.all (·.oneCell') = true) (h : wpList P ops Q rest (a.put o.dst undef) (w0.alloc (.cells cells t))) : wpList P ops Q (o :: rest) a (w0.alloc (.cells old t)) :=
  wpList_plain hgd fun _ hK => wp_storeTop ty t ho hx hg hy hi hold h1 (hK _ _ h)
theorem wpList_storeRow (ty t : TypeId) {x y : Operand} {old cells : Array Value} {g : Nat} (hgd : o.guard = none) (ho : o.op = .store ty x y) (hx : a.eval x = .pointer (some ⟨g, 0, none⟩)) (hy : a.eval y = .agg cells) (hg : w.heap[g]? = some (.cells old t (0, 0)))
    (hi : (P.info? ty).map (·.size) = some cells.size) (hold : old.size = cells.size) (h1 : cells.all (·.oneCell') = true) (h : wpList P ops Q rest (a.put o.dst undef) (w.setRow g cells)) : wpList P ops Q (o :: rest) a w :=
  wpList_plain hgd fun _ hK => wp_storeRow ty t ho hx hy hg hi hold h1 (hK _ _ h)
theorem wpList_loadRow (ty t : TypeId) {x : Operand} {g : Nat} {cs : Array Value} {d : TypeDesc} (hgd : o.guard = none) (ho : o.op = .load ty x) (hx : a.eval x = .pointer (some ⟨g, 0, none⟩)) (hg : w.heap[g]? = some (.cells cs t (0, 0)))
    (hu : P.underlying ty = some d) (hd : d.isRow = true) (hi : (P.info? ty).map (·.size) = some cs.size) (h : wpList P ops Q rest (a.put o.dst (.agg cs)) w) : wpList P ops Q (o :: rest) a w :=
  wpList_plain hgd fun _ hK => wp_loadRow ty t ho hx hg hu hd hi (hK _ _ h)
/-- a whole struct out of the middle of a block -/
theorem wpList_loadMid (ty : TypeId) {x : Operand} {b q : Nat} {cs : List Value} {d : TypeDesc} (hgd : o.guard = none) (ho : o.op = .load ty x) (hx : a.eval x = .pointer (some ⟨b, q, none⟩)) (hc : w.rangeAt b q cs)
    (hu : P.underlying ty = some d) (hd : d.isRow = true) (hi : (P.info? ty).map (·.size) = some cs.length) (h : wpList P ops Q rest (a.put o.dst (.agg cs.toArray)) w) : wpList P ops Q (o :: rest) a w :=
  wpList_load_mid hgd ty x ho b q hx cs d hc hu hd hi h
theorem wpList_storeMid (ty : TypeId) {x y : Operand} {b q : Nat} {cells : Array Value} (hgd : o.guard = none) (ho : o.op = .store ty x y) (hx : a.eval x = .pointer (some ⟨b, q, none⟩)) (hy : a.eval y = .agg cells) (ht : w.there b q cells.size)
    (hi : (P.info? ty).map (·.size) = some cells.size) (h1 : cells.all (·.oneCell') = true) (h : wpList P ops Q rest (a.put o.dst undef) (w.setCells b q cells.toList)) : wpList P ops Q (o :: rest) a w :=
  wpList_store_mid hgd ty x y ho b q cells hx hy ht hi h1 h
end
theorem results_cellK {fn : Func} {p : Tmp} {ty : TypeId} (h : fn.results = #[.cell p ty]) (tmps : Array Value) (P : Program) (w : World) :
    (results fn tmps).run P w = ((asAddr (tmps.getD p undef)).run P w).andThen fun a w₁ => (loadVar ty a).run P w₁ := by
  simp only [results, h]
  simp [Sem.run_bind]
theorem res_cell {P : Program} {w : World} {x : Value} {g : Nat} {ty t : TypeId} {cs : Array Value} {d : TypeDesc} (hx : x = .pointer (some ⟨g, 0, none⟩)) (hg : w.heap[g]? = some (.cells cs t (0, 0))) (hu : P.underlying ty = some d) (hd : d.isRow = true)
    (hi : (P.info? ty).map (·.size) = some cs.size) : (((asAddr x).run P w).andThen fun a w₁ => (loadVar ty a).run P w₁) = .ok (.agg cs) w := by
  subst hx
  show (loadVar ty ⟨g, 0, none⟩).run P w = _
  refine run_loadVar_row w g t ty cs (0, 0) d hg hu ?_ hi
  cases d <;> simp_all [TypeDesc.isRow]
/-- a function's end whose result is a struct in a variable -/
theorem bodyPost_cell {P : Program} {fn : Func} {Q : Ending → World → Prop} {a : Act} {w : World} {p : Tmp} {ty t : TypeId} {g : Nat} {cs : Array Value} {d : TypeDesc} (h : fn.results = #[.cell p ty]) (hx : a.tmps.getD p undef = .pointer (some ⟨g, 0, none⟩))
    (hg : w.heap[g]? = some (.cells cs t (0, 0))) (hu : P.underlying ty = some d) (hd : d.isRow = true) (hi : (P.info? ty).map (·.size) = some cs.size) (hdf : a.defers = []) (hq : Q (.returned (.agg cs)) w) : bodyPost P fn Q .ret a w :=
  bodyPost_ret ((results_cellK h _ _ _).trans (res_cell hx hg hu hd hi)) hdf hq
theorem heap_under {w : World} {o : Obj} {g : Nat} {x : Obj} (h : w.heap[g]? = some x) : (w.alloc o).heap[g]? = some x := by
  rw [Below.heap_alloc _ _ g (Array.getElem?_eq_some_iff.1 h).1]; exact h
theorem heap_top' {w : World} {o : Obj} {g : Nat} (h : w.heap.size = g) : (w.alloc o).heap[g]? = some o := by subst h; exact heap_alloc_last w o
theorem sz1 (w : World) (a : Obj) : (w.alloc a).heap.size = w.heap.size + 1 := by simp
theorem sz2 (w : World) (a b : Obj) : ((w.alloc a).alloc b).heap.size = w.heap.size + 1 + 1 := by simp
theorem sz3 (w : World) (a b c : Obj) : (((w.alloc a).alloc b).alloc c).heap.size = w.heap.size + 1 + 1 + 1 := by simp
theorem heap_s0 (w : World) (a : Obj) : (w.alloc a).heap[w.heap.size]? = some a := heap_alloc_last w a
theorem heap_s1 (w : World) (a b : Obj) : ((w.alloc a).alloc b).heap[w.heap.size + 1]? = some b := heap_top' (sz1 w a)
theorem heap_s2 (w : World) (a b c : Obj) : (((w.alloc a).alloc b).alloc c).heap[w.heap.size + 1 + 1]? = some c := heap_top' (sz2 w a b)
theorem heap_s3 (w : World) (a b c d : Obj) : ((((w.alloc a).alloc b).alloc c).alloc d).heap[w.heap.size + 1 + 1 + 1]? = some d := heap_top' (sz3 w a b c)
theorem undTx : Tryz.prog.underlying 33 = some (.struct (Tryz.prog.fieldsOf 33)) := by kernel_rfl
theorem infTx : (Tryz.prog.info? 33).map (·.size) = some 16 := by kernel_rfl
theorem undDl : Tryz.prog.underlying 35 = some (.struct (Tryz.prog.fieldsOf 35)) := by kernel_rfl
theorem infDl : (Tryz.prog.info? 35).map (·.size) = some 20 := by kernel_rfl
theorem oneTx (h : TxH) : (encTx h).toArray.all (·.oneCell') = true := by simp [encTx, Value.oneCell']
end Go.Proofs.YthpjneobmmpbnaaGreatDoor
namespace Go.Proofs.YthpjneobmmpbnaaGreatDoor
open Go.RowKit Go.WideShapes
set_option maxRecDepth 100000
section
variable {H : Type} {enc : TypeId × Value → H} {w : World} {base : Nat} {spare : Nat → Bool} {held : Bool}
theorem trod_id {fuel : Nat} {cs : List Value} {x : DataW H × List MemPlace} (h : DataW.trod enc Tryz.prog w base spare held fuel 108 cs = some x) :
    ∃ z : IdV, cs = encId z ∧ z.1.size ≤ Rows.uptoBulk x.1 ∧ z.2.size ≤ Rows.uptoBulk x.1 := by
  obtain ⟨ys, n, _, rfl, hlen, hyl, hf⟩ := DataW.trod_struct Tryz.underlying108 h
  have hc : Tryz.prog.cellsOf 108 = 2 := by kernel_rfl
  have hs : Tryz.prog.cellsOf 9 = 1 := by kernel_rfl
  rw [hc] at hlen
  match cs, hlen with
  | [a, b], _ =>
    match ys, hyl with
    | [y0, y1], _ =>
      have g0 : DataW.trod enc Tryz.prog w base spare held n 9 (List.take (Tryz.prog.cellsOf 9) [a, b]) = some y0 := hf 0 _ rfl
      have g1 : DataW.trod enc Tryz.prog w base spare held n 9 (List.take (Tryz.prog.cellsOf 9) [b]) = some y1 := hf 1 _ rfl
      rw [hs] at g0 g1
      simp only [List.take_succ_cons, List.take_zero] at g0 g1
      obtain ⟨s, e0, rfl, _⟩ := DataW.trod_string Tryz.underlying9 g0
      obtain ⟨t, e1, rfl, _⟩ := DataW.trod_string Tryz.underlying9 g1
      injection e0 with e0
      injection e1 with e1
      subst e0 e1
      refine ⟨(s, t), rfl, ?_, ?_⟩ <;> simp [Rows.uptoBulk, Rows.uptoBulkAll] <;> omega
theorem open_rowsT {α : Type} [Inhabited α] {enc0 : α → List Value} {k : Nat} {t e : TypeId} (ht : Tryz.prog.underlying t = some (.slice e)) (hC : Tryz.prog.cellsOf e = k) (hk0 : 0 < k) (small : α → Nat → Prop)
    (hel : ∀ (fuel : Nat) cs' (x : DataW H × List MemPlace), DataW.trod enc Tryz.prog w base spare held fuel e cs' = some x → ∃ z : α, cs' = enc0 z ∧ small z (Rows.uptoBulk x.1)) (hmono : ∀ z a b, a ≤ b → small z a → small z b)
    {fuel0 : Nat} {cs : List Value} {x : DataW H × List MemPlace} (h : DataW.trod enc Tryz.prog w base spare held fuel0 t cs = some x) :
    ∃ A n c l, cs = [.slice A n c] ∧ Sl w w.heap.size enc0 k A n l ∧ ((A = none → n = 0 ∧ c = 0) ∧ n ≤ c) ∧ n ≤ Rows.uptoBulk x.1 ∧ ∀ j, j < n → small l[j]! (Rows.uptoBulk x.1) := by
  obtain ⟨d, ps⟩ := x
  dsimp only
  rcases Deep.open_slice ht h with ⟨e1, e2⟩ | ⟨a, n, c, m, n', D, Pl, e1, _, hlc, _, hm, e2, hx⟩
  · subst e1
    exact ⟨none, 0, 0, [], rfl, Sl.nil_, ⟨fun _ => ⟨rfl, rfl⟩, Nat.le_refl _⟩, Nat.zero_le _, fun j hj => absurd hj (by omega)⟩
  · subst e1
    have hd : d = .slice ((List.range n).map D) ((List.range (m - n)).map fun j => D (n + j)) := congrArg Prod.fst e2
    have hnm : n ≤ m := by rw [hm]; split <;> omega
    have hspot : 0 < n → a.spot = none := fun h0 => by
      obtain ⟨cs', h1, h2⟩ := hx 0 (by omega)
      rw [hC, Nat.zero_mul, add_nil_] at h1
      obtain ⟨_, hlen, hcell⟩ := World.cells?_some h1
      have hg := hcell 0 hk0
      rw [add_nil_, List.getElem?_eq_getElem (by omega)] at hg
      exact World.cell?_spot hg
    have key : ∀ i, i < n → ∃ z : α, (∀ u y, (enc0 z)[u]? = some y → a.spot = none ∧ w.cell? ⟨a.block, a.off + i * k + u, none⟩ = some y ∧ a.block < w.heap.size) ∧ small z (Rows.uptoBulk d) ∧ (enc0 z).length = k := by
      intro i hi
      obtain ⟨cs', h1, h2⟩ := hx i (by omega)
      rw [hC] at h1
      obtain ⟨z, e3, hz⟩ := hel _ _ _ h2
      subst e3
      obtain ⟨_, hlen, hcell⟩ := World.cells?_some h1
      refine ⟨z, fun u y hu => ?_, hmono z _ _ ?_ hz, hlen⟩
      · have hul : u < k := by rw [← hlen]; exact (List.getElem?_eq_some_iff.1 hu).1
        have hg := (hcell u hul).trans hu
        have hg' : w.cell? ⟨a.block, a.off + i * k + u, none⟩ = some y := by
          rw [← hg, add_two (hspot (by omega))]
        exact ⟨hspot (by omega), hg', (by have := World.block_lt_of_cell? _ _ hg'; exact this)⟩
      · rw [hd]
        have := bulkAll_map D (List.range n) i (by simp [hi])
        simp only [Rows.uptoBulk]
        omega
    obtain ⟨Z, hZ⟩ : ∃ Z : Nat → α, ∀ i, i < n → (∀ u y, (enc0 (Z i))[u]? = some y → a.spot = none ∧ w.cell? ⟨a.block, a.off + i * k + u, none⟩ = some y ∧ a.block < w.heap.size) ∧ small (Z i) (Rows.uptoBulk d) ∧ (enc0 (Z i)).length = k := by
      classical
      refine ⟨fun i => if h : i < n then (key i h).choose else default, fun i hi => ?_⟩
      simp only [dif_pos hi]
      exact (key i hi).choose_spec
    have hget : ∀ j, j < n → ((List.range n).map Z)[j]! = Z j := fun j hj => by
      rw [getElem!_pos _ _ (by simpa using hj)]; simp
    refine ⟨some a, n, c, (List.range n).map Z, rfl, ⟨by simp, fun h0 => ?_⟩, ⟨(fun hh => by cases hh), hlc⟩, ?_, fun j hj => by rw [hget j hj]; exact (hZ j hj).2.1⟩
    · obtain ⟨h1, _, h3⟩ := hZ 0 h0
      obtain ⟨y, hy⟩ : ∃ y, (enc0 (Z 0))[0]? = some y := ⟨_, List.getElem?_eq_getElem (by omega)⟩
      obtain ⟨hs, _, hb⟩ := h1 0 y hy
      refine ⟨a.block, a.off, ?_, hb, fun j hj i u hu => ?_⟩
      · obtain ⟨b, o, s⟩ := a
        simp only at hs
        subst hs; rfl
      · rw [hget j hj] at hu
        exact ((hZ j hj).1 i u hu).2.1
    · rw [hd]
      have := bulkAll_len ((List.range n).map D)
      simp only [Rows.uptoBulk]
      simp at this
      omega

def SmallI (l : List IdV) (n m : Nat) : Prop := ∀ j, j < n → l[j]!.1.size ≤ m ∧ l[j]!.2.size ≤ m
/-- a session: its number, its timeout, the slice of its identities -/
abbrev SesV := Int × Int × Option Addr × Nat × Nat
def encS (z : SesV) : List Value := [.int .i64 z.1, .int .i32 z.2.1, .slice z.2.2.1 z.2.2.2.1 z.2.2.2.2]
/-- what holds of a session that lies in memory: these are its identities -/
def SesOk (w : World) (z : SesV) (l : List IdV) (m : Nat) : Prop := wfI z.1 ∧ (-2147483648 ≤ z.2.1 ∧ z.2.1 ≤ 2147483647) ∧ Sl w w.heap.size encId 2 z.2.2.1 z.2.2.2.1 l ∧ ((z.2.2.1 = none → z.2.2.2.1 = 0 ∧ z.2.2.2.2 = 0) ∧ z.2.2.2.1 ≤ z.2.2.2.2) ∧ z.2.2.2.1 ≤ m ∧ SmallI l z.2.2.2.1 m
theorem SesOk.mono {z : SesV} {l : List IdV} {m m' : Nat} (h : SesOk w z l m) (hm : m ≤ m') : SesOk w z l m' :=
  ⟨h.1, h.2.1, h.2.2.1, h.2.2.2.1, Nat.le_trans h.2.2.2.2.1 hm, fun j hj => ⟨Nat.le_trans (h.2.2.2.2.2 j hj).1 hm, Nat.le_trans (h.2.2.2.2.2 j hj).2 hm⟩⟩
theorem trod_sess {fuel : Nat} {cs : List Value} {x : DataW H × List MemPlace} (h : DataW.trod enc Tryz.prog w base spare held fuel 28 cs = some x) :
    ∃ z : SesV, cs = encS z ∧ ∃ l, SesOk w z l (Rows.uptoBulk x.1) := by
  obtain ⟨ys, n, _, rfl, hlen, hyl, hf⟩ := DataW.trod_struct Tryz.underlying28 h
  have hc : Tryz.prog.cellsOf 28 = 3 := by kernel_rfl
  have h1 : Tryz.prog.cellsOf 2 = 1 := by kernel_rfl
  have h2 : Tryz.prog.cellsOf 21 = 1 := by kernel_rfl
  have h3 : Tryz.prog.cellsOf 26 = 1 := by kernel_rfl
  rw [hc] at hlen
  match cs, hlen with
  | [a, b, c], _ =>
    match ys, hyl with
    | [y0, y1, y2], _ =>
      have g0 : DataW.trod enc Tryz.prog w base spare held n 2 (List.take (Tryz.prog.cellsOf 2) [a, b, c]) = some y0 := hf 0 _ rfl
      have g1 : DataW.trod enc Tryz.prog w base spare held n 21 (List.take (Tryz.prog.cellsOf 21) [b, c]) = some y1 := hf 1 _ rfl
      have g2 : DataW.trod enc Tryz.prog w base spare held n 26 (List.take (Tryz.prog.cellsOf 26) [c]) = some y2 := hf 2 _ rfl
      rw [h1] at g0
      rw [h2] at g1
      rw [h3] at g2
      simp only [List.take_succ_cons, List.take_zero] at g0 g1 g2
      obtain ⟨p0, e0, _, w0⟩ := DataW.trod_int Tryz.underlying2 g0
      obtain ⟨p1, e1, _, w1⟩ := DataW.trod_int Tryz.underlying21 g1
      obtain ⟨A, k, cp, l, e2, q1, q2, q3, q4⟩ := open_rowsT (enc0 := encId) (k := 2) Tryz.underlying26 (by kernel_rfl) (by decide) (fun (z : IdV) m => z.1.size ≤ m ∧ z.2.size ≤ m) (fun _ _ x hx => trod_id hx) (fun _ _ _ hab hz => ⟨Nat.le_trans hz.1 hab, Nat.le_trans hz.2 hab⟩) g2
      injection e0 with e0; injection e1 with e1; injection e2 with e2
      subst e0 e1 e2
      refine ⟨(p0, p1, A, k, cp), rfl, l, ?_⟩
      have hb : Rows.uptoBulk y2.1 ≤ Rows.uptoBulk (DataW.agg ([y0, y1, y2].map (·.1))) := by simp [Rows.uptoBulk, Rows.uptoBulkAll]; omega
      refine SesOk.mono ⟨?_, ?_, q1, q2, q3, q4⟩ hb
      · simp [Lit.wf] at w0; exact w0
      · simp [Lit.wf] at w1; exact w1
end
end Go.Proofs.YthpjneobmmpbnaaGreatDoor
