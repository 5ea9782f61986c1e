/- Words for values that lie in memory as trees: cells, lists, and a list of values of the same kind below. -/
import Derived.Test.YthpjneobmmpbnaaGreatDoorGJutP
import Derived.Test.YthpjneobmmpbnaaGreatDoorGAclDec
namespace Go.Proofs.YthpjneobmmpbnaaGreatDoor
open Go.RowKit

/-- a slice's header: where, how many, how many may be -/
abbrev SlC := Option Addr × Nat × Nat
def hdOk (h : SlC) : Prop := (h.1 = none → h.2.1 = 0 ∧ h.2.2 = 0) ∧ h.2.1 ≤ h.2.2
@[reducible] def slV (h : SlC) : Value := .slice h.1 h.2.1 h.2.2
/-- the slice of header h holds the elements zs, k cells each, in a block of R -/
def SlR {α : Type} [Inhabited α] (w : World) (R : Nat → Prop) (enc : α → List Value) (k : Nat) (h : SlC) (zs : List α) : Prop :=
  zs.length = h.2.1 ∧ hdOk h ∧ (0 < h.2.1 → ∃ b off, h.1 = some ⟨b, off, none⟩ ∧ R b ∧ ∀ j, j < h.2.1 → ∀ i u, (enc zs[j]!)[i]? = some u → w.cell? ⟨b, off + j * k + i, none⟩ = some u)
section
variable {α : Type} [Inhabited α] {w w' : World} {R R' : Nat → Prop} {k : Nat} {enc : α → List Value} {h : SlC} {zs : List α}
theorem SlR.len (H : SlR w R enc k h zs) : zs.length = h.2.1 := H.1
theorem SlR.hd (H : SlR w R enc k h zs) : hdOk h := H.2.1
theorem SlR.keep (H : SlR w R enc k h zs) (hk : ∀ p : Addr, R p.block → w'.cell? p = w.cell? p) : SlR w' R enc k h zs :=
  ⟨H.1, H.2.1, fun hn => by
    obtain ⟨b, off, e, hb, hc⟩ := H.2.2 hn
    exact ⟨b, off, e, hb, fun j hj i u hu => (hk _ hb).trans (hc j hj i u hu)⟩⟩
theorem SlR.more (H : SlR w R enc k h zs) (hR : ∀ b, b < w.heap.size → R b → R' b) (hk0 : ∀ x, 0 < (enc x).length) : SlR w R' enc k h zs :=
  ⟨H.1, H.2.1, fun hn => by
    obtain ⟨b, off, e, hb, hc⟩ := H.2.2 hn
    refine ⟨b, off, e, hR b ?_ hb, hc⟩
    have hx := hk0 zs[0]!
    have := hc 0 hn 0 _ (List.getElem?_eq_getElem hx)
    exact World.block_lt_of_cell? _ _ this⟩
theorem SlR.sl (H : SlR w R enc k h zs) (hk0 : ∀ x, 0 < (enc x).length) : Sl w w.heap.size enc k h.1 h.2.1 zs :=
  ⟨H.1, fun hn => by
    obtain ⟨b, off, e, hb, hc⟩ := H.2.2 hn
    refine ⟨b, off, e, ?_, hc⟩
    have hx := hk0 zs[0]!
    have := hc 0 hn 0 _ (List.getElem?_eq_getElem hx)
    exact World.block_lt_of_cell? _ _ this⟩
theorem SlR.of_sl {B : Nat} {A : Option Addr} {n c : Nat} (H : Sl w B enc k A n zs) (hh : hdOk (A, n, c)) : SlR w (· < B) enc k (A, n, c) zs := ⟨H.1, hh, H.2⟩
theorem SlR.nil_ : SlR w R enc k (none, 0, 0) ([] : List α) := ⟨rfl, ⟨fun _ => ⟨rfl, rfl⟩, Nat.le_refl _⟩, fun h => absurd h (by simp)⟩
end

/-- plain trees -/
inductive Tr (β : Type) where
  | mk : β → List (Tr β) → Tr β
instance {β : Type} [Inhabited β] : Inhabited (Tr β) := ⟨.mk default []⟩
def Tr.v {β : Type} : Tr β → β | .mk v _ => v
def Tr.subs {β : Type} : Tr β → List (Tr β) | .mk _ l => l
theorem Tr.eta {β : Type} (t : Tr β) : t = .mk t.v t.subs := by cases t; rfl
/-- how a kind of values lies in memory: α what the cells hold, β what is read of it but the values below -/
structure Kd (α β : Type) where
  enc : α → List Value
  k : Nat
  sub : α → SlC
  loc : World → (Nat → Prop) → α → β → Prop
inductive TrAt {α β : Type} [Inhabited β] (K : Kd α β) (w : World) (R : Nat → Prop) : α → Tr β → Prop
  | mk (h : α) (v : β) (subs : List (Tr β)) (H : Nat → α) (b off : Nat) (l : K.loc w R h v) (ls : subs.length = (K.sub h).2.1) (hs : hdOk (K.sub h))
      (at_ : 0 < (K.sub h).2.1 → (K.sub h).1 = some ⟨b, off, none⟩ ∧ R b)
      (cells : ∀ j, j < (K.sub h).2.1 → ∀ i u, (K.enc (H j))[i]? = some u → w.cell? ⟨b, off + j * K.k + i, none⟩ = some u)
      (sub : ∀ j, j < (K.sub h).2.1 → TrAt K w R (H j) subs[j]!) : TrAt K w R h (.mk v subs)
section
variable {α β : Type} [Inhabited β] {K : Kd α β} {w w' : World} {R R' : Nat → Prop} {h : α} {t : Tr β}
theorem TrAt.loc (H : TrAt K w R h t) : K.loc w R h t.v := by cases H; assumption
theorem TrAt.len (H : TrAt K w R h t) : t.subs.length = (K.sub h).2.1 := by cases H; assumption
theorem TrAt.hd (H : TrAt K w R h t) : hdOk (K.sub h) := by cases H; assumption
/-- the headers below, all at once -/
theorem TrAt.subs_at [Inhabited α] (H : TrAt K w R h t) : ∃ L : List α, SlR w R K.enc K.k (K.sub h) L ∧ ∀ j, j < (K.sub h).2.1 → TrAt K w R L[j]! t.subs[j]! := by
  cases H with
  | mk _ v subs H b off l ls hs at_ cells sub =>
    have hget : ∀ j, j < (K.sub h).2.1 → ((List.range (K.sub h).2.1).map H)[j]! = H j := fun j hj => by rw [getElem!_pos _ _ (by simpa using hj)]; simp
    refine ⟨(List.range (K.sub h).2.1).map H, ⟨by simp, hs, fun hn => ⟨b, off, (at_ hn).1, (at_ hn).2, fun j hj i u hu => ?_⟩⟩, fun j hj => ?_⟩
    · rw [hget j hj] at hu; exact cells j hj i u hu
    · rw [hget j hj]; exact sub j hj
theorem TrAt.of_subs [Inhabited α] {v : β} {subs : List (Tr β)} {L : List α} (l : K.loc w R h v) (ls : subs.length = (K.sub h).2.1) (hL : SlR w R K.enc K.k (K.sub h) L) (hs : ∀ j, j < (K.sub h).2.1 → TrAt K w R L[j]! subs[j]!) : TrAt K w R h (.mk v subs) := by
  by_cases h0 : 0 < (K.sub h).2.1
  · obtain ⟨b, off, e, hb, hc⟩ := hL.2.2 h0
    exact .mk h v subs (fun j => L[j]!) b off l ls hL.2.1 (fun _ => ⟨e, hb⟩) hc hs
  · exact .mk h v subs (fun j => L[j]!) 0 0 l ls hL.2.1 (fun h1 => absurd h1 h0) (fun j hj => absurd hj (by omega)) (fun j hj => absurd hj (by omega))
theorem TrAt.keep (H : TrAt K w R h t) (hk : ∀ p : Addr, R p.block → w'.cell? p = w.cell? p) (hl : ∀ a b, K.loc w R a b → K.loc w' R a b) : TrAt K w' R h t := by
  induction H with
  | mk h v subs H b off l ls hs at_ cells _ ih => exact .mk h v subs H b off (hl _ _ l) ls hs at_ (fun j hj i u hu => (hk _ (at_ (by omega)).2).trans (cells j hj i u hu)) ih
theorem TrAt.more (H : TrAt K w R h t) (hR : ∀ b, b < w.heap.size → R b → R' b) (hk0 : ∀ x, 0 < (K.enc x).length) (hl : ∀ a b, K.loc w R a b → K.loc w R' a b) : TrAt K w R' h t := by
  induction H with
  | mk h v subs H b off l ls hs at_ cells _ ih =>
    refine .mk h v subs H b off (hl _ _ l) ls hs (fun h0 => ⟨(at_ h0).1, hR b ?_ (at_ h0).2⟩) cells ih
    exact World.block_lt_of_cell? _ _ (cells 0 h0 0 _ (List.getElem?_eq_getElem (hk0 _)))
end
/-- a plain law at a tree, by what holds of all below -/
theorem Tr.ind {β : Type} [Inhabited β] {P : Tr β → Prop} (h : ∀ v subs, (∀ j, j < subs.length → P subs[j]!) → P (.mk v subs)) : ∀ t, P t
  | .mk v subs => h v subs fun j hj => by
    rw [getElem!_pos subs j hj]
    exact Tr.ind h _
termination_by t => SizeOf.sizeOf t
decreasing_by
  have := List.sizeOf_lt_of_mem (List.getElem_mem hj)
  simp only [Tr.mk.sizeOf_spec]
  omega
/-- all of a tree has a property -/
inductive TrAll {β : Type} [Inhabited β] (P : β → Nat → Prop) : Tr β → Prop
  | mk (v : β) (subs : List (Tr β)) (h : P v subs.length) (hs : ∀ j, j < subs.length → TrAll P subs[j]!) : TrAll P (.mk v subs)
section
variable {β : Type} [Inhabited β] {P Q : β → Nat → Prop} {t : Tr β}
theorem TrAll.top (H : TrAll P t) : P t.v t.subs.length := by cases H; assumption
theorem TrAll.subAt (H : TrAll P t) {j : Nat} (hj : j < t.subs.length) : TrAll P t.subs[j]! := by
  cases H with
  | mk v subs h hs => exact hs j hj
theorem TrAll.mono (H : TrAll P t) (h : ∀ v n, P v n → Q v n) : TrAll Q t := by
  induction H with
  | mk v subs h0 _ ih => exact .mk v subs (h _ _ h0) ih
end
end Go.Proofs.YthpjneobmmpbnaaGreatDoor
namespace Go.Proofs.YthpjneobmmpbnaaGreatDoor
open Go.RowKit

instance : Inhabited ByteArray := ⟨ByteArray.empty⟩
/-- what of a transaction lies outside its lists -/
structure TxN where
  (ty : Int) (path : ByteArray) (ow ve cr : Int) (qh : Bool) (qc qb si st co : Int)
instance : Inhabited TxN := ⟨⟨0, ByteArray.empty, 0, 0, 0, false, 0, 0, 0, 0, 0⟩⟩
/-- its cells: the headers of data, entries, identities, paths, parts -/
structure TxH where
  (n : TxN) (d a i p s : SlC)
instance : Inhabited TxH := ⟨⟨default, (none, 0, 0), (none, 0, 0), (none, 0, 0), (none, 0, 0), (none, 0, 0)⟩⟩
/-- what is read of it but its parts -/
structure TxF where
  (n : TxN) (data : Bs) (acl : List AclV) (ids : List IdV) (paths : List ByteArray)
instance : Inhabited TxF := ⟨⟨default, [], [], [], []⟩⟩
abbrev TxT := Tr TxF
def encStr (s : ByteArray) : List Value := [.string s]
@[reducible] def encTx (h : TxH) : List Value := [.int .i32 h.n.ty, .string h.n.path, slV h.d, slV h.a, .int .i64 h.n.ow, .int .i32 h.n.ve, .int .i32 h.n.cr, .bool h.n.qh, .int .i64 h.n.qc, .int .i64 h.n.qb, .int .i64 h.n.si, .int .i32 h.n.st, slV h.i, slV h.p, .int .i32 h.n.co, slV h.s]
@[reducible] def txV (h : TxH) : Value := .agg #[.int .i32 h.n.ty, .string h.n.path, slV h.d, slV h.a, .int .i64 h.n.ow, .int .i32 h.n.ve, .int .i32 h.n.cr, .bool h.n.qh, .int .i64 h.n.qc, .int .i64 h.n.qb, .int .i64 h.n.si, .int .i32 h.n.st, slV h.i, slV h.p, .int .i32 h.n.co, slV h.s]
def locTx (w : World) (R : Nat → Prop) (h : TxH) (v : TxF) : Prop :=
  v.n = h.n ∧ SlR w R enc8 1 h.d v.data ∧ SlR w R encAcl 3 h.a v.acl ∧ SlR w R encId 2 h.i v.ids ∧ SlR w R encStr 1 h.p v.paths
@[reducible] def kTx : Kd TxH TxF := ⟨encTx, 16, TxH.s, locTx⟩
abbrev TxAt := TrAt kTx
theorem locTx.keep {w w' : World} {R : Nat → Prop} (hk : ∀ p : Addr, R p.block → w'.cell? p = w.cell? p) {h : TxH} {v : TxF} (H : locTx w R h v) : locTx w' R h v :=
  ⟨H.1, H.2.1.keep hk, H.2.2.1.keep hk, H.2.2.2.1.keep hk, H.2.2.2.2.keep hk⟩
theorem TxAt.keep {w w' : World} {R : Nat → Prop} {h : TxH} {t : TxT} (H : TxAt w R h t) (hk : ∀ p : Addr, R p.block → w'.cell? p = w.cell? p) : TxAt w' R h t := TrAt.keep H hk fun _ _ l => locTx.keep hk l
theorem TxAt.more {w : World} {R R' : Nat → Prop} {h : TxH} {t : TxT} (H : TxAt w R h t) (hR : ∀ b, b < w.heap.size → R b → R' b) : TxAt w R' h t :=
  TrAt.more H hR (fun _ => by simp [encTx]) fun _ _ l => ⟨l.1, l.2.1.more hR (fun _ => by simp [enc8]), l.2.2.1.more hR (fun _ => by simp [encAcl]), l.2.2.2.1.more hR (fun _ => by simp [encId]), l.2.2.2.2.more hR (fun _ => by simp [encStr])⟩
/-- a delta's cells -/
structure DlH where
  (se xi zx ti : Int) (t : TxH)
instance : Inhabited DlH := ⟨⟨0, 0, 0, 0, default⟩⟩
structure DlT where
  (se xi zx ti : Int) (t : TxT)
instance : Inhabited DlT := ⟨⟨0, 0, 0, 0, default⟩⟩
@[reducible] def dlV (h : DlH) : Value := .agg #[.int .i64 h.se, .int .i32 h.xi, .int .i64 h.zx, .int .i64 h.ti, .int .i32 h.t.n.ty, .string h.t.n.path, slV h.t.d, slV h.t.a, .int .i64 h.t.n.ow, .int .i32 h.t.n.ve, .int .i32 h.t.n.cr, .bool h.t.n.qh, .int .i64 h.t.n.qc, .int .i64 h.t.n.qb, .int .i64 h.t.n.si, .int .i32 h.t.n.st, slV h.t.i, slV h.t.p, .int .i32 h.t.n.co, slV h.t.s]
@[reducible] def encDl (h : DlH) : List Value := [.int .i64 h.se, .int .i32 h.xi, .int .i64 h.zx, .int .i64 h.ti] ++ encTx h.t
def DlAt (w : World) (R : Nat → Prop) (h : DlH) (d : DlT) : Prop := (d.se = h.se ∧ d.xi = h.xi ∧ d.zx = h.zx ∧ d.ti = h.ti) ∧ TxAt w R h.t d.t
/-- how great things are: the numbers fit, nothing is longer than m -/
def in32 (x : Int) : Prop := -2147483648 ≤ x ∧ x ≤ 2147483647
def in64 (x : Int) : Prop := -9223372036854775808 ≤ x ∧ x ≤ 9223372036854775807
def TxSm (m : Nat) (v : TxF) (k : Nat) : Prop :=
  (in32 v.n.ty ∧ in64 v.n.ow ∧ in32 v.n.ve ∧ in32 v.n.cr ∧ in64 v.n.qc ∧ in64 v.n.qb ∧ in64 v.n.si ∧ in32 v.n.st ∧ in32 v.n.co) ∧ v.n.path.size ≤ m ∧ v.data.length ≤ m ∧ v.acl.length ≤ m ∧ v.ids.length ≤ m ∧ v.paths.length ≤ m ∧ k ≤ m ∧
  (∀ j, j < v.acl.length → in32 v.acl[j]!.1 ∧ v.acl[j]!.2.1.size ≤ m ∧ v.acl[j]!.2.2.size ≤ m) ∧ (∀ j, j < v.ids.length → v.ids[j]!.1.size ≤ m ∧ v.ids[j]!.2.size ≤ m) ∧ (∀ j, j < v.paths.length → v.paths[j]!.size ≤ m)
abbrev TxOk (m : Nat) (t : TxT) : Prop := TrAll (TxSm m) t
theorem TxSm.mono {m m' : Nat} (hm : m ≤ m') {v : TxF} {k : Nat} (h : TxSm m v k) : TxSm m' v k := by
  obtain ⟨h0, h1, h2, h3, h4, h5, h6, h7, h8, h9⟩ := h
  exact ⟨h0, by omega, by omega, by omega, by omega, by omega, by omega, fun j hj => ⟨(h7 j hj).1, by have := (h7 j hj).2; omega, by have := (h7 j hj).2; omega⟩, fun j hj => ⟨by have := h8 j hj; omega, by have := h8 j hj; omega⟩, fun j hj => by have := h9 j hj; omega⟩
def DlSm (m : Nat) (d : DlT) : Prop := (in64 d.se ∧ in32 d.xi ∧ in64 d.zx ∧ in64 d.ti) ∧ TxOk m d.t

end Go.Proofs.YthpjneobmmpbnaaGreatDoor
