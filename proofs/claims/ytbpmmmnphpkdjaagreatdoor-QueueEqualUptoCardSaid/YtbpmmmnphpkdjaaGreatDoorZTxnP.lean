/- Words for values that lie in memory as trees: cells, lists, and a list of values of the same kind below. What such a value reads as, and that it goes on reading so. No program; no condition. Layer 2 by definition: numbers as bytes, and what is read off bytes. No program. Transactions and deltas: their cells, what is read of them. No program; no condition. -/
import Derived.Test.YtbpmmmnphpkdjaaGreatDoorZSl
import Derived.Lib.ValidU
import Derived.Test.YtbpmmmnphpkdjaaGreatDoorZAclB
namespace Go.Proofs.YtbpmmmnphpkdjaaGreatDoor
open Go.RowKit

/-- a slice's header: where, how many, how many may be -/
abbrev SlC := Option Addr × Nat × Nat
def hdOk (h : SlC) : Prop := (h.1 = none → h.2.1 = 0 ∧ h.2.2 = 0) ∧ h.2.1 ≤ h.2.2
@[reducible] def slV (h : SlC) : Value := .slice h.1 h.2.1 h.2.2
/-- the slice of header h holds the elements zs, k cells each, in a block of R -/
def SlR {α : Type} [Inhabited α] (w : World) (R : Nat → Prop) (enc : α → List Value) (k : Nat) (h : SlC) (zs : List α) : Prop :=
  zs.length = h.2.1 ∧ hdOk h ∧ (0 < h.2.1 → ∃ b off, h.1 = some ⟨b, off, none⟩ ∧ R b ∧ ∀ j, j < h.2.1 → ∀ i u, (enc zs[j]!)[i]? = some u → w.cell? ⟨b, off + j * k + i, none⟩ = some u)
section
variable {α : Type} [Inhabited α] {w w' : World} {R R' : Nat → Prop} {k : Nat} {enc : α → List Value} {h : SlC} {zs : List α}
theorem SlR.len (H : SlR w R enc k h zs) : zs.length = h.2.1 := H.1
theorem SlR.hd (H : SlR w R enc k h zs) : hdOk h := H.2.1
theorem SlR.keep (H : SlR w R enc k h zs) (hk : ∀ p : Addr, R p.block → w'.cell? p = w.cell? p) : SlR w' R enc k h zs :=
  ⟨H.1, H.2.1, fun hn => by
    obtain ⟨b, off, e, hb, hc⟩ := H.2.2 hn
    exact ⟨b, off, e, hb, fun j hj i u hu => (hk _ hb).trans (hc j hj i u hu)⟩⟩
theorem SlR.more (H : SlR w R enc k h zs) (hR : ∀ b, b < w.heap.size → R b → R' b) (hk0 : ∀ x, 0 < (enc x).length) : SlR w R' enc k h zs :=
  ⟨H.1, H.2.1, fun hn => by
    obtain ⟨b, off, e, hb, hc⟩ := H.2.2 hn
    refine ⟨b, off, e, hR b ?_ hb, hc⟩
    have hx := hk0 zs[0]!
    have := hc 0 hn 0 _ (List.getElem?_eq_getElem hx)
    exact World.block_lt_of_cell? _ _ this⟩
theorem SlR.sl (H : SlR w R enc k h zs) (hk0 : ∀ x, 0 < (enc x).length) : Sl w w.heap.size enc k h.1 h.2.1 zs :=
  ⟨H.1, fun hn => by
    obtain ⟨b, off, e, hb, hc⟩ := H.2.2 hn
    refine ⟨b, off, e, ?_, hc⟩
    have hx := hk0 zs[0]!
    have := hc 0 hn 0 _ (List.getElem?_eq_getElem hx)
    exact World.block_lt_of_cell? _ _ this⟩
theorem SlR.of_sl {B : Nat} {A : Option Addr} {n c : Nat} (H : Sl w B enc k A n zs) (hh : hdOk (A, n, c)) : SlR w (· < B) enc k (A, n, c) zs := ⟨H.1, hh, H.2⟩
theorem SlR.nil_ : SlR w R enc k (none, 0, 0) ([] : List α) := ⟨rfl, ⟨fun _ => ⟨rfl, rfl⟩, Nat.le_refl _⟩, fun h => absurd h (by simp)⟩
end

/-- plain trees -/
inductive Tr (β : Type) where
  | mk : β → List (Tr β) → Tr β
instance {β : Type} [Inhabited β] : Inhabited (Tr β) := ⟨.mk default []⟩
def Tr.v {β : Type} : Tr β → β | .mk v _ => v
def Tr.subs {β : Type} : Tr β → List (Tr β) | .mk _ l => l
theorem Tr.eta {β : Type} (t : Tr β) : t = .mk t.v t.subs := by cases t; rfl
theorem Tr.ext_iff {β : Type} (s t : Tr β) : s = t ↔ s.v = t.v ∧ s.subs = t.subs := by
  constructor
  · intro e; rw [e]; exact ⟨rfl, rfl⟩
  · intro h; rw [Tr.eta s, Tr.eta t, h.1, h.2]
/-- how a kind of values lies in memory: α what the cells hold, β what is read of it but the values below -/
structure Kd (α β : Type) where
  enc : α → List Value
  k : Nat
  sub : α → SlC
  loc : World → (Nat → Prop) → α → β → Prop
inductive TrAt {α β : Type} [Inhabited β] (K : Kd α β) (w : World) (R : Nat → Prop) : α → Tr β → Prop
  | mk (h : α) (v : β) (subs : List (Tr β)) (H : Nat → α) (b off : Nat) (l : K.loc w R h v) (ls : subs.length = (K.sub h).2.1) (hs : hdOk (K.sub h))
      (at_ : 0 < (K.sub h).2.1 → (K.sub h).1 = some ⟨b, off, none⟩ ∧ R b)
      (cells : ∀ j, j < (K.sub h).2.1 → ∀ i u, (K.enc (H j))[i]? = some u → w.cell? ⟨b, off + j * K.k + i, none⟩ = some u)
      (sub : ∀ j, j < (K.sub h).2.1 → TrAt K w R (H j) subs[j]!) : TrAt K w R h (.mk v subs)
section
variable {α β : Type} [Inhabited β] {K : Kd α β} {w w' : World} {R R' : Nat → Prop} {h : α} {t : Tr β}
theorem TrAt.loc (H : TrAt K w R h t) : K.loc w R h t.v := by cases H; assumption
theorem TrAt.len (H : TrAt K w R h t) : t.subs.length = (K.sub h).2.1 := by cases H; assumption
theorem TrAt.hd (H : TrAt K w R h t) : hdOk (K.sub h) := by cases H; assumption
theorem TrAt.sub_at (H : TrAt K w R h t) {j : Nat} (hj : j < (K.sub h).2.1) : ∃ b off h', (K.sub h).1 = some ⟨b, off, none⟩ ∧ R b ∧ (∀ i u, (K.enc h')[i]? = some u → w.cell? ⟨b, off + j * K.k + i, none⟩ = some u) ∧ TrAt K w R h' t.subs[j]! := by
  cases H with
  | mk _ v subs H b off l ls hs at_ cells sub => exact ⟨b, off, H j, (at_ (by omega)).1, (at_ (by omega)).2, cells j hj, sub j hj⟩
/-- the headers below, all at once -/
theorem TrAt.subs_at [Inhabited α] (H : TrAt K w R h t) : ∃ L : List α, SlR w R K.enc K.k (K.sub h) L ∧ ∀ j, j < (K.sub h).2.1 → TrAt K w R L[j]! t.subs[j]! := by
  cases H with
  | mk _ v subs H b off l ls hs at_ cells sub =>
    have hget : ∀ j, j < (K.sub h).2.1 → ((List.range (K.sub h).2.1).map H)[j]! = H j := fun j hj => by rw [getElem!_pos _ _ (by simpa using hj)]; simp
    refine ⟨(List.range (K.sub h).2.1).map H, ⟨by simp, hs, fun hn => ⟨b, off, (at_ hn).1, (at_ hn).2, fun j hj i u hu => ?_⟩⟩, fun j hj => ?_⟩
    · rw [hget j hj] at hu; exact cells j hj i u hu
    · rw [hget j hj]; exact sub j hj
theorem TrAt.of_subs [Inhabited α] {v : β} {subs : List (Tr β)} {L : List α} (l : K.loc w R h v) (ls : subs.length = (K.sub h).2.1) (hL : SlR w R K.enc K.k (K.sub h) L) (hs : ∀ j, j < (K.sub h).2.1 → TrAt K w R L[j]! subs[j]!) : TrAt K w R h (.mk v subs) := by
  by_cases h0 : 0 < (K.sub h).2.1
  · obtain ⟨b, off, e, hb, hc⟩ := hL.2.2 h0
    exact .mk h v subs (fun j => L[j]!) b off l ls hL.2.1 (fun _ => ⟨e, hb⟩) hc hs
  · exact .mk h v subs (fun j => L[j]!) 0 0 l ls hL.2.1 (fun h1 => absurd h1 h0) (fun j hj => absurd hj (by omega)) (fun j hj => absurd hj (by omega))
theorem TrAt.keep (H : TrAt K w R h t) (hk : ∀ p : Addr, R p.block → w'.cell? p = w.cell? p) (hl : ∀ a b, K.loc w R a b → K.loc w' R a b) : TrAt K w' R h t := by
  induction H with
  | mk h v subs H b off l ls hs at_ cells _ ih => exact .mk h v subs H b off (hl _ _ l) ls hs at_ (fun j hj i u hu => (hk _ (at_ (by omega)).2).trans (cells j hj i u hu)) ih
theorem TrAt.more (H : TrAt K w R h t) (hR : ∀ b, b < w.heap.size → R b → R' b) (hk0 : ∀ x, 0 < (K.enc x).length) (hl : ∀ a b, K.loc w R a b → K.loc w R' a b) : TrAt K w R' h t := by
  induction H with
  | mk h v subs H b off l ls hs at_ cells _ ih =>
    refine .mk h v subs H b off (hl _ _ l) ls hs (fun h0 => ⟨(at_ h0).1, hR b ?_ (at_ h0).2⟩) cells ih
    exact World.block_lt_of_cell? _ _ (cells 0 h0 0 _ (List.getElem?_eq_getElem (hk0 _)))
end
/-- a plain law at a tree, by what holds of all below -/
theorem Tr.ind {β : Type} [Inhabited β] {P : Tr β → Prop} (h : ∀ v subs, (∀ j, j < subs.length → P subs[j]!) → P (.mk v subs)) : ∀ t, P t
  | .mk v subs => h v subs fun j hj => by
    rw [getElem!_pos subs j hj]
    exact Tr.ind h _
termination_by t => SizeOf.sizeOf t
decreasing_by
  have := List.sizeOf_lt_of_mem (List.getElem_mem hj)
  simp only [Tr.mk.sizeOf_spec]
  omega
/-- all of a tree has a property -/
inductive TrAll {β : Type} [Inhabited β] (P : β → Nat → Prop) : Tr β → Prop
  | mk (v : β) (subs : List (Tr β)) (h : P v subs.length) (hs : ∀ j, j < subs.length → TrAll P subs[j]!) : TrAll P (.mk v subs)
section
variable {β : Type} [Inhabited β] {P Q : β → Nat → Prop} {t : Tr β}
theorem TrAll.top (H : TrAll P t) : P t.v t.subs.length := by cases H; assumption
theorem TrAll.subAt (H : TrAll P t) {j : Nat} (hj : j < t.subs.length) : TrAll P t.subs[j]! := by
  cases H with
  | mk v subs h hs => exact hs j hj
theorem TrAll.mono (H : TrAll P t) (h : ∀ v n, P v n → Q v n) : TrAll Q t := by
  induction H with
  | mk v subs h0 _ ih => exact .mk v subs (h _ _ h0) ih
end
end Go.Proofs.YtbpmmmnphpkdjaaGreatDoor
namespace Go.Proofs.YtbpmmmnphpkdjaaGreatDoor
open Go
abbrev Bs := List UInt8
/-- a byte's cell -/
def enc8 (b : UInt8) : List Value := [.int .u8 (b.toNat : Int)]
/-- so many bytes of a number, the highest first -/
def beB (x : Nat) : Nat → Bs
  | 0 => []
  | n + 1 => UInt8.ofNat (x / 256 ^ n) :: beB x n
/-- the number of bytes, the highest first -/
def beN (l : Bs) : Nat := l.foldl (fun a b => a * 256 + b.toNat) 0
def i32N (x : Nat) : Int := if x < 2147483648 then (x : Int) else (x : Int) - 4294967296
def i64N (x : Nat) : Int := if x < 9223372036854775808 then (x : Int) else (x : Int) - 18446744073709551616
/-- what a reader answers: a value and the place behind it, or the place and the error -/
abbrev PR (α : Type) := Except (Nat × Int) (α × Nat)
def PR.then {α β : Type} (x : PR α) (f : α → Nat → PR β) : PR β := match x with | .ok (a, at') => f a at' | .error e => .error e
def takeP (l : Bs) (n : Nat) (p : Nat) : PR Bs := if l.length - p < n then .error (p, 20) else .ok ((l.drop p).take n, p + n)
def intP (l : Bs) (p : Nat) : PR Int := (takeP l 4 p).then fun b a => .ok (i32N (beN b), a)
def longP (l : Bs) (p : Nat) : PR Int := (takeP l 8 p).then fun b a => .ok (i64N (beN b), a)
def sizeP (l : Bs) (most : Nat) (p : Nat) : PR Nat := (intP l p).then fun n a => if n < 0 ∨ (most : Int) < n then .error (p, 22) else .ok (n.toNat, a)
def bytesP (l : Bs) (most : Nat) (p : Nat) : PR Bs := (sizeP l most p).then fun n a => if l.length - a < n then .error (p, 20) else .ok ((l.drop a).take n, a + n)
def textP (l : Bs) (most : Nat) (p : Nat) : PR Bs := (bytesP l most p).then fun b a => if Lib.validD b then .ok (b, a) else .error (p, 22)
def countP (l : Bs) (most least : Nat) (p : Nat) : PR Nat := (sizeP l most p).then fun n a => if 1 ≤ least ∧ (l.length - a) / least < n then .error (p, 20) else .ok (n, a)
/-- so many -/
def repP {α : Type} (f : Nat → PR α) : Nat → Nat → PR (List α)
  | 0, p => .ok ([], p)
  | n + 1, p => (f p).then fun x a => (repP f n a).then fun l b => .ok (x :: l, b)
def listP {α : Type} (l : Bs) (most least : Nat) (f : Nat → PR α) (p : Nat) : PR (List α) := (countP l most least p).then fun n a => repP f n a
theorem beB_len (x : Nat) : ∀ n, (beB x n).length = n
  | 0 => rfl
  | n + 1 => by rw [beB, List.length_cons, beB_len x n]
/-- a place within the bytes stays within -/
def PR.within {α : Type} (l : Bs) (x : PR α) : Prop := match x with | .ok (_, a) => a ≤ l.length | .error (a, e) => a ≤ l.length ∧ e ≠ 0
theorem PR.within.bind {α β : Type} {l : Bs} {x : PR α} {f : α → Nat → PR β} (h : x.within l) (hf : ∀ v a, x = .ok (v, a) → a ≤ l.length → (f v a).within l) : (x.then f).within l := by
  match x, h with
  | .ok (v, a), h => exact hf v a rfl h
  | .error (a, e), h => exact h
section
variable {l : Bs} {p : Nat}
theorem takeP_in (n : Nat) (hp : p ≤ l.length) : (takeP l n p).within l := by
  unfold takeP
  by_cases h : l.length - p < n
  · rw [if_pos h]; exact ⟨hp, by decide⟩
  · rw [if_neg h]; show p + n ≤ l.length; omega
theorem intP_in (hp : p ≤ l.length) : (intP l p).within l := (takeP_in 4 hp).bind fun _ _ _ h => h
theorem longP_in (hp : p ≤ l.length) : (longP l p).within l := (takeP_in 8 hp).bind fun _ _ _ h => h
theorem sizeP_in (m : Nat) (hp : p ≤ l.length) : (sizeP l m p).within l := (intP_in hp).bind fun n a _ h => by
  show PR.within l (if _ then _ else _)
  by_cases hc : n < 0 ∨ (m : Int) < n
  · rw [if_pos hc]; exact ⟨hp, by decide⟩
  · rw [if_neg hc]; exact h
theorem bytesP_in (m : Nat) (hp : p ≤ l.length) : (bytesP l m p).within l := (sizeP_in m hp).bind fun n a _ h => by
  show PR.within l (if _ then _ else _)
  by_cases hc : l.length - a < n
  · rw [if_pos hc]; exact ⟨hp, by decide⟩
  · rw [if_neg hc]; show a + n ≤ l.length; omega
theorem textP_in (m : Nat) (hp : p ≤ l.length) : (textP l m p).within l := (bytesP_in m hp).bind fun b a _ h => by
  show PR.within l (if _ then _ else _)
  by_cases hc : Lib.validD b = true
  · rw [if_pos hc]; exact h
  · rw [if_neg hc]; exact ⟨hp, by decide⟩
theorem countP_in (m k : Nat) (hp : p ≤ l.length) : (countP l m k p).within l := (sizeP_in m hp).bind fun n a _ h => by
  show PR.within l (if _ then _ else _)
  by_cases hc : 1 ≤ k ∧ (l.length - a) / k < n
  · rw [if_pos hc]; exact ⟨hp, by decide⟩
  · rw [if_neg hc]; exact h
theorem repP_in {α : Type} {f : Nat → PR α} (hf : ∀ p, p ≤ l.length → (f p).within l) : ∀ (n p : Nat), p ≤ l.length → (repP f n p).within l
  | 0, _, hp => hp
  | n + 1, p, hp => (hf p hp).bind fun _ a _ h => (repP_in hf n a h).bind fun _ _ _ h => h
theorem listP_in {α : Type} {f : Nat → PR α} (m k : Nat) (hf : ∀ p, p ≤ l.length → (f p).within l) (hp : p ≤ l.length) : (listP l m k f p).within l := (countP_in m k hp).bind fun n a _ h => repP_in hf n a h
end
/-- what has been read ahead of the rest -/
def PR.ahead {α : Type} (xs : List α) (x : PR (List α)) : PR (List α) := x.then fun l a => .ok (xs ++ l, a)
theorem repP_step {α : Type} {f : Nat → PR α} {n p a : Nat} {x : α} (xs : List α) (h : f p = .ok (x, a)) : (repP f (n + 1) p).ahead xs = (repP f n a).ahead (xs ++ [x]) := by
  have h1 : repP f (n + 1) p = (repP f n a).then fun l b => .ok (x :: l, b) := by
    show (f p).then _ = _
    rw [h]; rfl
  rw [h1]
  unfold PR.ahead
  generalize repP f n a = y
  match y with
  | .ok (l, b) => simp [PR.then]
  | .error e => rfl
theorem repP_fail {α : Type} {f : Nat → PR α} {n p : Nat} {e : Nat × Int} (xs : List α) (h : f p = .error e) : (repP f (n + 1) p).ahead xs = .error e := by
  have h1 : repP f (n + 1) p = .error e := by
    show (f p).then _ = _
    rw [h]; rfl
  rw [h1]; rfl
theorem ahead_nil {α : Type} (x : PR (List α)) : x.ahead [] = x := by
  match x with
  | .ok (l, b) => rfl
  | .error e => rfl
/-- an identity -/
def idP (l : Bs) (p : Nat) : PR (Bs × Bs) := (textP l 256 p).then fun s a => (textP l 256 a).then fun t b => .ok ((s, t), b)
theorem idP_in {l : Bs} {p : Nat} (hp : p ≤ l.length) : (idP l p).within l := (textP_in 256 hp).bind fun _ _ _ h => (textP_in 256 h).bind fun _ _ _ h => h
end Go.Proofs.YtbpmmmnphpkdjaaGreatDoor
namespace Go.Proofs.YtbpmmmnphpkdjaaGreatDoor
open Go.RowKit

instance : Inhabited ByteArray := ⟨ByteArray.empty⟩
/-- what of a transaction lies outside its lists -/
structure TxN where
  (ty : Int) (path : ByteArray) (ow ve cr : Int) (qh : Bool) (qc qb si st co : Int)
instance : Inhabited TxN := ⟨⟨0, ByteArray.empty, 0, 0, 0, false, 0, 0, 0, 0, 0⟩⟩
/-- its cells: the headers of data, entries, identities, paths, parts -/
structure TxH where
  (n : TxN) (d a i p s : SlC)
instance : Inhabited TxH := ⟨⟨default, (none, 0, 0), (none, 0, 0), (none, 0, 0), (none, 0, 0), (none, 0, 0)⟩⟩
/-- what is read of it but its parts -/
structure TxF where
  (n : TxN) (data : Bs) (acl : List AclV) (ids : List IdV) (paths : List ByteArray)
instance : Inhabited TxF := ⟨⟨default, [], [], [], []⟩⟩
abbrev TxT := Tr TxF
def encStr (s : ByteArray) : List Value := [.string s]
@[reducible] def encTx (h : TxH) : List Value := [.int .i32 h.n.ty, .string h.n.path, slV h.d, slV h.a, .int .i64 h.n.ow, .int .i32 h.n.ve, .int .i32 h.n.cr, .bool h.n.qh, .int .i64 h.n.qc, .int .i64 h.n.qb, .int .i64 h.n.si, .int .i32 h.n.st, slV h.i, slV h.p, .int .i32 h.n.co, slV h.s]
@[reducible] def txV (h : TxH) : Value := .agg #[.int .i32 h.n.ty, .string h.n.path, slV h.d, slV h.a, .int .i64 h.n.ow, .int .i32 h.n.ve, .int .i32 h.n.cr, .bool h.n.qh, .int .i64 h.n.qc, .int .i64 h.n.qb, .int .i64 h.n.si, .int .i32 h.n.st, slV h.i, slV h.p, .int .i32 h.n.co, slV h.s]
def locTx (w : World) (R : Nat → Prop) (h : TxH) (v : TxF) : Prop :=
  v.n = h.n ∧ SlR w R enc8 1 h.d v.data ∧ SlR w R encAcl 3 h.a v.acl ∧ SlR w R encId 2 h.i v.ids ∧ SlR w R encStr 1 h.p v.paths
@[reducible] def kTx : Kd TxH TxF := ⟨encTx, 16, TxH.s, locTx⟩
abbrev TxAt := TrAt kTx
theorem locTx.keep {w w' : World} {R : Nat → Prop} (hk : ∀ p : Addr, R p.block → w'.cell? p = w.cell? p) {h : TxH} {v : TxF} (H : locTx w R h v) : locTx w' R h v :=
  ⟨H.1, H.2.1.keep hk, H.2.2.1.keep hk, H.2.2.2.1.keep hk, H.2.2.2.2.keep hk⟩
theorem TxAt.keep {w w' : World} {R : Nat → Prop} {h : TxH} {t : TxT} (H : TxAt w R h t) (hk : ∀ p : Addr, R p.block → w'.cell? p = w.cell? p) : TxAt w' R h t := TrAt.keep H hk fun _ _ l => locTx.keep hk l
theorem TxAt.more {w : World} {R R' : Nat → Prop} {h : TxH} {t : TxT} (H : TxAt w R h t) (hR : ∀ b, b < w.heap.size → R b → R' b) : TxAt w R' h t :=
  TrAt.more H hR (fun _ => by simp [encTx]) fun _ _ l => ⟨l.1, l.2.1.more hR (fun _ => by simp [enc8]), l.2.2.1.more hR (fun _ => by simp [encAcl]), l.2.2.2.1.more hR (fun _ => by simp [encId]), l.2.2.2.2.more hR (fun _ => by simp [encStr])⟩
/-- a delta's cells -/
structure DlH where
  (se xi zx ti : Int) (t : TxH)
instance : Inhabited DlH := ⟨⟨0, 0, 0, 0, default⟩⟩
structure DlT where
  (se xi zx ti : Int) (t : TxT)
instance : Inhabited DlT := ⟨⟨0, 0, 0, 0, default⟩⟩
@[reducible] def dlV (h : DlH) : Value := .agg #[.int .i64 h.se, .int .i32 h.xi, .int .i64 h.zx, .int .i64 h.ti, .int .i32 h.t.n.ty, .string h.t.n.path, slV h.t.d, slV h.t.a, .int .i64 h.t.n.ow, .int .i32 h.t.n.ve, .int .i32 h.t.n.cr, .bool h.t.n.qh, .int .i64 h.t.n.qc, .int .i64 h.t.n.qb, .int .i64 h.t.n.si, .int .i32 h.t.n.st, slV h.t.i, slV h.t.p, .int .i32 h.t.n.co, slV h.t.s]
@[reducible] def encDl (h : DlH) : List Value := [.int .i64 h.se, .int .i32 h.xi, .int .i64 h.zx, .int .i64 h.ti] ++ encTx h.t
def DlAt (w : World) (R : Nat → Prop) (h : DlH) (d : DlT) : Prop := (d.se = h.se ∧ d.xi = h.xi ∧ d.zx = h.zx ∧ d.ti = h.ti) ∧ TxAt w R h.t d.t
/-- how great things are: the numbers fit, nothing is longer than m -/
def in32 (x : Int) : Prop := -2147483648 ≤ x ∧ x ≤ 2147483647
def in64 (x : Int) : Prop := -9223372036854775808 ≤ x ∧ x ≤ 9223372036854775807
def TxSm (m : Nat) (v : TxF) (k : Nat) : Prop :=
  (in32 v.n.ty ∧ in64 v.n.ow ∧ in32 v.n.ve ∧ in32 v.n.cr ∧ in64 v.n.qc ∧ in64 v.n.qb ∧ in64 v.n.si ∧ in32 v.n.st ∧ in32 v.n.co) ∧ v.n.path.size ≤ m ∧ v.data.length ≤ m ∧ v.acl.length ≤ m ∧ v.ids.length ≤ m ∧ v.paths.length ≤ m ∧ k ≤ m ∧
  (∀ j, j < v.acl.length → in32 v.acl[j]!.1 ∧ v.acl[j]!.2.1.size ≤ m ∧ v.acl[j]!.2.2.size ≤ m) ∧ (∀ j, j < v.ids.length → v.ids[j]!.1.size ≤ m ∧ v.ids[j]!.2.size ≤ m) ∧ (∀ j, j < v.paths.length → v.paths[j]!.size ≤ m)
abbrev TxOk (m : Nat) (t : TxT) : Prop := TrAll (TxSm m) t
theorem TxSm.mono {m m' : Nat} (hm : m ≤ m') {v : TxF} {k : Nat} (h : TxSm m v k) : TxSm m' v k := by
  obtain ⟨h0, h1, h2, h3, h4, h5, h6, h7, h8, h9⟩ := h
  exact ⟨h0, by omega, by omega, by omega, by omega, by omega, by omega, fun j hj => ⟨(h7 j hj).1, by have := (h7 j hj).2; omega, by have := (h7 j hj).2; omega⟩, fun j hj => ⟨by have := h8 j hj; omega, by have := h8 j hj; omega⟩, fun j hj => by have := h9 j hj; omega⟩
def DlSm (m : Nat) (d : DlT) : Prop := (in64 d.se ∧ in32 d.xi ∧ in64 d.zx ∧ in64 d.ti) ∧ TxOk m d.t

end Go.Proofs.YtbpmmmnphpkdjaaGreatDoor
