/- slices.Clone at several kinds of elements: a list in new memory. Condition: at most 2^20 elements. Results, replies, proposals: their cells, what is read of them. No program; no condition. slices.Clone at more kinds of elements. Condition: at most 2^20 elements. -/
import Derived.Test.YtbpmmmnphpkdjaaGreatDoorZAppG
import Derived.Test.YtbpmmmnphpkdjaaGreatDoorZTxnP
namespace Go.Proofs.YtbpmmmnphpkdjaaGreatDoor
open Go.RowKit Go.MapKept Go.Maps
structure ElemB {α : Type} [Inhabited α] (enc : α → List Value) (ST T : TypeId) (k bs : Nat) (z : Value) : Prop where
  under : Tryz.prog.underlying ST = some (.slice T)
  info : (Tryz.prog.info? T).map (fun i => (i.zero, i.size, i.bytes)) = some (some z, k, bs)
  size : z.cells.size = k
  len : ∀ x, (enc x).length = k
  pos : 0 < k
  one : ∀ x u, u ∈ enc x → u.oneCell' = true
  small : bs ≤ 1024
theorem wpList_appB {α : Type} [Inhabited α] {enc : α → List Value} {ST T : TypeId} {k bs : Nat} {z : Value} (E : ElemB enc ST T k bs z) {ops : Array Oper} {rest : List Oper} {o : Oper} {a : Act} {Q : Exit → Act → World → Prop} {w : World} (hgd : o.guard = none) (s x : Operand)
    (ho : o.op = .call { callee := .builtin .append, args := #[s, x], argTypes := #[ST, ST] }) (base : Nat) (A : Option Addr) (n c : Nat) (l : List α) (hs : a.eval s = .slice A n c)
    (hown : w.ownsRow base T k (.slice A n c) n (l.flatMap enc)) (A' : Option Addr) (m c' : Nat) (l' : List α) (hx : a.eval x = .slice A' m c') (hsl : Sl w w.heap.size enc k A' m l')
    (hA' : A' = none → m = 0 ∧ c' = 0) (hn : n + m ≤ 4194304) (hbase : base ≤ w.heap.size)
    (h : ∀ A2 c2 w', w'.ownsRow base T k (.slice A2 (n + m) c2) (n + m) ((l ++ l').flatMap enc) → Below base w w' → w.grownBy w' (Value.slice A n c).ownBlock → wpList Tryz.prog ops Q rest (a.put o.dst (.slice A2 (n + m) c2)) w') : wpList Tryz.prog ops Q (o :: rest) a w := by
  obtain ⟨i0, hi0, hz0, hz1, hz2⟩ := info_partsI E.info
  cases A' with
  | none =>
    obtain ⟨rfl, rfl⟩ := hA' rfl
    have hl0 : l' = [] := List.length_eq_zero_iff.1 hsl.len
    subst hl0
    refine wpList_append_own_none hgd s x _ ho base _ i0 k E.under hi0 _ n _ hs hown hx ?_
    have := h A c w (by rw [List.append_nil]; exact hown) (Below.refl _ _) ⟨rfl, rfl, rfl, Nat.le_refl _, fun _ _ _ => rfl⟩
    exact this
  | some a0 =>
    refine wpList_append_own w hgd s x _ ho base T i0 _ k bs E.under hi0 hz0 hz1 hz2 E.size E.pos _ n _ hs hown a0 m c' (l'.flatMap enc) hx (by rw [flat_len E.len, hsl.len]) (Sl.news E.len E.pos hsl) ?_ (by unfold maxLen; omega) ?_ hbase ?_
    · intro u hu
      obtain ⟨x, _, hx⟩ := List.mem_flatMap.1 hu
      exact E.one x u hx
    · have := Nat.mul_le_mul hn E.small
      omega
    · intro v' w' h1 h2 _
      obtain ⟨A2, c2, rfl⟩ := own_formI h1
      refine h A2 c2 w' ?_ (own_belowG hown h2 hbase) h2
      rw [List.flatMap_append]; exact h1
section
variable {α : Type} [Inhabited α] {w w' : World} {enc : α → List Value} {T : TypeId} {k base n c : Nat} {A : Option Addr} {l : List α}
/-- a row of one's own, as a list in blocks from base on -/
theorem own_slr (h : w.ownsRow base T k (.slice A n c) n (l.flatMap enc)) (hk : ∀ x, (enc x).length = k) (hl : l.length = n) : SlR w (fun b => base ≤ b) enc k (A, n, c) l := by
  rcases h.2 with ⟨e, e2⟩ | ⟨g, cap, cur, e1, h2, h3, h4, h5, h6, h7⟩
  · injection e with e e3 e4
    subst e e2 e4
    have : l = [] := List.length_eq_zero_iff.1 hl
    subst this
    exact SlR.nil_
  · injection e1 with e1 e3 e4
    subst e1 e4
    refine ⟨hl, ⟨fun h => by (cases h), h4⟩, fun hn => ⟨g, 0, rfl, h2, fun j hj i u hu => ?_⟩⟩
    have hf := flat_at hk l j i u (by have hj' : j < n := hj; omega) hu
    rw [← h7] at hf
    rw [Nat.zero_add]
    have hc : w.cell? ⟨g, j * k + i, none⟩ = cur[j * k + i]? := by simp [World.cell?, h3]
    rw [hc]
    rw [List.getElem?_take] at hf
    split at hf
    · simpa using hf
    · cases hf
end
/-- what a copy is: a list in a row that the call made -/
def CloneP {α : Type} (T : TypeId) (enc : α → List Value) (k n : Nat) (l : List α) (w : World) (e : Ending) (w' : World) : Prop := (∃ A c, e = .returned (.slice A n c) ∧ w'.ownsRow w.heap.size T k (.slice A n c) n (l.flatMap enc)) ∧ Below w.heap.size w w'

theorem elemBAcl : ElemB encAcl 42 246 3 40 (.agg #[.int .i32 0, .string ⟨#[]⟩, .string ⟨#[]⟩]) where
  under := Tryz.underlying42
  info := by kernel_rfl
  size := rfl
  len := fun _ => rfl
  pos := by decide
  one := fun x u hu => by
    simp [encAcl] at hu
    rcases hu with rfl | rfl | rfl <;> rfl
  small := by decide
theorem eqNilAcl (w : World) : (binOp .eql 42 (.slice none 0 0) (.slice none 0 0)).run Tryz.prog w = .ok (.bool true) w := by kernel_rfl
theorem eqSomeAcl (a : Addr) (n c : Nat) (w : World) : (binOp .eql 42 (.slice (some a) n c) (.slice none 0 0)).run Tryz.prog w = .ok (.bool false) w := by kernel_rfl
set_option maxRecDepth 100000 in
theorem cloneNilAcl (w : World) : Calls Tryz.prog 181 #[.slice none 0 0] w fun e w' => e = .returned (.slice none 0 0) ∧ w = w' := by
  have hq := eqNilAcl
  go_enter Tryz.func181, Tryz.ntmps181
  go_wp2_with fail
  go_ret
  exact ⟨rfl, rfl⟩
set_option maxRecDepth 100000 in
theorem cloneAcl_any (A : Option Addr) (n c : Nat) (l : List AclV) (w : World) (hz : Sl w w.heap.size encAcl 3 A n l) (hA : A = none → n = 0 ∧ c = 0) (hn : n ≤ 4194304) :
    Calls Tryz.prog 181 #[.slice A n c] w (CloneP 246 encAcl 3 n l w) := by
  cases A with
  | none =>
    obtain ⟨rfl, rfl⟩ := hA rfl
    have hl : l = [] := List.length_eq_zero_iff.1 hz.len
    subst hl
    refine (cloneNilAcl w).mono ?_
    rintro e w' ⟨rfl, rfl⟩
    exact ⟨⟨none, 0, rfl, World.ownsRow_nil _ _ _ _⟩, Below.refl _ _⟩
  | some a =>
    have hb0 : Below w.heap.size w (w.alloc (.cells #[] 246)) := (Below.refl _ w).alloc (Nat.le_refl _) _
    have HS := Lib.hid (hz.belowMore hb0 hb0.size)
    have HB := Lib.hid hb0
    have HOW := Lib.hid (own_empty (T := 246) (k := 3) w)
    have hq := eqSomeAcl a n c
    clear hz hA hb0
    go_enter Tryz.func181, Tryz.ntmps181
    go_wp2_with (at_builtin; refine wpList_appB elemBAcl rfl _ _ rfl w.heap.size (some ⟨w.heap.size, 0, none⟩) 0 0 [] ?hx HOW.out (some a) n c l ?hy HS.out (fun e => by cases e) (by omega) HB.out.size ?hk)
    (try case hx => rfl)
    (try case hy => rfl)
    case hk =>
      intro A2 c2 w2 hv2 hb2 _
      have HV2 := Lib.hid hv2; have HB2 := Lib.hid (HB.out.trans hb2)
      clear hv2 hb2
      go_wp2_with fail
      go_ret
      exact ⟨⟨A2, c2, by simp, by simpa using HV2.out⟩, HB2.out⟩
theorem elemBStr : ElemB encStr 48 9 1 16 (.string ⟨#[]⟩) where
  under := Tryz.underlying48
  info := by kernel_rfl
  size := rfl
  len := fun _ => rfl
  pos := by decide
  one := fun x u hu => by
    simp [encStr] at hu
    subst hu; rfl
  small := by decide
theorem eqNilStr (w : World) : (binOp .eql 48 (.slice none 0 0) (.slice none 0 0)).run Tryz.prog w = .ok (.bool true) w := by kernel_rfl
theorem eqSomeStr (a : Addr) (n c : Nat) (w : World) : (binOp .eql 48 (.slice (some a) n c) (.slice none 0 0)).run Tryz.prog w = .ok (.bool false) w := by kernel_rfl
set_option maxRecDepth 100000 in
theorem cloneNilStr (w : World) : Calls Tryz.prog 182 #[.slice none 0 0] w fun e w' => e = .returned (.slice none 0 0) ∧ w = w' := by
  have hq := eqNilStr
  go_enter Tryz.func182, Tryz.ntmps182
  go_wp2_with fail
  go_ret
  exact ⟨rfl, rfl⟩
set_option maxRecDepth 100000 in
theorem cloneStr_any (A : Option Addr) (n c : Nat) (l : List ByteArray) (w : World) (hz : Sl w w.heap.size encStr 1 A n l) (hA : A = none → n = 0 ∧ c = 0) (hn : n ≤ 4194304) :
    Calls Tryz.prog 182 #[.slice A n c] w (CloneP 9 encStr 1 n l w) := by
  cases A with
  | none =>
    obtain ⟨rfl, rfl⟩ := hA rfl
    have hl : l = [] := List.length_eq_zero_iff.1 hz.len
    subst hl
    refine (cloneNilStr w).mono ?_
    rintro e w' ⟨rfl, rfl⟩
    exact ⟨⟨none, 0, rfl, World.ownsRow_nil _ _ _ _⟩, Below.refl _ _⟩
  | some a =>
    have hb0 : Below w.heap.size w (w.alloc (.cells #[] 9)) := (Below.refl _ w).alloc (Nat.le_refl _) _
    have HS := Lib.hid (hz.belowMore hb0 hb0.size)
    have HB := Lib.hid hb0
    have HOW := Lib.hid (own_empty (T := 9) (k := 1) w)
    have hq := eqSomeStr a n c
    clear hz hA hb0
    go_enter Tryz.func182, Tryz.ntmps182
    go_wp2_with (at_builtin; refine wpList_appB elemBStr rfl _ _ rfl w.heap.size (some ⟨w.heap.size, 0, none⟩) 0 0 [] ?hx HOW.out (some a) n c l ?hy HS.out (fun e => by cases e) (by omega) HB.out.size ?hk)
    (try case hx => rfl)
    (try case hy => rfl)
    case hk =>
      intro A2 c2 w2 hv2 hb2 _
      have HV2 := Lib.hid hv2; have HB2 := Lib.hid (HB.out.trans hb2)
      clear hv2 hb2
      go_wp2_with fail
      go_ret
      exact ⟨⟨A2, c2, by simp, by simpa using HV2.out⟩, HB2.out⟩
theorem elemBByte : ElemB enc8 41 5 1 1 (.int .u8 0) where
  under := Tryz.underlying41
  info := by kernel_rfl
  size := rfl
  len := fun _ => rfl
  pos := by decide
  one := fun x u hu => by
    simp [enc8] at hu
    subst hu; rfl
  small := by decide
theorem eqNilByte (w : World) : (binOp .eql 41 (.slice none 0 0) (.slice none 0 0)).run Tryz.prog w = .ok (.bool true) w := by kernel_rfl
theorem eqSomeByte (a : Addr) (n c : Nat) (w : World) : (binOp .eql 41 (.slice (some a) n c) (.slice none 0 0)).run Tryz.prog w = .ok (.bool false) w := by kernel_rfl
set_option maxRecDepth 100000 in
theorem cloneNilByte (w : World) : Calls Tryz.prog 180 #[.slice none 0 0] w fun e w' => e = .returned (.slice none 0 0) ∧ w = w' := by
  have hq := eqNilByte
  go_enter Tryz.func180, Tryz.ntmps180
  go_wp2_with fail
  go_ret
  exact ⟨rfl, rfl⟩
set_option maxRecDepth 100000 in
theorem cloneByte_any (A : Option Addr) (n c : Nat) (l : List UInt8) (w : World) (hz : Sl w w.heap.size enc8 1 A n l) (hA : A = none → n = 0 ∧ c = 0) (hn : n ≤ 4194304) :
    Calls Tryz.prog 180 #[.slice A n c] w (CloneP 5 enc8 1 n l w) := by
  cases A with
  | none =>
    obtain ⟨rfl, rfl⟩ := hA rfl
    have hl : l = [] := List.length_eq_zero_iff.1 hz.len
    subst hl
    refine (cloneNilByte w).mono ?_
    rintro e w' ⟨rfl, rfl⟩
    exact ⟨⟨none, 0, rfl, World.ownsRow_nil _ _ _ _⟩, Below.refl _ _⟩
  | some a =>
    have hb0 : Below w.heap.size w (w.alloc (.cells #[] 5)) := (Below.refl _ w).alloc (Nat.le_refl _) _
    have HS := Lib.hid (hz.belowMore hb0 hb0.size)
    have HB := Lib.hid hb0
    have HOW := Lib.hid (own_empty (T := 5) (k := 1) w)
    have hq := eqSomeByte a n c
    clear hz hA hb0
    go_enter Tryz.func180, Tryz.ntmps180
    go_wp2_with (at_builtin; refine wpList_appB elemBByte rfl _ _ rfl w.heap.size (some ⟨w.heap.size, 0, none⟩) 0 0 [] ?hx HOW.out (some a) n c l ?hy HS.out (fun e => by cases e) (by omega) HB.out.size ?hk)
    (try case hx => rfl)
    (try case hy => rfl)
    case hk =>
      intro A2 c2 w2 hv2 hb2 _
      have HV2 := Lib.hid hv2; have HB2 := Lib.hid (HB.out.trans hb2)
      clear hv2 hb2
      go_wp2_with fail
      go_ret
      exact ⟨⟨A2, c2, by simp, by simpa using HV2.out⟩, HB2.out⟩
theorem elemBTx : ElemB encTx 50 52 16 208 (.agg #[.int .i32 0, .string ⟨#[]⟩, .slice none 0 0, .slice none 0 0, .int .i64 0, .int .i32 0, .int .i32 0, .bool false, .int .i64 0, .int .i64 0, .int .i64 0, .int .i32 0, .slice none 0 0, .slice none 0 0, .int .i32 0, .slice none 0 0]) where
  under := Tryz.underlying50
  info := by kernel_rfl
  size := rfl
  len := fun _ => rfl
  pos := by decide
  one := fun x u hu => by
    simp [encTx] at hu
    rcases hu with rfl | rfl | rfl | rfl | rfl | rfl | rfl | rfl | rfl | rfl | rfl | rfl | rfl | rfl | rfl | rfl <;> rfl
  small := by decide
theorem eqNilTx (w : World) : (binOp .eql 50 (.slice none 0 0) (.slice none 0 0)).run Tryz.prog w = .ok (.bool true) w := by kernel_rfl
theorem eqSomeTx (a : Addr) (n c : Nat) (w : World) : (binOp .eql 50 (.slice (some a) n c) (.slice none 0 0)).run Tryz.prog w = .ok (.bool false) w := by kernel_rfl
set_option maxRecDepth 100000 in
theorem cloneNilTx (w : World) : Calls Tryz.prog 183 #[.slice none 0 0] w fun e w' => e = .returned (.slice none 0 0) ∧ w = w' := by
  have hq := eqNilTx
  go_enter Tryz.func183, Tryz.ntmps183
  go_wp2_with fail
  go_ret
  exact ⟨rfl, rfl⟩
set_option maxRecDepth 100000 in
theorem cloneTx_any (A : Option Addr) (n c : Nat) (l : List TxH) (w : World) (hz : Sl w w.heap.size encTx 16 A n l) (hA : A = none → n = 0 ∧ c = 0) (hn : n ≤ 4194304) :
    Calls Tryz.prog 183 #[.slice A n c] w (CloneP 52 encTx 16 n l w) := by
  cases A with
  | none =>
    obtain ⟨rfl, rfl⟩ := hA rfl
    have hl : l = [] := List.length_eq_zero_iff.1 hz.len
    subst hl
    refine (cloneNilTx w).mono ?_
    rintro e w' ⟨rfl, rfl⟩
    exact ⟨⟨none, 0, rfl, World.ownsRow_nil _ _ _ _⟩, Below.refl _ _⟩
  | some a =>
    have hb0 : Below w.heap.size w (w.alloc (.cells #[] 52)) := (Below.refl _ w).alloc (Nat.le_refl _) _
    have HS := Lib.hid (hz.belowMore hb0 hb0.size)
    have HB := Lib.hid hb0
    have HOW := Lib.hid (own_empty (T := 52) (k := 16) w)
    have hq := eqSomeTx a n c
    clear hz hA hb0
    go_enter Tryz.func183, Tryz.ntmps183
    go_wp2_with (at_builtin; refine wpList_appB elemBTx rfl _ _ rfl w.heap.size (some ⟨w.heap.size, 0, none⟩) 0 0 [] ?hx HOW.out (some a) n c l ?hy HS.out (fun e => by cases e) (by omega) HB.out.size ?hk)
    (try case hx => rfl)
    (try case hy => rfl)
    case hk =>
      intro A2 c2 w2 hv2 hb2 _
      have HV2 := Lib.hid hv2; have HB2 := Lib.hid (HB.out.trans hb2)
      clear hv2 hb2
      go_wp2_with fail
      go_ret
      exact ⟨⟨A2, c2, by simp, by simpa using HV2.out⟩, HB2.out⟩
end Go.Proofs.YtbpmmmnphpkdjaaGreatDoor
namespace Go.Proofs.YtbpmmmnphpkdjaaGreatDoor
open Go.RowKit
/-- a Stat's numbers -/
structure StN where
  (a b c d e f g h i j k : Int)
instance : Inhabited StN := ⟨⟨0, 0, 0, 0, 0, 0, 0, 0, 0, 0, 0⟩⟩
/-- what of a result lies outside its lists -/
structure RsN where
  (ty co : Int) (path : ByteArray) (q : StN) (ct si st : Int)
instance : Inhabited RsN := ⟨⟨0, 0, ByteArray.empty, default, 0, 0, 0⟩⟩
structure RsH where
  (n : RsN) (d a m i s : SlC)
instance : Inhabited RsH := ⟨⟨default, (none, 0, 0), (none, 0, 0), (none, 0, 0), (none, 0, 0), (none, 0, 0)⟩⟩
structure RsF where
  (n : RsN) (data : Bs) (acl : List AclV) (names : List ByteArray) (ids : List IdV)
instance : Inhabited RsF := ⟨⟨default, [], [], [], []⟩⟩
abbrev RsT := Tr RsF
@[reducible] def encRs (h : RsH) : List Value := [.int .i32 h.n.ty, .int .i32 h.n.co, .string h.n.path, .int .i64 h.n.q.a, .int .i64 h.n.q.b, .int .i64 h.n.q.c, .int .i64 h.n.q.d, .int .i32 h.n.q.e, .int .i32 h.n.q.f, .int .i32 h.n.q.g, .int .i64 h.n.q.h, .int .i32 h.n.q.i, .int .i32 h.n.q.j, .int .i64 h.n.q.k, slV h.d, slV h.a, slV h.m, .int .i32 h.n.ct, .int .i64 h.n.si, .int .i32 h.n.st, slV h.i, slV h.s]
@[reducible] def rsV (h : RsH) : Value := .agg #[.int .i32 h.n.ty, .int .i32 h.n.co, .string h.n.path, .int .i64 h.n.q.a, .int .i64 h.n.q.b, .int .i64 h.n.q.c, .int .i64 h.n.q.d, .int .i32 h.n.q.e, .int .i32 h.n.q.f, .int .i32 h.n.q.g, .int .i64 h.n.q.h, .int .i32 h.n.q.i, .int .i32 h.n.q.j, .int .i64 h.n.q.k, slV h.d, slV h.a, slV h.m, .int .i32 h.n.ct, .int .i64 h.n.si, .int .i32 h.n.st, slV h.i, slV h.s]
def locRs (w : World) (R : Nat → Prop) (h : RsH) (v : RsF) : Prop :=
  v.n = h.n ∧ SlR w R enc8 1 h.d v.data ∧ SlR w R encAcl 3 h.a v.acl ∧ SlR w R encStr 1 h.m v.names ∧ SlR w R encId 2 h.i v.ids
@[reducible] def kRs : Kd RsH RsF := ⟨encRs, 22, RsH.s, locRs⟩
abbrev RsAt := TrAt kRs
theorem locRs.keep {w w' : World} {R : Nat → Prop} (hk : ∀ p : Addr, R p.block → w'.cell? p = w.cell? p) {h : RsH} {v : RsF} (H : locRs w R h v) : locRs w' R h v :=
  ⟨H.1, H.2.1.keep hk, H.2.2.1.keep hk, H.2.2.2.1.keep hk, H.2.2.2.2.keep hk⟩
theorem RsAt.keep {w w' : World} {R : Nat → Prop} {h : RsH} {t : RsT} (H : RsAt w R h t) (hk : ∀ p : Addr, R p.block → w'.cell? p = w.cell? p) : RsAt w' R h t := TrAt.keep H hk fun _ _ l => locRs.keep hk l
theorem RsAt.more {w : World} {R R' : Nat → Prop} {h : RsH} {t : RsT} (H : RsAt w R h t) (hR : ∀ b, b < w.heap.size → R b → R' b) : RsAt w R' h t :=
  TrAt.more H hR (fun _ => by simp [encRs]) fun _ _ l => ⟨l.1, l.2.1.more hR (fun _ => by simp [enc8]), l.2.2.1.more hR (fun _ => by simp [encAcl]), l.2.2.2.1.more hR (fun _ => by simp [encStr]), l.2.2.2.2.more hR (fun _ => by simp [encId])⟩
structure RpH where
  (xi zx co : Int) (r : RsH)
instance : Inhabited RpH := ⟨⟨0, 0, 0, default⟩⟩
structure RpT where
  (xi zx co : Int) (r : RsT)
instance : Inhabited RpT := ⟨⟨0, 0, 0, default⟩⟩
@[reducible] def encRp (h : RpH) : List Value := [.int .i32 h.xi, .int .i64 h.zx, .int .i32 h.co] ++ encRs h.r
def RpAt (w : World) (R : Nat → Prop) (h : RpH) (d : RpT) : Prop := (d.xi = h.xi ∧ d.zx = h.zx ∧ d.co = h.co) ∧ RsAt w R h.r d.r
def RsSm (m : Nat) (v : RsF) (k : Nat) : Prop :=
  (in32 v.n.ty ∧ in32 v.n.co ∧ in32 v.n.ct ∧ in64 v.n.si ∧ in32 v.n.st) ∧ v.n.path.size ≤ m ∧ v.data.length ≤ m ∧ v.acl.length ≤ m ∧ v.names.length ≤ m ∧ v.ids.length ≤ m ∧ k ≤ m ∧
  (∀ j, j < v.acl.length → in32 v.acl[j]!.1 ∧ v.acl[j]!.2.1.size ≤ m ∧ v.acl[j]!.2.2.size ≤ m) ∧ (∀ j, j < v.ids.length → v.ids[j]!.1.size ≤ m ∧ v.ids[j]!.2.size ≤ m) ∧ (∀ j, j < v.names.length → v.names[j]!.size ≤ m)
abbrev RsOk (m : Nat) (t : RsT) : Prop := TrAll (RsSm m) t
theorem RsSm.mono {m m' : Nat} (hm : m ≤ m') {v : RsF} {k : Nat} (h : RsSm m v k) : RsSm m' v k := by
  obtain ⟨h0, h1, h2, h3, h4, h5, h6, h7, h8, h9⟩ := h
  exact ⟨h0, by omega, by omega, by omega, by omega, by omega, by omega, fun j hj => ⟨(h7 j hj).1, by have := (h7 j hj).2; omega, by have := (h7 j hj).2; omega⟩, fun j hj => ⟨by have := h8 j hj; omega, by have := h8 j hj; omega⟩, fun j hj => by have := h9 j hj; omega⟩
def RpSm (m : Nat) (d : RpT) : Prop := (in32 d.xi ∧ in64 d.zx ∧ in32 d.co) ∧ RsOk m d.r
/-- a proposal: a delta and a reply -/
structure PrH where
  (d : DlH) (r : RpH)
instance : Inhabited PrH := ⟨⟨default, default⟩⟩
structure PrT where
  (d : DlT) (r : RpT)
instance : Inhabited PrT := ⟨⟨default, default⟩⟩
def encPr (p : PrH) : List Value := encDl p.d ++ encRp p.r
def PrAt (w : World) (R : Nat → Prop) (h : PrH) (p : PrT) : Prop := DlAt w R h.d p.d ∧ RpAt w R h.r p.r
theorem DlAt.keep {w w' : World} {R : Nat → Prop} {h : DlH} {t : DlT} (H : DlAt w R h t) (hk : ∀ p : Addr, R p.block → w'.cell? p = w.cell? p) : DlAt w' R h t := ⟨H.1, TxAt.keep H.2 hk⟩
theorem RpAt.keep {w w' : World} {R : Nat → Prop} {h : RpH} {t : RpT} (H : RpAt w R h t) (hk : ∀ p : Addr, R p.block → w'.cell? p = w.cell? p) : RpAt w' R h t := ⟨H.1, RsAt.keep H.2 hk⟩
theorem PrAt.keep {w w' : World} {R : Nat → Prop} {h : PrH} {t : PrT} (H : PrAt w R h t) (hk : ∀ p : Addr, R p.block → w'.cell? p = w.cell? p) : PrAt w' R h t := ⟨H.1.keep hk, H.2.keep hk⟩
end Go.Proofs.YtbpmmmnphpkdjaaGreatDoor
namespace Go.Proofs.YtbpmmmnphpkdjaaGreatDoor
open Go.RowKit Go.MapKept Go.Maps
theorem elemBByt2 : ElemB enc8 41 5 1 1 (.int .u8 0) where
  under := Tryz.underlying41
  info := by kernel_rfl
  size := rfl
  len := fun _ => rfl
  pos := by decide
  one := fun x u hu => by
    simp [enc8] at hu
    subst hu; rfl
  small := by decide
theorem eqNilByt2 (w : World) : (binOp .eql 41 (.slice none 0 0) (.slice none 0 0)).run Tryz.prog w = .ok (.bool true) w := by kernel_rfl
theorem eqSomeByt2 (a : Addr) (n c : Nat) (w : World) : (binOp .eql 41 (.slice (some a) n c) (.slice none 0 0)).run Tryz.prog w = .ok (.bool false) w := by kernel_rfl
set_option maxRecDepth 100000 in
theorem cloneNilByt2 (w : World) : Calls Tryz.prog 97 #[.slice none 0 0] w fun e w' => e = .returned (.slice none 0 0) ∧ w = w' := by
  have hq := eqNilByt2
  go_enter Tryz.func97, Tryz.ntmps97
  go_wp2_with fail
  go_ret
  exact ⟨rfl, rfl⟩
set_option maxRecDepth 100000 in
theorem cloneByt2_any (A : Option Addr) (n c : Nat) (l : List UInt8) (w : World) (hz : Sl w w.heap.size enc8 1 A n l) (hA : A = none → n = 0 ∧ c = 0) (hn : n ≤ 4194304) :
    Calls Tryz.prog 97 #[.slice A n c] w (CloneP 5 enc8 1 n l w) := by
  cases A with
  | none =>
    obtain ⟨rfl, rfl⟩ := hA rfl
    have hl : l = [] := List.length_eq_zero_iff.1 hz.len
    subst hl
    refine (cloneNilByt2 w).mono ?_
    rintro e w' ⟨rfl, rfl⟩
    exact ⟨⟨none, 0, rfl, World.ownsRow_nil _ _ _ _⟩, Below.refl _ _⟩
  | some a =>
    have hb0 : Below w.heap.size w (w.alloc (.cells #[] 5)) := (Below.refl _ w).alloc (Nat.le_refl _) _
    have HS := Lib.hid (hz.belowMore hb0 hb0.size)
    have HB := Lib.hid hb0
    have HOW := Lib.hid (own_empty (T := 5) (k := 1) w)
    have hq := eqSomeByt2 a n c
    clear hz hA hb0
    go_enter Tryz.func97, Tryz.ntmps97
    go_wp2_with (at_builtin; refine wpList_appB elemBByt2 rfl _ _ rfl w.heap.size (some ⟨w.heap.size, 0, none⟩) 0 0 [] ?hx HOW.out (some a) n c l ?hy HS.out (fun e => by cases e) (by omega) HB.out.size ?hk)
    (try case hx => rfl)
    (try case hy => rfl)
    case hk =>
      intro A2 c2 w2 hv2 hb2 _
      have HV2 := Lib.hid hv2; have HB2 := Lib.hid (HB.out.trans hb2)
      clear hv2 hb2
      go_wp2_with fail
      go_ret
      exact ⟨⟨A2, c2, by simp, by simpa using HV2.out⟩, HB2.out⟩
theorem elemBRs : ElemB encRs 57 59 22 240 (.agg #[.int .i32 0, .int .i32 0, .string ⟨#[]⟩, .int .i64 0, .int .i64 0, .int .i64 0, .int .i64 0, .int .i32 0, .int .i32 0, .int .i32 0, .int .i64 0, .int .i32 0, .int .i32 0, .int .i64 0, .slice none 0 0, .slice none 0 0, .slice none 0 0, .int .i32 0, .int .i64 0, .int .i32 0, .slice none 0 0, .slice none 0 0]) where
  under := Tryz.underlying57
  info := by kernel_rfl
  size := rfl
  len := fun _ => rfl
  pos := by decide
  one := fun x u hu => by
    simp [encRs] at hu
    rcases hu with rfl | rfl | rfl | rfl | rfl | rfl | rfl | rfl | rfl | rfl | rfl | rfl | rfl | rfl | rfl | rfl | rfl | rfl | rfl | rfl | rfl | rfl <;> rfl
  small := by decide
theorem eqNilRs (w : World) : (binOp .eql 57 (.slice none 0 0) (.slice none 0 0)).run Tryz.prog w = .ok (.bool true) w := by kernel_rfl
theorem eqSomeRs (a : Addr) (n c : Nat) (w : World) : (binOp .eql 57 (.slice (some a) n c) (.slice none 0 0)).run Tryz.prog w = .ok (.bool false) w := by kernel_rfl
set_option maxRecDepth 100000 in
theorem cloneNilRs (w : World) : Calls Tryz.prog 184 #[.slice none 0 0] w fun e w' => e = .returned (.slice none 0 0) ∧ w = w' := by
  have hq := eqNilRs
  go_enter Tryz.func184, Tryz.ntmps184
  go_wp2_with fail
  go_ret
  exact ⟨rfl, rfl⟩
set_option maxRecDepth 100000 in
theorem cloneRs_any (A : Option Addr) (n c : Nat) (l : List RsH) (w : World) (hz : Sl w w.heap.size encRs 22 A n l) (hA : A = none → n = 0 ∧ c = 0) (hn : n ≤ 4194304) :
    Calls Tryz.prog 184 #[.slice A n c] w (CloneP 59 encRs 22 n l w) := by
  cases A with
  | none =>
    obtain ⟨rfl, rfl⟩ := hA rfl
    have hl : l = [] := List.length_eq_zero_iff.1 hz.len
    subst hl
    refine (cloneNilRs w).mono ?_
    rintro e w' ⟨rfl, rfl⟩
    exact ⟨⟨none, 0, rfl, World.ownsRow_nil _ _ _ _⟩, Below.refl _ _⟩
  | some a =>
    have hb0 : Below w.heap.size w (w.alloc (.cells #[] 59)) := (Below.refl _ w).alloc (Nat.le_refl _) _
    have HS := Lib.hid (hz.belowMore hb0 hb0.size)
    have HB := Lib.hid hb0
    have HOW := Lib.hid (own_empty (T := 59) (k := 22) w)
    have hq := eqSomeRs a n c
    clear hz hA hb0
    go_enter Tryz.func184, Tryz.ntmps184
    go_wp2_with (at_builtin; refine wpList_appB elemBRs rfl _ _ rfl w.heap.size (some ⟨w.heap.size, 0, none⟩) 0 0 [] ?hx HOW.out (some a) n c l ?hy HS.out (fun e => by cases e) (by omega) HB.out.size ?hk)
    (try case hx => rfl)
    (try case hy => rfl)
    case hk =>
      intro A2 c2 w2 hv2 hb2 _
      have HV2 := Lib.hid hv2; have HB2 := Lib.hid (HB.out.trans hb2)
      clear hv2 hb2
      go_wp2_with fail
      go_ret
      exact ⟨⟨A2, c2, by simp, by simpa using HV2.out⟩, HB2.out⟩
end Go.Proofs.YtbpmmmnphpkdjaaGreatDoor
