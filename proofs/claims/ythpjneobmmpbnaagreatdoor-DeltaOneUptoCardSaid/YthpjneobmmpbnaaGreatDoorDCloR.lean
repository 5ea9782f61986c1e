/- slices.Clone at several kinds of elements: a list in new memory. -/
import Derived.Test.YthpjneobmmpbnaaGreatDoorDJutW2
import Derived.Test.YthpjneobmmpbnaaGreatDoorDOpenS
import Derived.Test.YthpjneobmmpbnaaGreatDoorDRplP
import Derived.Test.YthpjneobmmpbnaaGreatDoorDPathW
namespace Go.Proofs.YthpjneobmmpbnaaGreatDoor
open Go.RowKit Go.MapKept Go.Maps
structure ElemB {α : Type} [Inhabited α] (enc : α → List Value) (ST T : TypeId) (k bs : Nat) (z : Value) : Prop where
  under : Tryz.prog.underlying ST = some (.slice T)
  info : (Tryz.prog.info? T).map (fun i => (i.zero, i.size, i.bytes)) = some (some z, k, bs)
  size : z.cells.size = k
  len : ∀ x, (enc x).length = k
  pos : 0 < k
  one : ∀ x u, u ∈ enc x → u.oneCell' = true
  small : bs ≤ 1024
theorem wpList_appB {α : Type} [Inhabited α] {enc : α → List Value} {ST T : TypeId} {k bs : Nat} {z : Value} (E : ElemB enc ST T k bs z) {ops : Array Oper} {rest : List Oper} {o : Oper} {a : Act} {Q : Exit → Act → World → Prop} {w : World} (hgd : o.guard = none) (s x : Operand)
    (ho : o.op = .call { callee := .builtin .append, args := #[s, x], argTypes := #[ST, ST] }) (base : Nat) (A : Option Addr) (n c : Nat) (l : List α) (hs : a.eval s = .slice A n c)
    (hown : w.ownsRow base T k (.slice A n c) n (l.flatMap enc)) (A' : Option Addr) (m c' : Nat) (l' : List α) (hx : a.eval x = .slice A' m c') (hsl : Sl w w.heap.size enc k A' m l')
    (hA' : A' = none → m = 0 ∧ c' = 0) (hn : n + m ≤ 4194304) (hbase : base ≤ w.heap.size)
    (h : ∀ A2 c2 w', w'.ownsRow base T k (.slice A2 (n + m) c2) (n + m) ((l ++ l').flatMap enc) → Below base w w' → w.grownBy w' (Value.slice A n c).ownBlock → wpList Tryz.prog ops Q rest (a.put o.dst (.slice A2 (n + m) c2)) w') : wpList Tryz.prog ops Q (o :: rest) a w := by
  obtain ⟨i0, hi0, hz0, hz1, hz2⟩ := info_partsI E.info
  cases A' with
  | none =>
    obtain ⟨rfl, rfl⟩ := hA' rfl
    have hl0 : l' = [] := List.length_eq_zero_iff.1 hsl.len
    subst hl0
    refine wpList_append_own_none hgd s x _ ho base _ i0 k E.under hi0 _ n _ hs hown hx ?_
    have := h A c w (by rw [List.append_nil]; exact hown) (Below.refl _ _) ⟨rfl, rfl, rfl, Nat.le_refl _, fun _ _ _ => rfl⟩
    exact this
  | some a0 =>
    refine wpList_append_own w hgd s x _ ho base T i0 _ k bs E.under hi0 hz0 hz1 hz2 E.size E.pos _ n _ hs hown a0 m c' (l'.flatMap enc) hx (by rw [flat_len E.len, hsl.len]) (Sl.news E.len E.pos hsl) ?_ (by unfold maxLen; omega) ?_ hbase ?_
    · intro u hu
      obtain ⟨x, _, hx⟩ := List.mem_flatMap.1 hu
      exact E.one x u hx
    · have := Nat.mul_le_mul hn E.small
      omega
    · intro v' w' h1 h2 _
      obtain ⟨A2, c2, rfl⟩ := own_formI h1
      refine h A2 c2 w' ?_ (own_belowG hown h2 hbase) h2
      rw [List.flatMap_append]; exact h1
section
variable {α : Type} [Inhabited α] {w w' : World} {enc : α → List Value} {T : TypeId} {k base n c : Nat} {A : Option Addr} {l : List α}
/-- a row of one's own, as a list in blocks from base on -/
theorem own_slr (h : w.ownsRow base T k (.slice A n c) n (l.flatMap enc)) (hk : ∀ x, (enc x).length = k) (hl : l.length = n) : SlR w (fun b => base ≤ b) enc k (A, n, c) l := by
  rcases h.2 with ⟨e, e2⟩ | ⟨g, cap, cur, e1, h2, h3, h4, h5, h6, h7⟩
  · injection e with e e3 e4
    subst e e2 e4
    have : l = [] := List.length_eq_zero_iff.1 hl
    subst this
    exact SlR.nil_
  · injection e1 with e1 e3 e4
    subst e1 e4
    refine ⟨hl, ⟨fun h => by (cases h), h4⟩, fun hn => ⟨g, 0, rfl, h2, fun j hj i u hu => ?_⟩⟩
    have hf := flat_at hk l j i u (by have hj' : j < n := hj; omega) hu
    rw [← h7] at hf
    rw [Nat.zero_add]
    have hc : w.cell? ⟨g, j * k + i, none⟩ = cur[j * k + i]? := by simp [World.cell?, h3]
    rw [hc]
    rw [List.getElem?_take] at hf
    split at hf
    · simpa using hf
    · cases hf
end
/-- what a copy is: a list in a row that the call made -/
def CloneP {α : Type} (T : TypeId) (enc : α → List Value) (k n : Nat) (l : List α) (w : World) (e : Ending) (w' : World) : Prop := (∃ A c, e = .returned (.slice A n c) ∧ w'.ownsRow w.heap.size T k (.slice A n c) n (l.flatMap enc)) ∧ Below w.heap.size w w'

theorem elemBAcl : ElemB encAcl 23 110 3 40 (.agg #[.int .i32 0, .string ⟨#[]⟩, .string ⟨#[]⟩]) where
  under := Tryz.underlying23
  info := by kernel_rfl
  size := rfl
  len := fun _ => rfl
  pos := by decide
  one := fun x u hu => by
    simp [encAcl] at hu
    rcases hu with rfl | rfl | rfl <;> rfl
  small := by decide
theorem eqNilAcl (w : World) : (binOp .eql 23 (.slice none 0 0) (.slice none 0 0)).run Tryz.prog w = .ok (.bool true) w := by kernel_rfl
theorem eqSomeAcl (a : Addr) (n c : Nat) (w : World) : (binOp .eql 23 (.slice (some a) n c) (.slice none 0 0)).run Tryz.prog w = .ok (.bool false) w := by kernel_rfl
set_option maxRecDepth 100000 in
theorem cloneNilAcl (w : World) : Calls Tryz.prog 101 #[.slice none 0 0] w fun e w' => e = .returned (.slice none 0 0) ∧ w = w' := by
  have hq := eqNilAcl
  go_enter Tryz.func101, Tryz.ntmps101
  go_wp2_with fail
  go_ret
  exact ⟨rfl, rfl⟩
set_option maxRecDepth 100000 in
theorem cloneAcl_any (A : Option Addr) (n c : Nat) (l : List AclV) (w : World) (hz : Sl w w.heap.size encAcl 3 A n l) (hA : A = none → n = 0 ∧ c = 0) (hn : n ≤ 4194304) :
    Calls Tryz.prog 101 #[.slice A n c] w (CloneP 110 encAcl 3 n l w) := by
  cases A with
  | none =>
    obtain ⟨rfl, rfl⟩ := hA rfl
    have hl : l = [] := List.length_eq_zero_iff.1 hz.len
    subst hl
    refine (cloneNilAcl w).mono ?_
    rintro e w' ⟨rfl, rfl⟩
    exact ⟨⟨none, 0, rfl, World.ownsRow_nil _ _ _ _⟩, Below.refl _ _⟩
  | some a =>
    have hb0 : Below w.heap.size w (w.alloc (.cells #[] 110)) := (Below.refl _ w).alloc (Nat.le_refl _) _
    have HS := Lib.hid (hz.belowMore hb0 hb0.size)
    have HB := Lib.hid hb0
    have HOW := Lib.hid (own_empty (T := 110) (k := 3) w)
    have hq := eqSomeAcl a n c
    clear hz hA hb0
    go_enter Tryz.func101, Tryz.ntmps101
    go_wp2_with (at_builtin; refine wpList_appB elemBAcl rfl _ _ rfl w.heap.size (some ⟨w.heap.size, 0, none⟩) 0 0 [] ?hx HOW.out (some a) n c l ?hy HS.out (fun e => by cases e) (by omega) HB.out.size ?hk)
    (try case hx => rfl)
    (try case hy => rfl)
    case hk =>
      intro A2 c2 w2 hv2 hb2 _
      have HV2 := Lib.hid hv2; have HB2 := Lib.hid (HB.out.trans hb2)
      clear hv2 hb2
      go_wp2_with fail
      go_ret
      exact ⟨⟨A2, c2, by simp, by simpa using HV2.out⟩, HB2.out⟩
theorem elemBStr : ElemB encStr 29 9 1 16 (.string ⟨#[]⟩) where
  under := Tryz.underlying29
  info := by kernel_rfl
  size := rfl
  len := fun _ => rfl
  pos := by decide
  one := fun x u hu => by
    simp [encStr] at hu
    subst hu; rfl
  small := by decide
theorem eqNilStr (w : World) : (binOp .eql 29 (.slice none 0 0) (.slice none 0 0)).run Tryz.prog w = .ok (.bool true) w := by kernel_rfl
theorem eqSomeStr (a : Addr) (n c : Nat) (w : World) : (binOp .eql 29 (.slice (some a) n c) (.slice none 0 0)).run Tryz.prog w = .ok (.bool false) w := by kernel_rfl
set_option maxRecDepth 100000 in
theorem cloneNilStr (w : World) : Calls Tryz.prog 103 #[.slice none 0 0] w fun e w' => e = .returned (.slice none 0 0) ∧ w = w' := by
  have hq := eqNilStr
  go_enter Tryz.func103, Tryz.ntmps103
  go_wp2_with fail
  go_ret
  exact ⟨rfl, rfl⟩
set_option maxRecDepth 100000 in
theorem cloneStr_any (A : Option Addr) (n c : Nat) (l : List ByteArray) (w : World) (hz : Sl w w.heap.size encStr 1 A n l) (hA : A = none → n = 0 ∧ c = 0) (hn : n ≤ 4194304) :
    Calls Tryz.prog 103 #[.slice A n c] w (CloneP 9 encStr 1 n l w) := by
  cases A with
  | none =>
    obtain ⟨rfl, rfl⟩ := hA rfl
    have hl : l = [] := List.length_eq_zero_iff.1 hz.len
    subst hl
    refine (cloneNilStr w).mono ?_
    rintro e w' ⟨rfl, rfl⟩
    exact ⟨⟨none, 0, rfl, World.ownsRow_nil _ _ _ _⟩, Below.refl _ _⟩
  | some a =>
    have hb0 : Below w.heap.size w (w.alloc (.cells #[] 9)) := (Below.refl _ w).alloc (Nat.le_refl _) _
    have HS := Lib.hid (hz.belowMore hb0 hb0.size)
    have HB := Lib.hid hb0
    have HOW := Lib.hid (own_empty (T := 9) (k := 1) w)
    have hq := eqSomeStr a n c
    clear hz hA hb0
    go_enter Tryz.func103, Tryz.ntmps103
    go_wp2_with (at_builtin; refine wpList_appB elemBStr rfl _ _ rfl w.heap.size (some ⟨w.heap.size, 0, none⟩) 0 0 [] ?hx HOW.out (some a) n c l ?hy HS.out (fun e => by cases e) (by omega) HB.out.size ?hk)
    (try case hx => rfl)
    (try case hy => rfl)
    case hk =>
      intro A2 c2 w2 hv2 hb2 _
      have HV2 := Lib.hid hv2; have HB2 := Lib.hid (HB.out.trans hb2)
      clear hv2 hb2
      go_wp2_with fail
      go_ret
      exact ⟨⟨A2, c2, by simp, by simpa using HV2.out⟩, HB2.out⟩
theorem elemBByte : ElemB enc8 22 5 1 1 (.int .u8 0) where
  under := Tryz.underlying22
  info := by kernel_rfl
  size := rfl
  len := fun _ => rfl
  pos := by decide
  one := fun x u hu => by
    simp [enc8] at hu
    subst hu; rfl
  small := by decide
theorem eqNilByte (w : World) : (binOp .eql 22 (.slice none 0 0) (.slice none 0 0)).run Tryz.prog w = .ok (.bool true) w := by kernel_rfl
theorem eqSomeByte (a : Addr) (n c : Nat) (w : World) : (binOp .eql 22 (.slice (some a) n c) (.slice none 0 0)).run Tryz.prog w = .ok (.bool false) w := by kernel_rfl
set_option maxRecDepth 100000 in
theorem cloneNilByte (w : World) : Calls Tryz.prog 100 #[.slice none 0 0] w fun e w' => e = .returned (.slice none 0 0) ∧ w = w' := by
  have hq := eqNilByte
  go_enter Tryz.func100, Tryz.ntmps100
  go_wp2_with fail
  go_ret
  exact ⟨rfl, rfl⟩
set_option maxRecDepth 100000 in
theorem cloneByte_any (A : Option Addr) (n c : Nat) (l : List UInt8) (w : World) (hz : Sl w w.heap.size enc8 1 A n l) (hA : A = none → n = 0 ∧ c = 0) (hn : n ≤ 4194304) :
    Calls Tryz.prog 100 #[.slice A n c] w (CloneP 5 enc8 1 n l w) := by
  cases A with
  | none =>
    obtain ⟨rfl, rfl⟩ := hA rfl
    have hl : l = [] := List.length_eq_zero_iff.1 hz.len
    subst hl
    refine (cloneNilByte w).mono ?_
    rintro e w' ⟨rfl, rfl⟩
    exact ⟨⟨none, 0, rfl, World.ownsRow_nil _ _ _ _⟩, Below.refl _ _⟩
  | some a =>
    have hb0 : Below w.heap.size w (w.alloc (.cells #[] 5)) := (Below.refl _ w).alloc (Nat.le_refl _) _
    have HS := Lib.hid (hz.belowMore hb0 hb0.size)
    have HB := Lib.hid hb0
    have HOW := Lib.hid (own_empty (T := 5) (k := 1) w)
    have hq := eqSomeByte a n c
    clear hz hA hb0
    go_enter Tryz.func100, Tryz.ntmps100
    go_wp2_with (at_builtin; refine wpList_appB elemBByte rfl _ _ rfl w.heap.size (some ⟨w.heap.size, 0, none⟩) 0 0 [] ?hx HOW.out (some a) n c l ?hy HS.out (fun e => by cases e) (by omega) HB.out.size ?hk)
    (try case hx => rfl)
    (try case hy => rfl)
    case hk =>
      intro A2 c2 w2 hv2 hb2 _
      have HV2 := Lib.hid hv2; have HB2 := Lib.hid (HB.out.trans hb2)
      clear hv2 hb2
      go_wp2_with fail
      go_ret
      exact ⟨⟨A2, c2, by simp, by simpa using HV2.out⟩, HB2.out⟩
theorem elemBTx : ElemB encTx 31 33 16 208 (.agg #[.int .i32 0, .string ⟨#[]⟩, .slice none 0 0, .slice none 0 0, .int .i64 0, .int .i32 0, .int .i32 0, .bool false, .int .i64 0, .int .i64 0, .int .i64 0, .int .i32 0, .slice none 0 0, .slice none 0 0, .int .i32 0, .slice none 0 0]) where
  under := Tryz.underlying31
  info := by kernel_rfl
  size := rfl
  len := fun _ => rfl
  pos := by decide
  one := fun x u hu => by
    simp [encTx] at hu
    rcases hu with rfl | rfl | rfl | rfl | rfl | rfl | rfl | rfl | rfl | rfl | rfl | rfl | rfl | rfl | rfl | rfl <;> rfl
  small := by decide
theorem eqNilTx (w : World) : (binOp .eql 31 (.slice none 0 0) (.slice none 0 0)).run Tryz.prog w = .ok (.bool true) w := by kernel_rfl
theorem eqSomeTx (a : Addr) (n c : Nat) (w : World) : (binOp .eql 31 (.slice (some a) n c) (.slice none 0 0)).run Tryz.prog w = .ok (.bool false) w := by kernel_rfl
set_option maxRecDepth 100000 in
theorem cloneNilTx (w : World) : Calls Tryz.prog 104 #[.slice none 0 0] w fun e w' => e = .returned (.slice none 0 0) ∧ w = w' := by
  have hq := eqNilTx
  go_enter Tryz.func104, Tryz.ntmps104
  go_wp2_with fail
  go_ret
  exact ⟨rfl, rfl⟩
set_option maxRecDepth 100000 in
theorem cloneTx_any (A : Option Addr) (n c : Nat) (l : List TxH) (w : World) (hz : Sl w w.heap.size encTx 16 A n l) (hA : A = none → n = 0 ∧ c = 0) (hn : n ≤ 4194304) :
    Calls Tryz.prog 104 #[.slice A n c] w (CloneP 33 encTx 16 n l w) := by
  cases A with
  | none =>
    obtain ⟨rfl, rfl⟩ := hA rfl
    have hl : l = [] := List.length_eq_zero_iff.1 hz.len
    subst hl
    refine (cloneNilTx w).mono ?_
    rintro e w' ⟨rfl, rfl⟩
    exact ⟨⟨none, 0, rfl, World.ownsRow_nil _ _ _ _⟩, Below.refl _ _⟩
  | some a =>
    have hb0 : Below w.heap.size w (w.alloc (.cells #[] 33)) := (Below.refl _ w).alloc (Nat.le_refl _) _
    have HS := Lib.hid (hz.belowMore hb0 hb0.size)
    have HB := Lib.hid hb0
    have HOW := Lib.hid (own_empty (T := 33) (k := 16) w)
    have hq := eqSomeTx a n c
    clear hz hA hb0
    go_enter Tryz.func104, Tryz.ntmps104
    go_wp2_with (at_builtin; refine wpList_appB elemBTx rfl _ _ rfl w.heap.size (some ⟨w.heap.size, 0, none⟩) 0 0 [] ?hx HOW.out (some a) n c l ?hy HS.out (fun e => by cases e) (by omega) HB.out.size ?hk)
    (try case hx => rfl)
    (try case hy => rfl)
    case hk =>
      intro A2 c2 w2 hv2 hb2 _
      have HV2 := Lib.hid hv2; have HB2 := Lib.hid (HB.out.trans hb2)
      clear hv2 hb2
      go_wp2_with fail
      go_ret
      exact ⟨⟨A2, c2, by simp, by simpa using HV2.out⟩, HB2.out⟩
end Go.Proofs.YthpjneobmmpbnaaGreatDoor
namespace Go.Proofs.YthpjneobmmpbnaaGreatDoor
open Go.RowKit
open Go.Lib hiding intOf
theorem partN_end (s : ByteArray) (p : Nat) (h : ¬ p < s.size) : partN s p = 0 := by
  unfold partN
  rw [List.drop_eq_nil_of_le (by show s.data.toList.length ≤ p; rw [Array.length_toList]; exact Nat.le_of_not_lt h)]; rfl
theorem partN_step (s : ByteArray) (p : Nat) (h : p < s.size) : partN s p = if s.get! p = 47 then 0 else partN s (p + 1) + 1 := by
  have hl : p < s.data.toList.length := h
  unfold partN
  rw [List.drop_eq_getElem_cons hl]
  have e : s.data.toList[p] = s.get! p := by rw [get_eq s p h]; rfl
  rw [e]; rfl
def partB3 (s : ByteArray) (q : Nat) : ByteArray := s.extract q (q + partN s q)
theorem partB3_list (s : ByteArray) (q : Nat) : (partB3 s q).data.toList = partL s q := by
  unfold partB3 partL
  simp [ByteArray.data_extract, Array.toList_extract, List.extract_eq_take_drop]
theorem partB3_is (s : ByteArray) (q : Nat) (l : List UInt8) : ((partB3 s q).toList == l) = decide (partL s q = l) := by
  rw [Lib.toList_data, partB3_list, Bool.eq_iff_iff, beq_iff_eq, decide_eq_true_eq]
set_option maxHeartbeats 4000000 in
set_option maxRecDepth 100000 in
theorem refPart_any (s : ByteArray) (q : Nat) (hs : s.size < 2147483648) (hq : q ≤ s.size) (w : World) : Calls Tryz.prog 216 #[.string s, .int .i64 q] w (fun e w' => e = .returned (.string (partB3 s q)) ∧ w' = w) := by
  go_enter Tryz.func216, Tryz.ntmps216
  go_wp2_with fail
  go_loop [5] (fun i => ∃ p : Nat, i = .int .i64 ↑p ∧ q ≤ p ∧ p ≤ s.size ∧ p + partN s p = q + partN s q) (fun i => s.size - (RowKit.intOf i).toNat)
  case atStart => exact ⟨q, rfl, Nat.le_refl _, hq, rfl⟩
  case round =>
    obtain ⟨p, rfl, hqp, hps, hP⟩ := hrel
    have HP := Lib.hid hP; clear hP
    by_cases hp : p < s.size
    · have hb := u8_eq s[p]
      have hstep := partN_step s p hp
      rw [get_eq s p hp] at hstep
      by_cases hk : s[p] = 47
      · have hb1 : ((s[p].toNat : Int) != 47) = false := by rw [hk]; rfl
        have HE := Lib.hid (show q + partN s q = p by rw [← HP.out, hstep, if_pos hk]; rfl)
        clear hb hstep hk
        go_wp2_with fail
        go_ret
        exact ⟨by unfold partB3; rw [HE.out]; rfl, rfl⟩
      · have hb1 : ((s[p].toNat : Int) != 47) = true := by
          rw [decide_eq_false hk] at hb
          simp only [bne, hb, Bool.not_false]
        have HE := Lib.hid (show p + 1 + partN s (p + 1) = q + partN s q by rw [← HP.out, hstep, if_neg hk]; omega)
        clear hb hstep hk
        go_wp2_with fail
        go_round
        case rel => exact ⟨p + 1, by go_num, by omega, by omega, HE.out⟩
        case measure => simp [RowKit.intOf]; omega
    · have HE := Lib.hid (show q + partN s q = p by rw [← HP.out, partN_end s p hp]; rfl)
      go_wp2_with fail
      go_ret
      exact ⟨by unfold partB3; rw [HE.out]; rfl, rfl⟩
set_option maxHeartbeats 4000000 in
set_option maxRecDepth 100000 in
theorem refCheck_loop (s : ByteArray) (hs : s.size < 2147483648) (w : World) (h1 : 1 < s.size) (h2 : s.size ≤ 4096) (h3 : s.get! 0 = 47) (h4 : s.get! (s.size - 1) ≠ 47) :
    Calls Tryz.prog 169 #[.string s] w (ChkPost s w) := by
  have HV := Lib.hid (show validP s = fineF s s.size 0 by
    unfold validP
    rw [decide_eq_true (show s.size ≠ 0 by omega), decide_eq_true h2, decide_eq_true h3, decide_eq_false (show ¬ s.size = 1 by omega), decide_eq_false h4]
    simp)
  have d0 : s.toList.isEmpty = false := nonempty s (by omega)
  have d1 : (s.toList == [47]) = false := by
    rw [str_is2]
    exact decide_eq_false fun e => by have := (slash_iff s).1 e; omega
  have d2 : ((s[0].toNat : Int) != 47) = false := by
    rw [← get_zero s 0 (by omega), h3]; rfl
  have d3 : ((s[s.size - 1].toNat : Int) == 47) = false := by
    rw [u8_eq, ← get_zero s (s.size - 1) (by omega)]
    exact decide_eq_false h4
  clear h3 h4
  go_enter Tryz.func169, Tryz.ntmps169
  go_wp2_with fail
  clear d0 d1 d2 d3
  go_loop [4, 5, 6, 7] (fun at_ _ _ _ => ∃ (p f : Nat), at_ = .int .i64 ↑p ∧ p ≤ s.size ∧ fineF s f p = fineF s s.size 0 ∧ s.size ≤ p + f) (fun at_ _ _ _ => s.size - (RowKit.intOf at_).toNat)
  case atStart => exact ⟨0, s.size, rfl, by omega, rfl, by omega⟩
  case round =>
    obtain ⟨p, f, rfl, hps, hG, hfu⟩ := hrel
    have HG := Lib.hid hG; clear hG
    by_cases hp : p < s.size
    · have hw1 := charW_pos s p
      have hw2 := charW_le s p hp
      have HO := Lib.hid (ofI_charR s p)
      obtain ⟨g, rfl⟩ : ∃ g, f = g + 1 := ⟨f - 1, by omega⟩
      have hb := u8_eq s[p]
      have hst := fineF_step s g p hp
      by_cases hsl : s.get! p = 47
      · have hk := slash_k s p hsl
        have hkb : (ofI (charR s p) != 1) = false := by rw [HO.out, hk]; rfl
        have t1 : ((s[p].toNat : Int) == 47) = true := by rw [hb, ← get_eq s p hp]; exact decide_eq_true hsl
        have hso := stepOk_slash s p hsl
        have hw := slash_w s p hsl
        rw [hso, hw] at hst
        have HW := Lib.hid hw
        rw [hw] at hw2
        clear hso hb hk hsl hw1 hw
        cases hv : voidAt s p with
        | true =>
          rw [hv] at hst
          have HN := Lib.hid (show validP s = false by rw [HV.out, ← HG.out, hst]; rfl)
          unfold voidAt at hv
          rw [Bool.and_eq_true, decide_eq_true_eq, decide_eq_true_eq] at hv
          obtain ⟨v1, v2⟩ := hv
          have t2 : ((s[p - 1].toNat : Int) == 47) = true := by rw [u8_eq, ← get_eq s (p - 1) (by omega)]; exact decide_eq_true v2
          clear hst v2
          have hpp : (0 : Int) < (p : Int) := by omega
          have hp2 : p - 1 < s.size := by omega
          go_wp2_with fail
          go_ret2
          exact ChkPost.mk (Below.refl _ _) HN.out.symm
        | false =>
          rw [hv] at hst
          have hq0 : ¬ 0 < p ∨ (0 < p ∧ ∃ h : p - 1 < s.size, ((s[p - 1].toNat : Int) == 47) = false) := by
            by_cases h0 : 0 < p
            · right
              refine ⟨h0, by omega, ?_⟩
              unfold voidAt at hv
              rw [decide_eq_true h0, Bool.true_and] at hv
              rw [u8_eq, ← get_eq s (p - 1) (by omega)]
              exact hv
            · exact .inl h0
          have cP := Lib.hid (refPart_any s (p + 1) hs (by omega) w)
          have HP := Lib.hid (show dotsAt s (p + 1) = (decide (partL s (p + 1) = [46]) || decide (partL s (p + 1) = [46, 46])) from rfl)
          have q1 := partB3_is s (p + 1) [46]
          have q2 := partB3_is s (p + 1) [46, 46]
          have HST := Lib.hid hst
          clear hst hv
          generalize partB3 s (p + 1) = pt at *
          by_cases c1 : partL s (p + 1) = [46] ∨ partL s (p + 1) = [46, 46]
          · have HN := Lib.hid (show validP s = false by
              rw [HV.out, ← HG.out, HST.out, HP.out]
              rcases c1 with e | e
              · rw [decide_eq_true e]; rfl
              · rw [decide_eq_true e, Bool.or_true]; rfl)
            have hq1 : (pt.toList == [46]) = true ∨ ((pt.toList == [46]) = false ∧ (pt.toList == [46, 46]) = true) := by
              rw [q1, q2]
              by_cases e : partL s (p + 1) = [46]
              · exact .inl (decide_eq_true e)
              · exact .inr ⟨decide_eq_false e, decide_eq_true (c1.resolve_left e)⟩
            clear q1 q2 c1
            rcases hq0 with hq0 | ⟨hq0, hq3, hq2⟩ <;> rcases hq1 with hq1 | ⟨hq1, hq4⟩
            all_goals
              go_wp2_with fail
              refine cP.out.mono ?_
              rintro e w' ⟨rfl, rfl⟩
              go_wp2_with fail
              go_ret2
              exact ChkPost.mk (Below.refl _ _) HN.out.symm
          · have HN := Lib.hid (show fineF s (g + 1) p = fineF s g (p + 1) by
              rw [HST.out, HP.out, decide_eq_false (fun e => c1 (.inl e)), decide_eq_false (fun e => c1 (.inr e))]; rfl)
            have hq1 : (pt.toList == [46]) = false := by rw [q1]; exact decide_eq_false fun e => c1 (.inl e)
            have hq4 : (pt.toList == [46, 46]) = false := by rw [q2]; exact decide_eq_false fun e => c1 (.inr e)
            clear q1 q2 c1
            rcases hq0 with hq0 | ⟨hq0, hq3, hq2⟩
            all_goals
              go_wp2_with fail
              refine cP.out.mono ?_
              rintro e w' ⟨rfl, rfl⟩
              go_wp2_with fail
              refine (char_any s p hp (by omega) _).mono ?_
              rintro e w' ⟨rfl, rfl⟩
              go_wp2_with fail
              refine (refOf_any _ _).mono ?_
              rintro e w' ⟨rfl, rfl⟩
              rw [HW.out]
              go_wp2_with fail
              go_round
              case rel => exact ⟨p + 1, g, by go_num, by omega, by rw [← HG.out]; exact HN.out.symm, by omega⟩
              case measure => simp [RowKit.intOf]; omega
      · have t1 : ((s[p].toNat : Int) == 47) = false := by rw [hb, ← get_eq s p hp]; exact decide_eq_false hsl
        rw [stepOk_no s p hsl] at hst
        by_cases hk : charK s p = 1
        · have hkb : (ofI (charR s p) != 1) = false := by rw [HO.out, hk]; rfl
          have HN := Lib.hid (show fineF s (g + 1) p = fineF s g (p + charW s p) by rw [hst, decide_eq_true hk]; rfl)
          clear hk hst hb hsl
          go_wp2_with fail
          refine (char_any s p hp (by omega) _).mono ?_
          rintro e w' ⟨rfl, rfl⟩
          go_wp2_with fail
          refine (refOf_any _ _).mono ?_
          rintro e w' ⟨rfl, rfl⟩
          go_wp2_with fail
          go_round
          case rel => exact ⟨p + charW s p, g, by go_num, by omega, by rw [← HG.out]; exact HN.out.symm, by omega⟩
          case measure => simp [RowKit.intOf]; omega
        · have hkb : (ofI (charR s p) != 1) = true := by rw [HO.out]; exact bne_iff_ne.2 (fun e => hk (by omega))
          have HN := Lib.hid (show validP s = false by rw [HV.out, ← HG.out, hst, decide_eq_false hk]; rfl)
          clear hk hst hb hsl
          go_wp2_with fail
          refine (char_any s p hp (by omega) _).mono ?_
          rintro e w' ⟨rfl, rfl⟩
          go_wp2_with fail
          refine (refOf_any _ _).mono ?_
          rintro e w' ⟨rfl, rfl⟩
          go_wp2_with fail
          go_ret2
          exact ChkPost.mk (Below.refl _ _) HN.out.symm
    · have HN := Lib.hid (show validP s = true by rw [HV.out, ← HG.out, fineF_end s f p hp])
      go_wp2_with fail
      go_ret2
      exact ChkPost.mk (Below.refl _ _) HN.out.symm
set_option maxRecDepth 100000 in
theorem refCheck_first (s : ByteArray) (hs : s.size < 2147483648) (w : World) (h : ¬ (1 < s.size ∧ s.size ≤ 4096 ∧ s.get! 0 = 47 ∧ s.get! (s.size - 1) ≠ 47)) :
    Calls Tryz.prog 169 #[.string s] w (ChkPost s w) := by
  by_cases h0 : s.size = 0
  · have HV := Lib.hid (show validP s = false by simp [validP, h0])
    have hd : s.toList.isEmpty = true := by rw [empty_of s h0, ByteArray.toList_eq]; rfl
    clear h h0
    go_enter Tryz.func169, Tryz.ntmps169
    go_wp2_with fail
    go_ret2
    exact ChkPost.mk (Below.refl _ _) HV.out.symm
  have d0 : s.toList.isEmpty = false := nonempty s h0
  by_cases h1 : 4096 < s.size
  · have HV := Lib.hid (show validP s = false by
      unfold validP
      rw [decide_eq_false (show ¬ s.size ≤ 4096 by omega)]; simp)
    clear h
    go_enter Tryz.func169, Tryz.ntmps169
    go_wp2_with fail
    go_ret2
    exact ChkPost.mk (Below.refl _ _) HV.out.symm
  by_cases h2 : s.get! 0 = 47
  · have d2 : ((s[0].toNat : Int) != 47) = false := by rw [← get_zero s 0 (by omega), h2]; rfl
    by_cases h3 : s.size = 1
    · have d1 : (s.toList == [47]) = true := by rw [str_is2]; exact decide_eq_true ((slash_iff s).2 ⟨h3, h2⟩)
      have HV := Lib.hid (show validP s = true by
        unfold validP
        rw [decide_eq_true (show s.size ≠ 0 by omega), decide_eq_true (show s.size ≤ 4096 by omega), decide_eq_true h2, decide_eq_true h3]; rfl)
      have hp : 0 < s.size := by omega
      clear h h2 h3
      go_enter Tryz.func169, Tryz.ntmps169
      go_wp2_with fail
      go_ret2
      exact ChkPost.mk (Below.refl _ _) HV.out.symm
    · have h4 : s.get! (s.size - 1) = 47 := Classical.byContradiction fun e => h ⟨by omega, by omega, h2, e⟩
      have d1 : (s.toList == [47]) = false := by rw [str_is2]; exact decide_eq_false fun e => h3 ((slash_iff s).1 e).1
      have d3 : ((s[s.size - 1].toNat : Int) == 47) = true := by rw [u8_eq, ← get_zero s (s.size - 1) (by omega)]; exact decide_eq_true h4
      have HV := Lib.hid (show validP s = false by
        unfold validP
        rw [decide_eq_false h3, decide_eq_true h4]; simp)
      have hp : 0 < s.size := by omega
      clear h h2 h4
      go_enter Tryz.func169, Tryz.ntmps169
      go_wp2_with fail
      go_ret2
      exact ChkPost.mk (Below.refl _ _) HV.out.symm
  · have d2 : ((s[0].toNat : Int) != 47) = true := by
      rw [← get_zero s 0 (by omega)]
      have := u8_eq (s.get! 0)
      rw [decide_eq_false h2] at this
      simp only [bne, this, Bool.not_false]
    have HV := Lib.hid (show validP s = false by
      unfold validP
      rw [decide_eq_false h2]; simp)
    have hp : 0 < s.size := by omega
    clear h h2
    go_enter Tryz.func169, Tryz.ntmps169
    go_wp2_with fail
    go_ret2
    exact ChkPost.mk (Below.refl _ _) HV.out.symm
theorem refCheck_any (s : ByteArray) (hs : s.size < 2147483648) (w : World) : Calls Tryz.prog 169 #[.string s] w (ChkPost s w) := by
  by_cases h : 1 < s.size ∧ s.size ≤ 4096 ∧ s.get! 0 = 47 ∧ s.get! (s.size - 1) ≠ 47
  · exact refCheck_loop s hs w h.1 h.2.1 h.2.2.1 h.2.2.2
  · exact refCheck_first s hs w h
theorem refValid_any (s : ByteArray) (hs : s.size < 2147483648) (w : World) : Calls Tryz.prog 109 #[.string s] w (RetB w (validP s)) := by
  have cC := refCheck_any s hs w
  go_enter Tryz.func109, Tryz.ntmps109
  go_wp2_with fail
  refine cC.mono ?_
  rintro e w1 ⟨⟨f, a, rfl, hf⟩, hb⟩
  go_wp2_with fail
  go_ret
  exact RetB.mk hb rfl
def OrdP3 (a b : ByteArray) (w : World) (e : Ending) (w' : World) : Prop := e = .returned (.int .i64 (Lib.compareBytes a.data.toList b.data.toList)) ∧ ∃ q, w' = w.drewN q
theorem OrdP3.mk {a b : ByteArray} {w : World} {w' : World} {x : Int} (hw : ∃ q, w' = w.drewN q) (h : x = Lib.compareBytes a.data.toList b.data.toList) : OrdP3 a b w (.returned (.int .i64 x)) w' := ⟨by rw [h], hw⟩
theorem cmp_drop (a b : ByteArray) (i : Nat) : Lib.compareBytes (a.data.toList.drop i) (b.data.toList.drop i) =
    if i < a.size then (if i < b.size then (if a.get! i < b.get! i then -1 else if b.get! i < a.get! i then 1 else Lib.compareBytes (a.data.toList.drop (i + 1)) (b.data.toList.drop (i + 1))) else 1) else (if i < b.size then -1 else 0) := by
  have la : ∀ h : i < a.size, a.data.toList.drop i = a.get! i :: a.data.toList.drop (i + 1) := fun h => by
    have hl : i < a.data.toList.length := h
    rw [List.drop_eq_getElem_cons hl, get_eq a i h]; rfl
  have lb : ∀ h : i < b.size, b.data.toList.drop i = b.get! i :: b.data.toList.drop (i + 1) := fun h => by
    have hl : i < b.data.toList.length := h
    rw [List.drop_eq_getElem_cons hl, get_eq b i h]; rfl
  have na : ¬ i < a.size → a.data.toList.drop i = [] := fun h => List.drop_eq_nil_of_le (by rw [Array.length_toList]; exact Nat.le_of_not_lt h)
  have nb : ¬ i < b.size → b.data.toList.drop i = [] := fun h => List.drop_eq_nil_of_le (by rw [Array.length_toList]; exact Nat.le_of_not_lt h)
  by_cases ha : i < a.size <;> by_cases hb : i < b.size
  · rw [la ha, lb hb, if_pos ha, if_pos hb]; rfl
  · rw [la ha, nb hb, if_pos ha, if_neg hb]; rfl
  · rw [na ha, lb hb, if_neg ha, if_pos hb]; rfl
  · rw [na ha, nb hb, if_neg ha, if_neg hb]; rfl
set_option maxHeartbeats 4000000 in
set_option maxRecDepth 100000 in
theorem refOrder_any (a b : ByteArray) (ha : a.size < 2147483648) (_hb : b.size < 2147483648) (w : World) : Calls Tryz.prog 108 #[.string a, .string b] w (OrdP3 a b w) := by
  go_enter Tryz.func108, Tryz.ntmps108
  go_wp2_with fail
  go_loopw [5] (fun i wr => ∃ p q : Nat, wr = w.drewN q ∧ i = .int .i64 ↑p ∧ p ≤ a.size ∧ p ≤ b.size ∧ Lib.compareBytes (a.data.toList.drop p) (b.data.toList.drop p) = Lib.compareBytes a.data.toList b.data.toList) (fun i _ => a.size - (RowKit.intOf i).toNat)
  case atStart => exact ⟨0, 0, rfl, rfl, Nat.zero_le _, Nat.zero_le _, by rw [List.drop_zero, List.drop_zero]⟩
  case round =>
    obtain ⟨p, q, rfl, rfl, hpa, hpb, hC⟩ := hrel
    have hd := cmp_drop a b p
    rw [hC] at hd
    clear hC
    have hlt : ∀ x y : UInt8, decide (x.toNat < y.toNat) = decide (x < y) := fun x y => by
      rw [Bool.eq_iff_iff, decide_eq_true_eq, decide_eq_true_eq, UInt8.lt_iff_toNat_lt]
    by_cases h1 : p < a.size
    · rw [if_pos h1] at hd
      by_cases h2 : p < b.size
      · rw [if_pos h2, get_eq a p h1, get_eq b p h2] at hd
        have l1 := hlt a[p] b[p]; have l2 := hlt b[p] a[p]
        by_cases c1 : a[p] < b[p]
        · rw [if_pos c1] at hd
          rw [decide_eq_true c1] at l1
          have HD := Lib.hid hd
          clear hd c1 hlt l2
          go_wp2_with fail
          go_quiet (fail)
          go_wp2_with fail
          go_ret
          exact OrdP3.mk (by (try simp only [World.drewN_drewN]); exact ⟨_, rfl⟩) HD.out.symm
        · rw [if_neg c1] at hd
          rw [decide_eq_false c1] at l1
          by_cases c2 : b[p] < a[p]
          · rw [if_pos c2] at hd
            rw [decide_eq_true c2] at l2
            have HD := Lib.hid hd
            clear hd c1 c2 hlt
            go_wp2_with fail
            go_quiet (fail)
            go_wp2_with fail
            go_quiet (fail)
            go_wp2_with fail
            go_ret
            exact OrdP3.mk (by (try simp only [World.drewN_drewN]); exact ⟨_, rfl⟩) HD.out.symm
          · rw [if_neg c2] at hd
            rw [decide_eq_false c2] at l2
            have HD := Lib.hid hd
            clear hd c1 c2 hlt
            go_wp2_with fail
            go_quiet (fail)
            go_wp2_with fail
            go_quiet (fail)
            go_wp2_with fail
            go_roundw
            case rel => exact ⟨p + 1, _, by (try simp only [World.drewN_drewN]); rfl, by go_num, by omega, by omega, HD.out.symm⟩
            case measure => simp [RowKit.intOf]; omega
      · rw [if_neg h2] at hd
        obtain rfl : p = b.size := by omega
        have HD := Lib.hid hd
        clear hd hlt
        go_wp2_with fail
        go_ret
        exact OrdP3.mk (by (try simp only [World.drewN_drewN]); exact ⟨_, rfl⟩) HD.out.symm
    · rw [if_neg h1] at hd
      obtain rfl : p = a.size := by omega
      by_cases h2 : a.size < b.size
      · rw [if_pos h2] at hd
        have HD := Lib.hid hd
        clear hd hlt
        go_wp2_with fail
        go_ret
        exact OrdP3.mk (by (try simp only [World.drewN_drewN]); exact ⟨_, rfl⟩) HD.out.symm
      · rw [if_neg h2] at hd
        have HD := Lib.hid hd
        clear hd hlt
        go_wp2_with fail
        go_ret
        exact OrdP3.mk (by (try simp only [World.drewN_drewN]); exact ⟨_, rfl⟩) HD.out.symm
end Go.Proofs.YthpjneobmmpbnaaGreatDoor
