/- The walks that write identities and entries, and lists of them. Conditions: texts of at most 2^20 bytes, fewer than 2^45 bytes in all. -/
import Derived.Test.YtbpmmmnphpkdjaaGreatDoorJutW2
import Derived.Test.YtbpmmmnphpkdjaaGreatDoorAclB
namespace Go.Proofs.YtbpmmmnphpkdjaaGreatDoor
open Go.RowKit Go.MapKept Go.Maps
def txtB (s : ByteArray) : Bs := beB s.size 4 ++ s.data.toList
def idB (x : IdV) : Bs := txtB x.1 ++ txtB x.2
def aclB (x : AclV) : Bs := beB (m32 x.1) 4 ++ idB x.2
theorem txtB_len (s : ByteArray) : (txtB s).length = 4 + s.size := by
  rw [txtB, List.length_append, beB_len]; simp
theorem idB_len (x : IdV) : (idB x).length = 8 + x.1.size + x.2.size := by rw [idB, List.length_append, txtB_len, txtB_len]; omega
theorem aclB_len (x : AclV) : (aclB x).length = 12 + x.2.1.size + x.2.2.size := by rw [aclB, List.length_append, beB_len, idB_len]; omega
theorem Kw.heap {wb base : Nat} {w w' : World} {g : Nat} {cs : Array Value} {T : TypeId} {f : Nat × Nat} (h : Kw wb base w w') (hg : w.heap[g]? = some (.cells cs T f)) (hT : T ≠ 5) (hn : g ≠ wb) : w'.heap[g]? = some (.cells cs T f) :=
  h.other g _ hg (fun c e => by injection e with _ e _; exact hT e) hn
theorem Sl.kw {α : Type} [Inhabited α] {w w' : World} {wb base : Nat} {enc : α → List Value} {k n : Nat} {A : Option Addr} {zs : List α} (h : Sl w base enc k A n zs) (hk : Kw wb base w w') (hn : ∀ a, A = some a → a.block ≠ wb) : Sl w' base enc k A n zs :=
  ⟨h.1, fun h0 => by
    obtain ⟨b, off, e, hb, hc⟩ := h.2 h0
    exact ⟨b, off, e, hb, fun j hj i u hu => hk.cell hb (show b ≠ wb from hn _ e) (hc j hj i u hu)⟩⟩
set_option maxRecDepth 100000 in
theorem putId_any (wb base : Nat) (l : Bs) (x : IdV) (w : World) (h : WrB w wb base l) (hn : l.length ≤ 35184372088832) (h1 : x.1.size ≤ 1048576) (h2 : x.2.size ≤ 1048576) :
    Calls Tryz.prog 129 #[.pointer (some ⟨wb, 0, none⟩), .agg #[.string x.1, .string x.2]] w (WrPost (l ++ idB x) wb base w) := by
  obtain ⟨s, t⟩ := x
  dsimp only at h1 h2 ⊢
  have hb1 : Below w.heap.size w (w.alloc (.cells #[.string s, .string t] 155)) := (Below.refl _ w).alloc (Nat.le_refl _) _
  have hlt : w.heap.size ≠ wb := by have := h.lt; have := h.size; omega
  have HW := Lib.hid (h.below hb1)
  have HK := Lib.hid (Kw.of_below (wb := wb) (base := base) hb1)
  have hg := heap_alloc_new w (.cells #[.string s, .string t] 155)
  have HG := Lib.hid hg
  clear h hb1 hg
  go_enter Tryz.func129, Tryz.ntmps129
  go_wp2_with fail
  generalize w.alloc (.cells #[.string s, .string t] 155) = W at *
  refine (wText_any wb base l s W HW.out (by omega) (by omega)).mono ?_
  rintro e w1 ⟨rfl, hw, hk⟩
  have hg1 := hk.heap HG.out (by decide) hlt
  have x1 : w1.cell? ⟨w.heap.size, 1, none⟩ = some (.string t) := by rw [cellH hg1]; rfl
  have HW1 := Lib.hid hw; have HK1 := Lib.hid (HK.out.trans hk)
  have HL := Lib.hid (show (l ++ txtB s).length ≤ 70368744177664 by rw [List.length_append, txtB_len]; omega)
  clear hw hk hg1 HG
  go_wp2_with fail
  refine (wText_any wb base (l ++ txtB s) t w1 HW1.out HL.out (by omega)).mono ?_
  rintro e w2 ⟨rfl, hw, hk⟩
  have HW2 := Lib.hid (show WrB w2 wb base (l ++ idB (s, t)) by rw [idB, ← List.append_assoc]; exact hw)
  have HK2 := Lib.hid (HK1.out.trans hk)
  clear hw hk
  go_wp2_with fail
  refine bodyPost_ret (results_none rfl _ _ _) rfl ?_
  exact ⟨rfl, HW2.out, HK2.out⟩
theorem flat_small {α : Type} [Inhabited α] (f : α → Bs) (zs : List α) (m : Nat) (h : ∀ j, j < zs.length → (f zs[j]!).length ≤ m) : ∀ k, k ≤ zs.length → ((zs.take k).flatMap f).length ≤ k * m
  | 0, _ => by simp
  | k + 1, hk => by
    have h1 := flat_small f zs m h k (by omega)
    have h2 := h k (by omega)
    rw [List.take_succ_eq_append_getElem (by omega), List.flatMap_append, List.length_append, Nat.succ_mul]
    rw [getElem!_pos zs k (by omega)] at h2
    simp only [List.flatMap_cons, List.flatMap_nil, List.append_nil]
    omega
theorem flat_step {α : Type} [Inhabited α] (f : α → Bs) (zs : List α) {k : Nat} (h : k < zs.length) : (zs.take (k + 1)).flatMap f = (zs.take k).flatMap f ++ f zs[k]! := by
  rw [List.take_succ_eq_append_getElem h, List.flatMap_append, getElem!_pos zs k h]
  simp
/-- a list, some of it written -/
def LPI (wb base n : Nat) (l : Bs) (zs : List IdV) (w : World) (i : Value) (wr : World) : Prop := ∃ k : Nat, i = .int .i64 ↑k ∧ k ≤ n ∧ WrB wr wb base (l ++ beB n 4 ++ (zs.take k).flatMap idB) ∧ Kw wb base w wr
set_option maxRecDepth 100000 in
theorem listI_any (wb base : Nat) (l : Bs) (A : Option Addr) (n c : Nat) (zs : List IdV) (w : World) (h : WrB w wb base l) (hz : Sl w base encId 2 A n zs) (hA : ∀ a, A = some a → a.block ≠ wb) (hl : l.length ≤ 1073741824) (hn : n ≤ 1048576) (hs : ∀ j, j < n → (zs[j]!.1.size ≤ 1048576 ∧ zs[j]!.2.size ≤ 1048576)) :
    Calls Tryz.prog 128 #[.pointer (some ⟨wb, 0, none⟩), .slice A n c, .func (.func 129) #[] #[]] w (WrPost (l ++ (beB n 4 ++ zs.flatMap idB)) wb base w) := by
  have HZ := Lib.hid hz; have HA := Lib.hid hA; have HS := Lib.hid hs
  have HL := Lib.hid hz.len
  have HC := Lib.hid (wCount_any wb base l n w h (by omega) (by omega))
  have HF := Lib.hid (flat_small idB zs 2097164 (fun j hj => by have h1 := hs j (by rw [hz.len] at hj; exact hj); rw [idB_len]; omega))
  have hq : ∀ w : World, (binOp .eql 219 (.func (.func 129) #[] #[]) .nilFunc).run Tryz.prog w = .ok (.bool false) w := fun w => by kernel_rfl
  clear h hz hA hs
  go_enter Tryz.func128, Tryz.ntmps128
  go_wp2_with fail
  refine HC.out.mono ?_
  rintro e w1 ⟨rfl, hw, hk⟩
  have HW1 := Lib.hid hw; have HK1 := Lib.hid hk
  clear hw hk
  go_wp2_with fail
  go_loopw [16] (fun i wr => LPI wb base n l zs w i wr) (fun i _ => n - (RowKit.intOf i).toNat)
  case atStart => exact ⟨0, rfl, Nat.zero_le _, by rw [List.take_zero, List.flatMap_nil, List.append_nil]; exact HW1.out, HK1.out⟩
  case round =>
    obtain ⟨k, rfl, hk, hw, hkw⟩ := hrel
    have HW := Lib.hid hw; have HK := Lib.hid hkw
    by_cases hkn : k < n
    · have hkn2 : (k : Int) < (n : Int) := by omega
      obtain ⟨b, off, hA, hb, hc⟩ := (HZ.out.kw hkw HA.out).cells hkn
      have HSJ := Lib.hid (HS.out k hkn)
      have HST := Lib.hid (flat_step idB zs (k := k) (by rw [HL.out]; exact hkn))
      have hfl := HF.out k (by rw [HL.out]; exact hk)
      have HLN := Lib.hid (show (l ++ beB n 4 ++ (zs.take k).flatMap idB).length ≤ 17592186044416 by
        rw [List.length_append, List.length_append, beB_len]
        have : k * 2097164 ≤ 1048576 * 2097164 := Nat.mul_le_mul_right _ (by omega)
        omega)
      subst hA
      generalize zs[k]! = z at *
      obtain ⟨s, t⟩ := z
      have c0 : wr.cell? ⟨b, off + k * 2, none⟩ = some (.string s) := hc 0 _ rfl
      have c1 : wr.cell? ⟨b, off + k * 2 + 1, none⟩ = some (.string t) := hc 1 _ rfl
      have hb1 : Below wr.heap.size wr (wr.alloc (.cells #[.string s, .string t] 155)) := (Below.refl _ wr).alloc (Nat.le_refl _) _
      have HW2 := Lib.hid (HW.out.below hb1)
      have HK2 := Lib.hid (HK.out.trans (Kw.of_below hb1))
      clear hw hkw hb1 hc hb hfl
      go_wp2_with fail
      generalize wr.alloc (.cells #[.string s, .string t] 155) = W at *
      refine (putId_any wb base _ (s, t) W HW2.out (Nat.le_trans HLN.out (by decide)) HSJ.out.1 HSJ.out.2).mono ?_
      rintro e w3 ⟨rfl, hw, hkw⟩
      have HW3 := Lib.hid (show WrB w3 wb base (l ++ beB n 4 ++ (zs.take (k + 1)).flatMap idB) by rw [HST.out, ← List.append_assoc]; exact hw)
      have HK3 := Lib.hid (HK2.out.trans hkw)
      clear hw hkw
      go_wp2_with fail
      go_roundw
      case rel => exact ⟨k + 1, by go_num, by omega, HW3.out, HK3.out⟩
      case measure => simp [RowKit.intOf]; omega
    · have hkn2 : ¬ (k : Int) < (n : Int) := by omega
      have hkk : k = n := by omega
      subst hkk
      have HW3 := Lib.hid (show WrB wr wb base (l ++ (beB k 4 ++ zs.flatMap idB)) by
        have h9 := HW.out
        rw [List.take_of_length_le (by rw [HL.out]; exact Nat.le_refl _), List.append_assoc] at h9
        exact h9)
      clear hw hkw
      go_wp2_with fail
      refine bodyPost_ret (results_none rfl _ _ _) rfl ?_
      exact ⟨rfl, HW3.out, HK.out⟩
set_option maxRecDepth 100000 in
theorem aclPutIds_any (wb base : Nat) (l : Bs) (A : Option Addr) (n c : Nat) (zs : List IdV) (w : World) (h : WrB w wb base l) (hz : Sl w base encId 2 A n zs) (hA : ∀ a, A = some a → a.block ≠ wb) (hl : l.length ≤ 1073741824) (hn : n ≤ 1048576) (hs : ∀ j, j < n → (zs[j]!.1.size ≤ 1048576 ∧ zs[j]!.2.size ≤ 1048576)) :
    Calls Tryz.prog 96 #[.pointer (some ⟨wb, 0, none⟩), .slice A n c] w (WrPost (l ++ (beB n 4 ++ zs.flatMap idB)) wb base w) := by
  have HC := Lib.hid (listI_any wb base l A n c zs w h hz hA hl hn hs)
  clear h hz hA hs
  go_enter Tryz.func96, Tryz.ntmps96
  go_wp2_with fail
  refine HC.out.mono ?_
  rintro e w1 ⟨rfl, hw, hk⟩
  have HW1 := Lib.hid hw; have HK1 := Lib.hid hk
  clear hw hk
  go_wp2_with fail
  refine bodyPost_ret (results_none rfl _ _ _) rfl ?_
  exact ⟨rfl, HW1.out, HK1.out⟩
/-- a list, some of it written -/
def LPA (wb base n : Nat) (l : Bs) (zs : List AclV) (w : World) (i : Value) (wr : World) : Prop := ∃ k : Nat, i = .int .i64 ↑k ∧ k ≤ n ∧ WrB wr wb base (l ++ beB n 4 ++ (zs.take k).flatMap aclB) ∧ Kw wb base w wr
end Go.Proofs.YtbpmmmnphpkdjaaGreatDoor
