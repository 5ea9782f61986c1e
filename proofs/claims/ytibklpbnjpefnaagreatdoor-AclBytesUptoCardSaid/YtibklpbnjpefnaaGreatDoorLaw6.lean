/- The walks of arborlaw06.own and ownIds: a list copied. -/
import Derived.Test.YtibklpbnjpefnaaGreatDoorAclB
import Derived.Test.YtibklpbnjpefnaaGreatDoorAclM
import Derived.Test.YtibklpbnjpefnaaGreatDoorRefM
import Derived.Laws.AppendOwn
import Derived.Laws.AppendOwnNone
namespace Go.Proofs.YtibklpbnjpefnaaGreatDoor
open Go.RowKit

def OwnPost {α : Type} [Inhabited α] (w : World) (T : TypeId) (enc : α → List Value) (k n : Nat) (l : List α) (e : Ending) (w' : World) : Prop :=
  (∃ A c, e = .returned (.slice A n c) ∧ w'.ownsRow w.heap.size T k (.slice A n c) n (l.flatMap enc)) ∧ Below w.heap.size w w'
theorem own_form6 {w : World} {base n : Nat} {T : TypeId} {k : Nat} {v : Value} {r : List Value} (h : w.ownsRow base T k v n r) : ∃ A c, v = .slice A n c := by
  rcases h with ⟨_, ⟨e, e2⟩ | ⟨g, cap, cur, e, _⟩⟩
  · subst e e2; exact ⟨none, 0, rfl⟩
  · exact ⟨_, _, e⟩
theorem Sl.news6 {α : Type} [Inhabited α] {w : World} {B : Nat} {enc : α → List Value} {k n : Nat} {a : Addr} {zs : List α} (hk : ∀ x, (enc x).length = k) (hk0 : 0 < k) (h : Sl w B enc k (some a) n zs) :
    ∀ j u, (zs.flatMap enc)[j]? = some u → w.cell? (a.add j) = some u := by
  intro j u hu
  have hlen : (zs.flatMap enc).length = n * k := by
    rw [← h.len]
    exact flat_len hk zs
  have hj : j < n * k := by rw [← hlen]; exact (List.getElem?_eq_some_iff.1 hu).1
  have hn : 0 < n := by rcases Nat.eq_zero_or_pos n with e | e; (rw [e] at hj; omega); exact e
  obtain ⟨b, off, e, hb, hc⟩ := h.2 hn
  injection e with e
  subst e
  have hd : j / k < n := (Nat.div_lt_iff_lt_mul hk0).2 hj
  have hm : j % k < k := Nat.mod_lt _ hk0
  obtain ⟨y, hy⟩ : ∃ y, (enc zs[j / k]!)[j % k]? = some y := ⟨_, List.getElem?_eq_getElem (by rw [hk]; exact hm)⟩
  have h1 := flat_at hk zs (j / k) (j % k) y (by rw [h.len]; exact hd) hy
  have e1 : j / k * k + j % k = j := by rw [Nat.mul_comm]; exact Nat.div_add_mod j k
  rw [e1, hu] at h1
  injection h1 with h1
  subst h1
  have := hc (j / k) hd (j % k) u hy
  rw [Nat.add_assoc, e1] at this
  have e2 : (⟨b, off, none⟩ : Addr).add j = ⟨b, off + j, none⟩ := by
    simp only [Addr.add]; by_cases h0 : j = 0 <;> simp [h0]
  rw [e2]; exact this
theorem infoId : (Tryz.prog.info? 69).map (fun i => (i.zero, i.size, i.bytes)) = some (some (.agg #[.string ⟨#[]⟩, .string ⟨#[]⟩]), 2, 32) := by kernel_rfl
set_option maxRecDepth 100000 in
theorem own_any (A : Option Addr) (n c : Nat) (l : List AclV) (w : World) (hl : Sl w w.heap.size encAcl 3 A n l) (hn : n ≤ 2097152) (hA : A = none → n = 0 ∧ c = 0) :
    Calls Tryz.prog 6 #[.slice A n c] w (OwnPost w 71 encAcl 3 n l) := by
  have H := Lib.hid hl; clear hl
  obtain ⟨i0, hi0, hz0, hz1, hz2⟩ := info_parts infoAcl
  have hb0 : Below w.heap.size w (w.alloc (.cells #[] 71)) := (Below.refl _ w).alloc (Nat.le_refl _) _
  have hown0 : (w.alloc (.cells #[] 71)).ownsRow w.heap.size 71 3 (.slice (some ⟨w.heap.size, 0, none⟩) 0 0) 0 [] :=
    ⟨rfl, .inr ⟨w.heap.size, 0, #[], rfl, Nat.le_refl _, (MapKept.heap_alloc _ _).1, Nat.le_refl _, by decide, rfl, rfl⟩⟩
  cases A with
  | none =>
    obtain ⟨rfl, rfl⟩ := hA rfl
    have hl0 : l = [] := List.length_eq_zero_iff.1 H.out.len
    subst hl0
    go_enter Tryz.func6, Tryz.ntmps6
    go_wp2_with (at_builtin; refine wpList_append_own_none rfl _ _ _ rfl w.heap.size 71 i0 3 Tryz.underlying22 hi0 _ 0 [] rfl hown0 rfl ?_)
    go_ret
    exact ⟨⟨_, _, rfl, hown0⟩, hb0⟩
  | some a =>
    have HLEN := Lib.hid (show (l.flatMap encAcl).length = n * 3 from by rw [flat_len (k := 3) (fun _ => rfl), H.out.len])
    have HN := Lib.hid (Sl.news6 (k := 3) (fun _ => rfl) (by decide) (H.out.below hb0))
    clear hA
    go_enter Tryz.func6, Tryz.ntmps6
    go_wp2_with (at_builtin; refine wpList_append_own _ rfl _ _ _ rfl w.heap.size 71 i0 _ 3 40 Tryz.underlying22 hi0 hz0 hz1 hz2 rfl (by decide) _ 0 [] rfl hown0 a n c (l.flatMap encAcl) rfl HLEN.out HN.out ?c1 (by unfold maxLen; omega) (by omega) hb0.size ?c2)
    case c1 =>
      intro u hu
      obtain ⟨x, _, hx⟩ := List.mem_flatMap.1 hu
      simp [encAcl] at hx
      rcases hx with rfl | rfl | rfl <;> rfl
    case c2 =>
      intro v' w' h1 h2 _
      obtain ⟨A', c', rfl⟩ := own_form6 h1
      have hb1 : Below w.heap.size w w' := hb0.grown h2 hb0.size (fun k hk => Nat.le_of_eq (by injection hk))
      have H1 := Lib.hid h1; clear h1 h2
      go_wp2
      go_ret
      exact ⟨⟨_, _, rfl, H1.out⟩, hb1⟩
set_option maxRecDepth 100000 in
theorem ownIds_any (A : Option Addr) (n c : Nat) (l : List IdV) (w : World) (hl : Sl w w.heap.size encId 2 A n l) (hn : n ≤ 2097152) (hA : A = none → n = 0 ∧ c = 0) :
    Calls Tryz.prog 8 #[.slice A n c] w (OwnPost w 69 encId 2 n l) := by
  have H := Lib.hid hl; clear hl
  obtain ⟨i0, hi0, hz0, hz1, hz2⟩ := info_parts infoId
  have hb0 : Below w.heap.size w (w.alloc (.cells #[] 69)) := (Below.refl _ w).alloc (Nat.le_refl _) _
  have hown0 : (w.alloc (.cells #[] 69)).ownsRow w.heap.size 69 2 (.slice (some ⟨w.heap.size, 0, none⟩) 0 0) 0 [] :=
    ⟨rfl, .inr ⟨w.heap.size, 0, #[], rfl, Nat.le_refl _, (MapKept.heap_alloc _ _).1, Nat.le_refl _, by decide, rfl, rfl⟩⟩
  cases A with
  | none =>
    obtain ⟨rfl, rfl⟩ := hA rfl
    have hl0 : l = [] := List.length_eq_zero_iff.1 H.out.len
    subst hl0
    go_enter Tryz.func8, Tryz.ntmps8
    go_wp2_with (at_builtin; refine wpList_append_own_none rfl _ _ _ rfl w.heap.size 69 i0 2 Tryz.underlying23 hi0 _ 0 [] rfl hown0 rfl ?_)
    go_ret
    exact ⟨⟨_, _, rfl, hown0⟩, hb0⟩
  | some a =>
    have HLEN := Lib.hid (show (l.flatMap encId).length = n * 2 from by rw [flat_len (k := 2) (fun _ => rfl), H.out.len])
    have HN := Lib.hid (Sl.news6 (k := 2) (fun _ => rfl) (by decide) (H.out.below hb0))
    clear hA
    go_enter Tryz.func8, Tryz.ntmps8
    go_wp2_with (at_builtin; refine wpList_append_own _ rfl _ _ _ rfl w.heap.size 69 i0 _ 2 32 Tryz.underlying23 hi0 hz0 hz1 hz2 rfl (by decide) _ 0 [] rfl hown0 a n c (l.flatMap encId) rfl HLEN.out HN.out ?c1 (by unfold maxLen; omega) (by omega) hb0.size ?c2)
    case c1 =>
      intro u hu
      obtain ⟨x, _, hx⟩ := List.mem_flatMap.1 hu
      simp [encId] at hx
      rcases hx with rfl | rfl <;> rfl
    case c2 =>
      intro v' w' h1 h2 _
      obtain ⟨A', c', rfl⟩ := own_form6 h1
      have hb1 : Below w.heap.size w w' := hb0.grown h2 hb0.size (fun k hk => Nat.le_of_eq (by injection hk))
      have H1 := Lib.hid h1; clear h1 h2
      go_wp2
      go_ret
      exact ⟨⟨_, _, rfl, H1.out⟩, hb1⟩
/-- what a law knows of an argument that is a list of entries, of identities -/
def ArgA (w : World) (A : Option Addr) (n c : Nat) (l : List AclV) : Prop := Sl w w.heap.size encAcl 3 A n l ∧ (A = none → n = 0 ∧ c = 0) ∧ n ≤ 1048576 ∧ ∀ j, j < n → (l[j]!.2.1.size ≤ 1048576 ∧ l[j]!.2.2.size ≤ 1048576) ∧ -2147483648 ≤ l[j]!.1 ∧ l[j]!.1 ≤ 2147483647
def ArgI (w : World) (A : Option Addr) (n c : Nat) (l : List IdV) : Prop := Sl w w.heap.size encId 2 A n l ∧ (A = none → n = 0 ∧ c = 0) ∧ n ≤ 1048576 ∧ ∀ j, j < n → l[j]!.1.size ≤ 1048576 ∧ l[j]!.2.size ≤ 1048576
theorem ArgA.small {w : World} {A : Option Addr} {n c : Nat} {l : List AclV} (h : ArgA w A n c l) : SmallA l n := fun j hj => ⟨Nat.le_trans (h.2.2.2 j hj).1.1 (by decide), Nat.le_trans (h.2.2.2 j hj).1.2 (by decide)⟩
theorem ArgI.small {w : World} {A : Option Addr} {n c : Nat} {l : List IdV} (h : ArgI w A n c l) : SmallI l n := fun j hj => ⟨Nat.le_trans (h.2.2.2 j hj).1 (by decide), Nat.le_trans (h.2.2.2 j hj).2 (by decide)⟩
theorem ArgA.below {w w' : World} {A : Option Addr} {n c : Nat} {l : List AclV} (h : ArgA w A n c l) (hb : Below w.heap.size w w') : ArgA w' A n c l := ⟨h.1.belowMore hb hb.size, h.2⟩
theorem ArgI.below {w w' : World} {A : Option Addr} {n c : Nat} {l : List IdV} (h : ArgI w A n c l) (hb : Below w.heap.size w w') : ArgI w' A n c l := ⟨h.1.belowMore hb hb.size, h.2⟩
theorem ArgA.own {w w' : World} {base : Nat} {A A' : Option Addr} {n c c' : Nat} {l : List AclV} (h : ArgA w A n c l) (h' : w'.ownsRow base 71 3 (.slice A' n c') n (l.flatMap encAcl)) : ArgA w' A' n c' l :=
  ⟨Sl.of_own (fun _ => rfl) h' h.1.len, (fun e => by
    subst e
    rcases h' with ⟨_, ⟨e, e2⟩ | ⟨g, cap, cur, e, _⟩⟩
    · injection e with _ e3 e4; exact ⟨e2, e4⟩
    · injection e with e _; cases e), h.2.2⟩
theorem ArgI.own {w w' : World} {base : Nat} {A A' : Option Addr} {n c c' : Nat} {l : List IdV} (h : ArgI w A n c l) (h' : w'.ownsRow base 69 2 (.slice A' n c') n (l.flatMap encId)) : ArgI w' A' n c' l :=
  ⟨Sl.of_own (fun _ => rfl) h' h.1.len, (fun e => by
    subst e
    rcases h' with ⟨_, ⟨e, e2⟩ | ⟨g, cap, cur, e, _⟩⟩
    · injection e with _ e3 e4; exact ⟨e2, e4⟩
    · injection e with e _; cases e), h.2.2⟩
theorem ArgA.n_le {w : World} {A : Option Addr} {n c : Nat} {l : List AclV} (h : ArgA w A n c l) : n ≤ 281474976710656 := Nat.le_trans h.2.2.1 (by decide)
theorem ArgI.n_le {w : World} {A : Option Addr} {n c : Nat} {l : List IdV} (h : ArgI w A n c l) : n ≤ 281474976710656 := Nat.le_trans h.2.2.1 (by decide)
end Go.Proofs.YtibklpbnjpefnaaGreatDoor
