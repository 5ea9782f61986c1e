/- Plain laws: who may hangs on no order. No program in sight. -/
import Derived.Test.YtmchfdmnngngiaaDoorAclP
namespace Go.Proofs.YtmchfdmnngngiaaDoor
theorem likeP_congr {ids ids' : List IdV} (h : ∀ f : IdV → Bool, ids'.any f = ids.any f) (x : IdV) : likeP x ids' = likeP x ids := by
  unfold likeP; simp only [h]
theorem mayP_ids {ids ids' : List IdV} (h : ∀ f : IdV → Bool, ids'.any f = ids.any f) (l : List AclV) (p : Int) : mayP l p ids' = mayP l p ids := by
  have e : lets p ids' = lets p ids := funext fun a => by unfold lets; rw [likeP_congr h]
  unfold mayP; rw [e, h]
theorem mayP_list {l l' : List AclV} (h : ∀ f : AclV → Bool, l'.any f = l.any f) (he : l'.isEmpty = l.isEmpty) (p : Int) (ids : List IdV) : mayP l' p ids = mayP l p ids := by
  unfold mayP; rw [h, he]
/-- a list read at g(n-1), .., g(r) -/
def backT {α : Type} (g : Nat → α) (n r : Nat) : List α := (List.range' r (n - r)).reverse.map g
theorem backT_len {α : Type} (g : Nat → α) (n r : Nat) : (backT g n r).length = n - r := by simp [backT]
theorem backT_step {α : Type} (g : Nat → α) (n r : Nat) (h : r < n) : backT g n r = backT g n (r + 1) ++ [g r] := by
  unfold backT
  have e : n - r = n - (r + 1) + 1 := by omega
  rw [e, List.range'_succ, List.reverse_cons, List.map_append]
  rfl
theorem backT_all {α : Type} (g : Nat → α) (n : Nat) : backT g n n = [] := by simp [backT]
theorem backT_any {α : Type} [Inhabited α] (l : List α) (s : Nat → Nat) (hs : ∀ i, i < l.length → s i < l.length) (hon : ∀ j, j < l.length → ∃ i, i < l.length ∧ s i = j) (f : α → Bool) :
    (backT (fun i => l[s i]!) l.length 0).any f = l.any f := by
  rw [Bool.eq_iff_iff]
  simp only [List.any_eq_true, backT, List.mem_map, List.mem_reverse, List.mem_range'_1]
  constructor
  · rintro ⟨x, ⟨i, hi, rfl⟩, hx⟩
    have hi' : i < l.length := by omega
    refine ⟨_, ?_, hx⟩
    rw [getElem!_pos l _ (hs i hi')]
    exact List.getElem_mem _
  · rintro ⟨x, hx, hf⟩
    obtain ⟨j, hj, rfl⟩ := List.getElem_of_mem hx
    obtain ⟨i, hi, e⟩ := hon j hj
    refine ⟨_, ⟨i, by omega, rfl⟩, ?_⟩
    simp only [e]
    rw [getElem!_pos l j hj]; exact hf
theorem turn_on (n k j : Nat) (h : j < n) : ∃ i, i < n ∧ (i + k) % n = j := by
  refine ⟨(j + (n - k % n)) % n, Nat.mod_lt _ (by omega), ?_⟩
  rw [Nat.mod_add_mod]
  have hm : k % n < n := Nat.mod_lt _ (by omega)
  have e : j + (n - k % n) + k = j + n * (1 + k / n) := by
    have := Nat.div_add_mod k n
    rw [Nat.mul_add, Nat.mul_one]; omega
  rw [e, Nat.add_mul_mod_self_left, Nat.mod_eq_of_lt h]
end Go.Proofs.YtmchfdmnngngiaaDoor
