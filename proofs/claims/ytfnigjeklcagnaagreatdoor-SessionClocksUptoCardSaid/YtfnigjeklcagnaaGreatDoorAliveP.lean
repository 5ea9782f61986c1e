/- Plain laws behind SessionAlive: what is known of a clock's list between the touches. No program in sight. -/
import Derived.Test.YtfnigjeklcagnaaGreatDoorClkE
namespace Go.Proofs.YtfnigjeklcagnaaGreatDoor
def OkK (tick timeout now : Int) (O : List Int) (K : List KV) : Prop := ∀ x ∈ K, x.2 ≤ now + timeout + tick ∧ (x.1 = 1 ∨ x.1 ∈ O)
theorem ok_nil (tick timeout now : Int) (O : List Int) : OkK tick timeout now O [] := fun x hx => by cases hx
theorem ok_put1 {tick timeout now : Int} {O : List Int} {K : List KV} (h : OkK tick timeout now O K) (ht : 1 ≤ tick) : OkK tick timeout now O (putK K 1 (stepK tick timeout now)) := fun x hx => by
  rcases mem_put hx with h1 | rfl
  · exact h x h1
  · exact ⟨stepK_le ht, .inl rfl⟩
theorem ok_putO {tick timeout now id : Int} {O : List Int} {K : List KV} (h : OkK tick timeout now O K) (ht : 1 ≤ tick) (hto : 1 ≤ timeout) (hi : id ∈ O) : OkK tick timeout now O (putK K id (stepK tick 1 now)) := fun x hx => by
  rcases mem_put hx with h1 | rfl
  · exact h x h1
  · exact ⟨by have := stepK_le (tick := tick) (timeout := 1) (now := now) ht; show stepK tick 1 now ≤ _; omega, .inr hi⟩
def GotK (now timeout : Int) (K : List KV) : Prop := ∃ s, getK K 1 = some s ∧ now + timeout < s
theorem got_put1 {tick timeout now : Int} (K : List KV) (ht : 1 ≤ tick) : GotK now timeout (putK K 1 (stepK tick timeout now)) := by
  have hg := stepK_gt (tick := tick) (timeout := timeout) (now := now) ht
  unfold GotK
  rw [getK_put, if_pos rfl]
  cases getK K 1 with
  | none => exact ⟨_, rfl, hg⟩
  | some old =>
    refine ⟨_, rfl, ?_⟩
    simp only
    split <;> omega
theorem got_putO {now timeout id s : Int} {K : List KV} (h : GotK now timeout K) (hi : 1 < id) : GotK now timeout (putK K id s) := by
  obtain ⟨s1, h1, h2⟩ := h
  exact ⟨s1, by rw [getK_put, if_neg (by omega)]; exact h1, h2⟩
theorem ok_late {tick timeout now now' : Int} {O : List Int} {K : List KV} (h : OkK tick timeout now O K) (hn : now ≤ now') : OkK tick timeout now' O (lateK K now') := fun x hx => by
  have := h x (mem_late.1 hx).1
  exact ⟨by omega, this.2⟩
theorem ok_len {tick timeout now : Int} {O : List Int} {K : List KV} (h : OkK tick timeout now O K) (h1 : OneK K) : K.length ≤ O.length + 1 := by
  have h1 : (K.map (fun x : KV => x.1)).Nodup := h1
  have := nodup_len (K.map (fun x : KV => x.1)) (1 :: O) h1 fun i hi => by
    obtain ⟨x, hx, rfl⟩ := List.mem_map.1 hi
    rcases (h x hx).2 with e | e
    · rw [e]; simp
    · exact List.mem_cons_of_mem _ e
  rwa [List.length_map, List.length_cons] at this
theorem not_told {now timeout now' : Int} {K : List KV} {E : List Int} (h : GotK now timeout K) (h1 : OneK K) (hn : now' ≤ now + timeout) (hE : ∀ i, i ∈ E ↔ i ∈ overK K now') : ∀ j, j < E.length → E[j]! ≠ 1 := fun j hj e => by
  have hm : (1 : Int) ∈ E := by rw [← e, getElem!_pos E j hj]; exact List.getElem_mem _
  obtain ⟨s, h2, h3⟩ := (mem_over h1 now' 1).1 ((hE 1).1 hm)
  obtain ⟨s1, h4, h5⟩ := h
  rw [h4] at h2
  injection h2 with h2
  omega
theorem count_nodup : ∀ (E : List Int), E.Nodup → 1 ∈ E → E.count 1 = 1
  | x :: r, hn, hm => by
    rw [List.nodup_cons] at hn
    by_cases hx : x = 1
    · subst hx
      rw [List.count_cons_self, List.count_eq_zero.2 hn.1]
    · rcases List.mem_cons.1 hm with e | hm
      · exact absurd e.symm hx
      · rw [List.count_cons_of_ne hx]
        exact count_nodup r hn.2 hm
theorem told_once {tick timeout now : Int} {O : List Int} {K : List KV} {E : List Int} (h : OkK tick timeout now O K) (hg : GotK now timeout K) (h1 : OneK K) (hE : ∀ i, i ∈ E ↔ i ∈ overK K (now + timeout + tick)) (hn : E.Nodup) : E.count 1 = 1 ∧ lateK K (now + timeout + tick) = [] := by
  refine ⟨count_nodup E hn ((hE 1).2 ((mem_over h1 _ 1).2 ?_)), late_nil fun x hx => (h x hx).1⟩
  obtain ⟨s, h2, _⟩ := hg
  exact ⟨s, h2, (h _ (getK_mem K 1 s h2)).1⟩
theorem exp_len {K : List KV} {E : List Int} {now : Int} (hE : ∀ i, i ∈ E ↔ i ∈ overK K now) (hN : E.Nodup) : E.length ≤ K.length := by
  have := nodup_len E (K.map (fun x : KV => x.1)) hN (fun i hi => by
    have hm := (hE i).1 hi
    unfold overK at hm
    obtain ⟨x, hx, rfl⟩ := List.mem_map.1 hm
    exact List.mem_map.2 ⟨x, (List.mem_filter.1 hx).1, rfl⟩)
  rwa [List.length_map] at this
theorem count_take {E : List Int} {k : Nat} (h : k < E.length) : (E.take (k + 1)).count 1 = (E.take k).count 1 + if E[k]! = 1 then 1 else 0 := by
  rw [take_bang h, List.count_append]
  congr 1
  by_cases e : E[k]! = 1
  · rw [if_pos e, e]; rfl
  · rw [if_neg e, List.count_eq_zero]
    rw [List.mem_singleton]
    exact fun e' => e e'.symm
end Go.Proofs.YtfnigjeklcagnaaGreatDoor
