/- What a queue answers, by definition: who has a zxid, the greatest that is chosen, how many are ready. No program; no condition. The walk of the queue's chosen. Condition: at most 1024 voters, their groups int. The walks of sort.Search at a closure that only reads, and of the queue's Ready. Condition: at most 4096 proposals, rising zxids; at most 1024 voters. The walks of the queue's Ack and Acked. Condition: as at Ready. -/
import Derived.Test.YtbpmmmnphpkdjaaGreatDoorZQuoM
import Derived.Test.YtbpmmmnphpkdjaaGreatDoorZQueE
import Derived.BigQuiet
import Derived.Deep.QuietTactic
namespace Go.Proofs.YtbpmmmnphpkdjaaGreatDoor
/-- the voters that have all up to z -/
def hasI (ak : List Int) (z : Int) : List Int := ((List.range ak.length).filter (fun i => decide (z ≤ ak[i]!))).map (fun i : Nat => (i : Int))
theorem hasI_mem {ak : List Int} {z : Int} {i : Nat} : (i : Int) ∈ hasI ak z ↔ i < ak.length ∧ z ≤ ak[i]! := by
  unfold hasI
  rw [List.mem_map]
  constructor
  · rintro ⟨j, hj, e⟩
    obtain rfl : j = i := by omega
    rw [List.mem_filter, List.mem_range, decide_eq_true_eq] at hj
    exact hj
  · intro h
    exact ⟨i, by rw [List.mem_filter, List.mem_range, decide_eq_true_eq]; exact h, rfl⟩
theorem hasI_nat {ak : List Int} {z x : Int} (h : x ∈ hasI ak z) : ∃ i : Nat, x = (i : Int) ∧ i < ak.length ∧ z ≤ ak[i]! := by
  have h0 := h
  unfold hasI at h
  obtain ⟨j, _, e⟩ := List.mem_map.1 h
  rw [← e] at h0
  exact ⟨j, e.symm, hasI_mem.1 h0⟩
theorem hasI_sub {ak : List Int} {y z : Int} (h : y ≤ z) : ∀ x ∈ hasI ak z, x ∈ hasI ak y := by
  intro x hx
  obtain ⟨i, rfl, h1, h2⟩ := hasI_nat hx
  exact hasI_mem.2 ⟨h1, by omega⟩
/-- have a quorum z? -/
def chB (vs : List VtV) (ak : List Int) (z : Int) : Bool := quorumB vs (hasI ak z)
theorem chB_down {vs : List VtV} {ak : List Int} {y z : Int} (h : y ≤ z) (hc : chB vs ak z = true) : chB vs ak y = true := quorum_mono vs (hasI_sub h) hc
def bestF (vs : List VtV) (ak : List Int) (b : Int) (l : List Int) : Int := l.foldl (fun b z => if b < z ∧ chB vs ak z = true then z else b) b
theorem bestF_cons (vs : List VtV) (ak : List Int) (b z : Int) (l : List Int) : bestF vs ak b (z :: l) = bestF vs ak (if b < z ∧ chB vs ak z = true then z else b) l := rfl
theorem bestF_ge (vs : List VtV) (ak : List Int) : ∀ (l : List Int) (b y : Int), y ≤ bestF vs ak b l ↔ y ≤ b ∨ ∃ z ∈ l, y ≤ z ∧ b < z ∧ chB vs ak z = true
  | [], b, y => by simp [bestF]
  | z :: l, b, y => by
    rw [bestF_cons, bestF_ge vs ak l]
    by_cases hc : b < z ∧ chB vs ak z = true
    · rw [if_pos hc]
      constructor
      · rintro (h | ⟨x, hx, h1, h2, h3⟩)
        · exact .inr ⟨z, List.mem_cons_self, h, hc.1, hc.2⟩
        · exact .inr ⟨x, List.mem_cons_of_mem _ hx, h1, by omega, h3⟩
      · rintro (h | ⟨x, hx, h1, h2, h3⟩)
        · exact .inl (by omega)
        · rcases List.mem_cons.1 hx with rfl | hx
          · exact .inl h1
          · by_cases h4 : z < x
            · exact .inr ⟨x, hx, h1, h4, h3⟩
            · exact .inl (by omega)
    · rw [if_neg hc]
      constructor
      · rintro (h | ⟨x, hx, h1⟩)
        · exact .inl h
        · exact .inr ⟨x, List.mem_cons_of_mem _ hx, h1⟩
      · rintro (h | ⟨x, hx, h1, h2, h3⟩)
        · exact .inl h
        · rcases List.mem_cons.1 hx with rfl | hx
          · exact absurd ⟨h2, h3⟩ hc
          · exact .inr ⟨x, hx, h1, h2, h3⟩
def chosenZ (vs : List VtV) (ak : List Int) (last : Int) : Int := if ak.length = 0 then last else bestF vs ak 0 ak
/-- the document's: is z chosen? -/
def refCh (vs : List VtV) (ak : List Int) (z : Int) : Bool := decide (ak.length = 0) || chB vs ak z
theorem list_min (ak : List Int) (i : Nat) (z : Int) (hi : i < ak.length) (hz : z ≤ ak[i]!) : ∃ m ∈ ak, z ≤ m ∧ ∀ x ∈ ak, z ≤ x → m ≤ x := by
  have key : ∀ l : List Int, (∃ y ∈ l, z ≤ y) → ∃ m ∈ l, z ≤ m ∧ ∀ x ∈ l, z ≤ x → m ≤ x := by
    intro l
    induction l with
    | nil => rintro ⟨y, hy, _⟩; cases hy
    | cons a r ih =>
      rintro ⟨y, hy, hzy⟩
      by_cases hr : ∃ y ∈ r, z ≤ y
      · obtain ⟨m, hm, h1, h2⟩ := ih hr
        by_cases ha : z ≤ a ∧ a < m
        · exact ⟨a, List.mem_cons_self, ha.1, fun x hx hzx => by
            rcases List.mem_cons.1 hx with rfl | hx
            · omega
            · have := h2 x hx hzx; omega⟩
        · exact ⟨m, List.mem_cons_of_mem _ hm, h1, fun x hx hzx => by
            rcases List.mem_cons.1 hx with rfl | hx
            · omega
            · exact h2 x hx hzx⟩
      · rcases List.mem_cons.1 hy with rfl | hy
        · exact ⟨y, List.mem_cons_self, hzy, fun x hx hzx => by
            rcases List.mem_cons.1 hx with rfl | hx
            · omega
            · exact absurd ⟨x, hx, hzx⟩ hr⟩
        · exact absurd ⟨y, hy, hzy⟩ hr
  exact key ak ⟨ak[i]!, by rw [getElem!_pos ak i hi]; exact List.getElem_mem hi, hz⟩
/-- the least that those who have z have is chosen with z -/
theorem chosen_iff {vs : List VtV} {ak : List Int} {last z : Int} (h1 : 1 ≤ z) (hl : z ≤ last) : z ≤ chosenZ vs ak last ↔ refCh vs ak z = true := by
  unfold chosenZ refCh
  by_cases h0 : ak.length = 0
  · rw [if_pos h0, decide_eq_true h0]; simp [hl]
  · rw [if_neg h0, decide_eq_false h0, Bool.false_or, bestF_ge]
    constructor
    · rintro (h | ⟨x, _, hzx, _, hc⟩)
      · omega
      · exact chB_down hzx hc
    · intro hc
      right
      have hne : ∃ i, i < ak.length ∧ z ≤ ak[i]! := by
        apply Classical.byContradiction
        intro hn
        have : hasI ak z = [] := by
          rw [List.eq_nil_iff_forall_not_mem]
          intro x hx
          obtain ⟨i, _, h⟩ := hasI_nat hx
          exact hn ⟨i, h⟩
        unfold chB at hc
        rw [this, quorum_nil] at hc
        cases hc
      obtain ⟨i, hi, hz⟩ := hne
      obtain ⟨m, hm, h2, h3⟩ := list_min ak i z hi hz
      refine ⟨m, hm, h2, by omega, ?_⟩
      unfold chB at hc ⊢
      refine quorum_mono vs (fun x hx => ?_) hc
      obtain ⟨j, rfl, hj, hzj⟩ := hasI_nat hx
      refine hasI_mem.2 ⟨hj, h3 _ ?_ hzj⟩
      rw [getElem!_pos ak j hj]; exact List.getElem_mem hj
def readyN (zs : List Int) (z : Int) : Nat := (zs.takeWhile (fun x => decide (x ≤ z))).length
def refReady (vs : List VtV) (ak : List Int) (zs : List Int) : Nat := (zs.takeWhile (refCh vs ak)).length
theorem takeWhile_same {α : Type} {p q : α → Bool} : ∀ {l : List α}, (∀ x ∈ l, p x = q x) → l.takeWhile p = l.takeWhile q
  | [], _ => rfl
  | x :: l, h => by
    rw [List.takeWhile_cons, List.takeWhile_cons, h x List.mem_cons_self, takeWhile_same fun y hy => h y (List.mem_cons_of_mem _ hy)]
theorem ready_ref {vs : List VtV} {ak zs : List Int} {last : Int} (h : ∀ z ∈ zs, 1 ≤ z ∧ z ≤ last) : readyN zs (chosenZ vs ak last) = refReady vs ak zs := by
  unfold readyN refReady
  rw [takeWhile_same fun z hz => ?_]
  rw [Bool.eq_iff_iff, decide_eq_true_eq]
  exact chosen_iff (h z hz).1 (h z hz).2
theorem readyN_le (zs : List Int) (z : Int) : readyN zs z ≤ zs.length := by
  unfold readyN
  exact (List.takeWhile_sublist _).length_le
/-- rising numbers -/
def RiseZ (zs : List Int) : Prop := zs.Pairwise (· < ·)
theorem readyN_cons (x : Int) (zs : List Int) (z : Int) : readyN (x :: zs) z = if x ≤ z then readyN zs z + 1 else 0 := by
  unfold readyN
  rw [List.takeWhile_cons]
  by_cases h : x ≤ z
  · rw [if_pos h, if_pos (by simpa using h)]; rfl
  · rw [if_neg h, if_neg (by simpa using h)]; rfl
theorem readyN_mono {zs : List Int} {y z : Int} (h : y ≤ z) : readyN zs y ≤ readyN zs z := by
  induction zs with
  | nil => exact Nat.le_refl _
  | cons x r ih =>
    rw [readyN_cons, readyN_cons]
    by_cases h1 : x ≤ y
    · rw [if_pos h1, if_pos (by omega)]; omega
    · rw [if_neg h1]; omega
/-- of rising numbers: just the first ones are at most z -/
theorem readyN_iff {zs : List Int} {z : Int} (hr : RiseZ zs) : ∀ i, i < zs.length → (zs[i]! ≤ z ↔ i < readyN zs z) := by
  induction zs with
  | nil => intro i hi; simp at hi
  | cons x r ih =>
    intro i hi
    have hx := (List.pairwise_cons.1 hr).1
    have hr' := (List.pairwise_cons.1 hr).2
    rw [readyN_cons]
    cases i with
    | zero =>
      show x ≤ z ↔ _
      by_cases h : x ≤ z
      · rw [if_pos h]; simp [h]
      · rw [if_neg h]; simp [h]
    | succ i =>
      have hi' : i < r.length := by simpa using hi
      have e : (x :: r)[i + 1]! = r[i]! := by simp
      rw [e]
      by_cases h : x ≤ z
      · rw [if_pos h, ih hr' i hi']; omega
      · rw [if_neg h]
        have := hx r[i]! (by rw [getElem!_pos r i hi']; exact List.getElem_mem hi')
        constructor
        · intro h2; omega
        · intro h2; omega
/-- acknowledgements -/
def ackL (ak : List Int) (v : Nat) (z : Int) : List Int := ak.set v (max ak[v]! z)
theorem ackL_len (ak : List Int) (v : Nat) (z : Int) : (ackL ak v z).length = ak.length := by simp [ackL]
theorem ackL_at (ak : List Int) (v : Nat) (z : Int) (i : Nat) (hi : i < ak.length) : (ackL ak v z)[i]! = if v = i then max ak[i]! z else ak[i]! := by
  unfold ackL
  rw [getElem!_pos _ i (by simpa using hi), List.getElem_set]
  by_cases h : v = i
  · subst h; rw [if_pos rfl, if_pos rfl]
  · rw [if_neg h, if_neg h, getElem!_pos ak i hi]
theorem hasI_ack {ak : List Int} {v : Nat} {z y : Int} : ∀ x ∈ hasI ak y, x ∈ hasI (ackL ak v z) y := by
  intro x hx
  obtain ⟨i, rfl, h1, h2⟩ := hasI_nat hx
  refine hasI_mem.2 ⟨by rw [ackL_len]; exact h1, ?_⟩
  rw [ackL_at _ _ _ _ h1]
  split <;> omega
theorem refCh_ack {vs : List VtV} {ak : List Int} {v : Nat} {z y : Int} (h : refCh vs ak y = true) : refCh vs (ackL ak v z) y = true := by
  unfold refCh at h ⊢
  rw [ackL_len]
  rw [Bool.or_eq_true] at h ⊢
  exact h.imp id fun h => quorum_mono vs hasI_ack h
theorem takeWhile_mono {α : Type} {p q : α → Bool} (h : ∀ x, p x = true → q x = true) : ∀ l : List α, (l.takeWhile p).length ≤ (l.takeWhile q).length
  | [] => Nat.le_refl _
  | x :: l => by
    rw [List.takeWhile_cons, List.takeWhile_cons]
    by_cases hp : p x = true
    · rw [if_pos hp, if_pos (h x hp)]; have := takeWhile_mono h l; simp; exact this
    · rw [if_neg hp]; simp
theorem refReady_ack {vs : List VtV} {ak zs : List Int} {v : Nat} {z : Int} : refReady vs ak zs ≤ refReady vs (ackL ak v z) zs := takeWhile_mono (fun _ h => refCh_ack h) zs
/-- all numbers 0: none is chosen -/
theorem refReady_zero {vs : List VtV} {ak zs : List Int} (h0 : 0 < ak.length) (hk : ∀ i, i < ak.length → ak[i]! ≤ 0) (hz : ∀ z ∈ zs, 1 ≤ z) : refReady vs ak zs = 0 := by
  cases zs with
  | nil => rfl
  | cons x r =>
    unfold refReady
    rw [List.takeWhile_cons, if_neg]
    · rfl
    · have hx := hz x List.mem_cons_self
      have : hasI ak x = [] := by
        rw [List.eq_nil_iff_forall_not_mem]
        intro y hy
        obtain ⟨i, _, h1, h2⟩ := hasI_nat hy
        have := hk i h1
        omega
      unfold refCh chB
      rw [this, quorum_nil, decide_eq_false (by omega)]; simp
/-- voters of one group and one weight -/
def cntF (hv : List Int) : Nat → Nat → Nat
  | _, 0 => 0
  | i, n + 1 => (if (i : Int) ∈ hv then 1 else 0) + cntF hv (i + 1) n
theorem gsum_rep (g wt x : Int) : ∀ n, gsum (List.replicate n (g, wt)) x = if g = x then (n : Int) * wt else 0
  | 0 => by simp [gsum]
  | n + 1 => by
    rw [List.replicate_succ]
    show (if g = x then wt else 0) + _ = _
    rw [gsum_rep g wt x n]
    by_cases h : g = x
    · rw [if_pos h, if_pos h, if_pos h, show ((n + 1 : Nat) : Int) = (n : Int) + 1 by omega, Int.add_mul, Int.one_mul]; omega
    · rw [if_neg h, if_neg h, if_neg h]; rfl
theorem msum_rep (hv : List Int) (g wt : Int) : ∀ n i, msum hv i (List.replicate n (g, wt)) g = (cntF hv i n : Int) * wt
  | 0, i => by simp [msum, cntF]
  | n + 1, i => by
    rw [List.replicate_succ]
    show (if g = g ∧ (i : Int) ∈ hv then wt else 0) + _ = _
    rw [msum_rep hv g wt n (i + 1), show cntF hv i (n + 1) = (if (i : Int) ∈ hv then 1 else 0) + cntF hv (i + 1) n from rfl]
    by_cases h : (i : Int) ∈ hv
    · rw [if_pos ⟨rfl, h⟩, if_pos h, show ((1 + cntF hv (i + 1) n : Nat) : Int) = 1 + (cntF hv (i + 1) n : Int) by omega, Int.add_mul, Int.one_mul]
    · rw [if_neg (fun q => h q.2), if_neg h, Nat.zero_add, Int.zero_add]
theorem quorum_equal (hv : List Int) (n : Nat) (g wt : Int) (h0 : 0 < n) (h9 : n ≤ 9) (hw : 0 < wt) (hw2 : wt ≤ 4294967296) : quorumB (List.replicate n (g, wt)) hv = decide (n < 2 * cntF hv 0 n) := by
  have hpos : 0 < (n : Int) * wt := Int.mul_pos (by omega) hw
  rw [quorum_by (List.replicate n (g, wt)) hv [g] (by simp) (fun x => by
    rw [gsum_rep]
    by_cases h : g = x
    · rw [if_pos h]; simp [h, hpos]
    · rw [if_neg h]; simp [Ne.symm h])]
  have hf : fitB (List.replicate n (g, wt)) = true := by
    unfold fitB
    have h1 : (List.replicate n (g, wt)).all (fun v => decide (0 ≤ v.2 ∧ v.2 ≤ 4294967296)) = true := by
      rw [List.all_eq_true]; intro v hv; rw [(List.mem_replicate.1 hv).2, decide_eq_true_eq]; exact ⟨by show 0 ≤ wt; omega, hw2⟩
    have h2 : (List.replicate n (g, wt)).any (fun v => decide (0 < v.2)) = true := by
      rw [List.any_eq_true]; exact ⟨(g, wt), List.mem_replicate.2 ⟨by omega, rfl⟩, by simpa using hw⟩
    rw [h1, h2]; simp; exact h9
  rw [hf, Bool.true_and, List.countP_cons]
  unfold wonB
  rw [gsum_rep, msum_rep, if_pos rfl]
  have e : ((n : Int) * wt < 2 * ((cntF hv 0 n : Int) * wt)) ↔ n < 2 * cntF hv 0 n := by
    rw [← Int.mul_assoc]
    constructor
    · intro h; have := Int.lt_of_mul_lt_mul_right h (by omega); omega
    · intro h; exact Int.mul_lt_mul_of_pos_right (by omega) hw
  by_cases hc : n < 2 * cntF hv 0 n
  · rw [if_pos (decide_eq_true (e.2 hc)), decide_eq_true hc]; simp
  · rw [if_neg (by rw [decide_eq_true_eq]; exact fun h => hc (e.1 h)), decide_eq_false hc]; simp
theorem cntF_have (z : Int) (hv : List Int) : ∀ (l : List Int) (i : Nat), (∀ k, k < l.length → (((i + k : Nat) : Int) ∈ hv ↔ z ≤ l[k]!)) → cntF hv i l.length = l.countP (fun x => decide (z ≤ x))
  | [], _, _ => rfl
  | x :: l, i, h => by
    have h0 := h 0 (by simp)
    have ih := cntF_have z hv l (i + 1) (fun k hk => by
      have := h (k + 1) (by simpa using hk)
      rw [show i + (k + 1) = i + 1 + k by omega] at this
      simpa using this)
    show (if (i : Int) ∈ hv then 1 else 0) + cntF hv (i + 1) l.length = _
    rw [ih, List.countP_cons]
    have h0 : (i : Int) ∈ hv ↔ z ≤ x := by simpa using h0
    by_cases hc : z ≤ x
    · rw [if_pos (h0.2 hc), if_pos (decide_eq_true hc)]; omega
    · rw [if_neg (fun q => hc (h0.1 q)), if_neg (by simpa using hc)]; omega
/-- of voters of one weight: more than half have z -/
theorem chB_equal (ak : List Int) (g wt z : Int) (h0 : 0 < ak.length) (h9 : ak.length ≤ 9) (hw : 0 < wt) (hw2 : wt ≤ 4294967296) : chB (List.replicate ak.length (g, wt)) ak z = decide (ak.length < 2 * ak.countP (fun x => decide (z ≤ x))) := by
  unfold chB
  rw [quorum_equal _ _ g wt h0 h9 hw hw2, cntF_have z _ ak 0 fun k hk => by rw [Nat.zero_add, hasI_mem]; exact ⟨fun h => h.2, fun h => ⟨hk, h⟩⟩]
theorem refCh_equal (ak : List Int) (g wt g' wt' z : Int) (h9 : ak.length ≤ 9) (hw : 0 < wt) (hw2 : wt ≤ 4294967296) (hw' : 0 < wt') (hw2' : wt' ≤ 4294967296) : refCh (List.replicate ak.length (g, wt)) ak z = refCh (List.replicate ak.length (g', wt')) ak z := by
  unfold refCh
  by_cases h0 : ak.length = 0
  · rw [decide_eq_true h0]; rfl
  · rw [chB_equal ak g wt z (by omega) h9 hw hw2, chB_equal ak g' wt' z (by omega) h9 hw' hw2']
theorem chosen_equal (ak : List Int) (g wt g' wt' last : Int) (h9 : ak.length ≤ 9) (hw : 0 < wt) (hw2 : wt ≤ 4294967296) (hw' : 0 < wt') (hw2' : wt' ≤ 4294967296) : chosenZ (List.replicate ak.length (g, wt)) ak last = chosenZ (List.replicate ak.length (g', wt')) ak last := by
  unfold chosenZ
  by_cases h0 : ak.length = 0
  · rw [if_pos h0, if_pos h0]
  · rw [if_neg h0, if_neg h0]
    have : chB (List.replicate ak.length (g, wt)) ak = chB (List.replicate ak.length (g', wt')) ak := by
      funext z
      rw [chB_equal ak g wt z (by omega) h9 hw hw2, chB_equal ak g' wt' z (by omega) h9 hw' hw2']
    unfold bestF
    rw [this]
end Go.Proofs.YtbpmmmnphpkdjaaGreatDoor
namespace Go.Proofs.YtbpmmmnphpkdjaaGreatDoor
open Go.RowKit Go.MapKept Go.Maps
theorem elemN : Elem encN 23 3 1 8 (.int .i64 0) := ⟨Tryz.underlying23, by kernel_rfl, rfl, fun _ => rfl, by decide, fun x u hu => by simp [encN] at hu; subst hu; rfl, by decide⟩
def hasF (ak : List Int) (z : Int) (j : Nat) : List Int := ((List.range j).filter (fun i => decide (z ≤ ak[i]!))).map (fun i : Nat => (i : Int))
theorem hasF_succ (ak : List Int) (z : Int) (j : Nat) : hasF ak z (j + 1) = if z ≤ ak[j]! then hasF ak z j ++ [(j : Int)] else hasF ak z j := by
  unfold hasF
  rw [List.range_succ, List.filter_append, List.map_append]
  by_cases h : z ≤ ak[j]!
  · rw [if_pos h, List.filter_cons, if_pos (decide_eq_true h)]; simp
  · rw [if_neg h, List.filter_cons, if_neg (by simpa using h)]; simp
theorem hasF_le (ak : List Int) (z : Int) (j : Nat) : (hasF ak z j).length ≤ j := by
  unfold hasF
  rw [List.length_map]
  exact Nat.le_trans (List.length_filter_le _ _) (by simp)
theorem hasF_all (ak : List Int) (z : Int) : hasF ak z ak.length = hasI ak z := rfl
theorem bestF_take (vs : List VtV) (ak : List Int) (k : Nat) (hk : k < ak.length) : bestF vs ak 0 (ak.take (k + 1)) = if bestF vs ak 0 (ak.take k) < ak[k]! ∧ chB vs ak ak[k]! = true then ak[k]! else bestF vs ak 0 (ak.take k) := by
  rw [take_snoc ak k hk]
  show List.foldl _ _ _ = _
  rw [List.foldl_append]
  rfl
def ChsP (z : Int) (w : World) (e : Ending) (w' : World) : Prop := e = .returned (.int .i64 z) ∧ Below w.heap.size w w'
theorem ChsP.mk {z x : Int} {w w' : World} (h : z = x) (hb : Below w.heap.size w w') : ChsP z w (.returned (.int .i64 x)) w' := ⟨by rw [h], hb⟩
/-- what the inner loop has -/
def HasR (base : Nat) (l : List Int) (v : Value) (wr : World) : Prop := ∃ A c, v = .slice A l.length c ∧ wr.ownsRow base 3 1 (.slice A l.length c) l.length (l.flatMap encN)
set_option maxRecDepth 100000 in
set_option maxHeartbeats 20000000 in
theorem chosen_any (bq : Nat) (x : QuX) (R : Nat → Prop) (st : QuT) (w : World) (hq : QuAt w bq x R st) (hg : ∀ v ∈ st.vs, wfI v.1) (hn : st.acked.length ≤ 1024) :
    Calls Tryz.prog 66 #[.pointer (some ⟨bq, 0, none⟩)] w (ChsP (chosenZ st.vs st.acked st.last) w) := by
  have hltq : bq < w.heap.size := (Array.getElem?_eq_some_iff.1 hq.box).1
  have c5 : w.cell? ⟨bq, 5, none⟩ = some (.slice x.aA st.acked.length x.ac) := by rw [cellH hq.box]; rfl
  have HQ := Lib.hid hq; have HG := Lib.hid hg; have HLQ := Lib.hid hltq
  by_cases h0 : st.acked.length = 0
  · have c6 : w.cell? ⟨bq, 6, none⟩ = some (.int .i64 st.last) := by rw [cellH hq.box]; rfl
    have HZ := Lib.hid (show chosenZ st.vs st.acked st.last = st.last from if_pos h0)
    rw [h0] at c5
    clear hq hg hltq hn h0
    go_enter Tryz.func66, Tryz.ntmps66
    go_wp2_with fail
    go_ret
    exact ChsP.mk HZ.out (Below.refl _ _)
  · have hack := hq.ack
    have ha : x.aA = some ⟨x.ga, 0, none⟩ ∧ w.there x.ga 0 st.acked.length ∧ ∀ j, j < st.acked.length → w.cell? ⟨x.ga, j, none⟩ = some (.int .i64 st.acked[j]!) := by
      rcases hack with h | h
      · exact absurd h.1 h0
      · exact h
    obtain ⟨hA, -, hcs⟩ := ha
    have HZ := Lib.hid (show chosenZ st.vs st.acked st.last = bestF st.vs st.acked 0 (st.acked.take st.acked.length) from by rw [List.take_length]; exact if_neg h0)
    have hb0 : ((st.acked.length : Int) == 0) = false := beq_eq_false_iff_ne.2 (by omega)
    rw [hA] at c5
    have HC := Lib.hid hcs
    have HAL := Lib.hid hq.acl
    have HQV := Lib.hid (fun (z : Int) (W : World) (A : Option Addr) (n c : Nat) (hv : List Int) (hb : Below w.heap.size w W) (hs : Sl W W.heap.size encN 1 A n hv) (hn : n ≤ 1024) => quorum_any x.vh.1 x.vh.2.1 x.vh.2.2 st.vs A n c hv W (((HQ.out.below hb).vs).sl (fun _ => by simp [encVt])) HG.out hs (by omega))
    have HVC := Lib.hid (show ∀ W : World, Below w.heap.size w W → W.cell? ⟨bq, 4, none⟩ = some (slV x.vh) from fun W hb => by rw [cellH (HQ.out.below hb).box]; rfl)
    have HC5 := Lib.hid c5
    clear hq hg hltq hack hcs hA
    generalize hN : st.acked.length = n at *
    have HN := Lib.hid hN; clear hN
    go_enter Tryz.func66, Tryz.ntmps66
    go_wp2_with fail
    clear c5 hb0
    go_loopw [3, 24] (fun b i wr => ∃ k : Nat, i = .int .i64 ↑k ∧ k ≤ n ∧ b = .int .i64 (bestF st.vs st.acked 0 (st.acked.take k)) ∧ Below w.heap.size w wr) (fun _ i _ => n - (intOf i).toNat)
    case atStart => exact ⟨0, rfl, Nat.zero_le _, rfl, Below.refl _ _⟩
    case round =>
      obtain ⟨k, rfl, hk, rfl, hb⟩ := hrel
      have HB := Lib.hid hb; clear hb
      by_cases hlt : k < n
      · have HBT := Lib.hid (bestF_take st.vs st.acked k (by rw [HN.out]; exact hlt))
        have hz : wr.cell? ⟨x.ga, k, none⟩ = some (.int .i64 st.acked[k]!) := keep1 (HC.out k hlt) HB.out
        have c5 := keep1 HC5.out HB.out
        generalize bestF st.vs st.acked 0 (st.acked.take k) = bs at *
        generalize hZ : st.acked[k]! = z at *
        have HZk := Lib.hid hZ; clear hZ
        go_wp2_with fail
        clear hz c5
        obtain ⟨wo, hwo⟩ : ∃ wo : World, wo = wr := ⟨_, rfl⟩
        subst hwo
        go_loopw [6, 33] (fun v i wr => ∃ j : Nat, i = .int .i64 ↑j ∧ j ≤ n ∧ HasR wo.heap.size (hasF st.acked z j) v wr ∧ Below wo.heap.size wo wr) (fun _ i _ => n - (intOf i).toNat)
        case atStart => exact ⟨0, rfl, Nat.zero_le _, ⟨none, 0, rfl, ⟨rfl, .inl ⟨rfl, rfl⟩⟩⟩, Below.refl _ _⟩
        case round =>
          obtain ⟨j, rfl, hj, ⟨A, c, rfl, hown⟩, hb2⟩ := hrel
          have HOW := Lib.hid hown; have HB2 := Lib.hid hb2; clear hown hb2
          have HBB := Lib.hid (HB.out.trans (HB2.out.mono HB.out.size))
          by_cases hlj : j < n
          · have hxj : wr.cell? ⟨x.ga, j, none⟩ = some (.int .i64 st.acked[j]!) := keep1 (HC.out j hlj) HBB.out
            have HSU := Lib.hid (hasF_succ st.acked z j)
            have HLE := Lib.hid (hasF_le st.acked z j)
            generalize hasF st.acked z j = hv at *
            generalize st.acked[j]! = y at *
            by_cases hy : z ≤ y
            · have HS1 := Lib.hid (show hasF st.acked z (j + 1) = hv ++ [(j : Int)] by rw [HSU.out, if_pos hy])
              have by_ : decide (z ≤ y) = true := decide_eq_true hy
              clear hy HSU
              have HB3 := Lib.hid ((Below.refl _ wr).alloc (Nat.le_refl _) (.cells #[.int .i64 (j : Int)] 3))
              have HO3 := Lib.hid (own_later HOW.out HB3.out)
              have HSL := Lib.hid (show Sl (wr.alloc (.cells #[.int .i64 (j : Int)] 3)) (wr.alloc (.cells #[.int .i64 (j : Int)] 3)).heap.size encN 1 (some ⟨wr.heap.size, 0, none⟩) 1 [(j : Int)] from ⟨rfl, fun _ => ⟨wr.heap.size, 0, rfl, by rw [sz1]; omega, fun i hi a u hu => by
                have hi0 : i = 0 := by omega
                subst hi0
                rw [cellH (heap_s0 wr _)]
                match a, hu with
                | 0, hu => exact hu⟩⟩)
              go_wp2_with (at_builtin; refine wpList_appG elemN rfl _ _ rfl wo.heap.size A hv.length c hv ?hx1 HO3.out (some ⟨wr.heap.size, 0, none⟩) 1 1 [(j : Int)] ?hy1 HSL.out (fun e => by cases e) (by have := HLE.out; omega) (Nat.le_trans HB2.out.size HB3.out.size) ?hk1)
              (try case hx1 => rfl)
              (try case hy1 => rfl)
              case hk1 =>
                intro A8 c8 w8 hv8 hb8
                have HB8 := Lib.hid hb8; have HV8 := Lib.hid hv8
                clear hv8 hb8
                go_wp2_with fail
                go_roundw
                case rel =>
                  refine ⟨j + 1, by go_num, by omega, ?_, (HB2.out.trans (HB3.out.mono HB2.out.size)).trans HB8.out⟩
                  rw [HS1.out]
                  exact ⟨A8, c8, by simp, by rw [List.length_append, List.length_singleton, List.flatMap_append]; simpa using HV8.out⟩
                case measure => simp [intOf]; omega
            · have HS1 := Lib.hid (show hasF st.acked z (j + 1) = hv by rw [HSU.out, if_neg hy])
              have by_ : decide (z ≤ y) = false := decide_eq_false hy
              clear hy HSU
              go_wp2_with fail
              go_roundw
              case rel => exact ⟨j + 1, by go_num, by omega, by rw [HS1.out]; exact ⟨A, c, rfl, HOW.out⟩, HB2.out⟩
              case measure => simp [intOf]; omega
          · obtain rfl : j = n := by omega
            have hfull : hasF st.acked z j = hasI st.acked z := by rw [← HN.out]; exact hasF_all _ _
            rw [hfull] at HOW
            have hlen : (hasF st.acked z j).length = (hasI st.acked z).length := by rw [hfull]
            have hle9 := hasF_le st.acked z j
            rw [hlen] at hle9
            have HCL := Lib.hid (HQV.out z wr A (hasI st.acked z).length c (hasI st.acked z) HBB.out ((own_slr HOW.out (fun _ => rfl) rfl).sl (fun _ => by simp [encN])) (by omega))
            have c4 := HVC.out wr HBB.out
            rw [hlen]
            clear hfull hlen hle9 HOW hlj
            generalize hHI : hasI st.acked z = hz2 at *
            have HCH := Lib.hid (show chB st.vs st.acked z = quorumB st.vs hz2 by rw [← hHI]; rfl)
            clear hHI
            by_cases hzb : bs < z
            · have bz : decide (bs < z) = true := decide_eq_true hzb
              have HZB := Lib.hid hzb; clear hzb
              cases hqb : quorumB st.vs hz2 with
              | true =>
                rw [hqb] at HCL HCH
                clear hqb
                go_wp2_with fail
                refine HCL.out.mono ?_
                rintro e w5 ⟨rfl, hb5⟩
                have HB5 := Lib.hid hb5; clear hb5
                go_wp2_with fail
                go_roundw
                case rel => exact ⟨k + 1, by go_num, by omega, by rw [HBT.out, if_pos ⟨HZB.out, HCH.out⟩], HBB.out.trans (HB5.out.mono HBB.out.size)⟩
                case measure => simp [intOf]; omega
              | false =>
                rw [hqb] at HCL HCH
                clear hqb
                go_wp2_with fail
                refine HCL.out.mono ?_
                rintro e w5 ⟨rfl, hb5⟩
                have HB5 := Lib.hid hb5; clear hb5
                go_wp2_with fail
                go_roundw
                case rel => exact ⟨k + 1, by go_num, by omega, by rw [HBT.out, if_neg (fun h => by have := h.2; rw [HCH.out] at this; cases this)], HBB.out.trans (HB5.out.mono HBB.out.size)⟩
                case measure => simp [intOf]; omega
            · have bz : decide (bs < z) = false := decide_eq_false hzb
              have HZB := Lib.hid hzb; clear hzb
              go_wp2_with fail
              go_roundw
              case rel => exact ⟨k + 1, by go_num, by omega, by rw [HBT.out, if_neg (fun h => HZB.out h.1)], HBB.out⟩
              case measure => simp [intOf]; omega
      · obtain rfl : k = n := by omega
        have HF := Lib.hid (show chosenZ st.vs st.acked st.last = bestF st.vs st.acked 0 (st.acked.take k) from HZ.out)
        go_wp2_with fail
        go_ret
        exact ChsP.mk HF.out HB.out
end Go.Proofs.YtbpmmmnphpkdjaaGreatDoor
namespace Go.Proofs.YtbpmmmnphpkdjaaGreatDoor
open Go.RowKit Go.MapKept Go.Maps
set_option maxRecDepth 100000 in
set_option maxHeartbeats 4000000 in
theorem search_any (g : Nat) (cb : Array Value) (eg : ∀ args w, (callFunc g args).run Tryz.prog w = .ok (.enter g args) w) (n r : Nat) (w : World) (hn : n ≤ 1048576) (hr : r ≤ n)
    (hf : ∀ (q i : Nat), i < n → Calls Tryz.prog g (#[.int .i64 i] ++ cb) (w.drewN q) fun e w' => e = .returned (.bool (decide (r ≤ i))) ∧ ∃ m, w' = w.drewN m) :
    Calls Tryz.prog 67 #[.int .i64 n, .func (.func g) #[] cb] w (RetV (.int .i64 r) w) := by
  have HF := Lib.hid hf
  clear hf
  go_enter Tryz.func67, Tryz.ntmps67
  go_wp2_with fail
  go_loopw [5, 6] (fun s5 s6 wr => ∃ lo hi q : Nat, s5 = .int .i64 lo ∧ s6 = .int .i64 hi ∧ lo ≤ r ∧ r ≤ hi ∧ hi ≤ n ∧ wr = w.drewN q) (fun a b _ => (intOf b).toNat - (intOf a).toNat)
  case atStart => exact ⟨0, n, 0, rfl, rfl, Nat.zero_le _, hr, Nat.le_refl _, rfl⟩
  case round =>
    obtain ⟨lo, hi, q, rfl, rfl, h1, h2, h3, rfl⟩ := hrel
    by_cases hlt : lo < hi
    · have hc := HF.out q ((lo + hi) / 2) (by omega)
      rw [show (((lo + hi) / 2 : Nat) : Int) = ((lo : Int) + (hi : Int)) / 2 by omega] at hc
      by_cases hp : r ≤ (lo + hi) / 2
      · rw [decide_eq_true hp] at hc
        have HP := Lib.hid hp; clear hp
        go_wp2_with fail
        refine hc.mono ?_
        rintro e w' ⟨rfl, nq, rfl⟩
        go_wp2_with fail
        go_roundw
        case rel => exact ⟨lo, (lo + hi) / 2, nq, rfl, by rw [show ((lo : Int) + (hi : Int)) / 2 = (((lo + hi) / 2 : Nat) : Int) by omega], h1, HP.out, by omega, rfl⟩
        case measure => simp [intOf]; omega
      · rw [decide_eq_false hp] at hc
        have HP := Lib.hid hp; clear hp
        go_wp2_with fail
        refine hc.mono ?_
        rintro e w' ⟨rfl, nq, rfl⟩
        go_wp2_with fail
        go_roundw
        case rel => exact ⟨(lo + hi) / 2 + 1, hi, nq, by rw [show ((lo : Int) + (hi : Int)) / 2 + 1 = (((lo + hi) / 2 + 1 : Nat) : Int) by omega], rfl, by have := HP.out; omega, h2, h3, rfl⟩
        case measure => simp [intOf]; omega
    · obtain rfl : hi = lo := by omega
      obtain rfl : r = hi := by omega
      go_wp2_with fail
      go_ret
      exact RetV.mk rfl q rfl
theorem at_q (bq gr cap first i : Nat) (W : World) (q : Nat) (c0 : W.cell? ⟨bq, 0, none⟩ = some (.slice (some ⟨gr, 0, none⟩) cap cap)) (c1 : W.cell? ⟨bq, 1, none⟩ = some (.int .i64 first)) (h1 : first < cap) (h2 : i < cap) (h3 : cap ≤ 1048576) :
    Calls Tryz.prog 69 #[.pointer (some ⟨bq, 0, none⟩), .int .i64 i] (W.drewN q) fun e w' => e = .returned (.pointer (some ⟨gr, ((first + i) % cap) * 45, none⟩)) ∧ ∃ n, w' = W.drewN n :=
  (at_any bq gr cap first i (W.drewN q) c0 c1 h1 h2 h3).mono fun _ _ h => ⟨h.1, q + 1, h.2⟩
def zxs (L : List PrT) : List Int := L.map (·.d.zx)
theorem zxs_len (L : List PrT) : (zxs L).length = L.length := by simp [zxs]
theorem zxs_at (L : List PrT) (i : Nat) (hi : i < L.length) : (zxs L)[i]! = L[i]!.d.zx := by
  rw [getElem!_pos (zxs L) i (by rw [zxs_len]; exact hi), getElem!_pos L i hi]; simp [zxs]
/-- the parts of a ring that is not empty -/
theorem RingAt.full {w : World} {A : Option Addr} {gr cap first : Nat} {R : Nat → Prop} {L : List PrT} (H : RingAt w A gr cap first R L) (h0 : 0 < L.length) : A = some ⟨gr, 0, none⟩ ∧ first < cap ∧ w.there gr 0 (cap * 45) := by
  have h1 := H.le
  refine ⟨?_, ?_, ?_⟩
  · rcases H.at_ with h | h
    · omega
    · exact h.2
  · rcases H.fst with h | h <;> omega
  · rcases H.th with h | h
    · exact h
    · omega
set_option maxRecDepth 100000 in
set_option maxHeartbeats 4000000 in
theorem ready1_any (bq b1 b2 i : Nat) (z : Int) (x : QuX) (R : Nat → Prop) (st : QuT) (w : World) (hq : QuAt w bq x R st) (c1 : w.cell? ⟨b1, 0, none⟩ = some (.pointer (some ⟨bq, 0, none⟩))) (c2 : w.cell? ⟨b2, 0, none⟩ = some (.int .i64 z)) (hi : i < st.L.length) (hcap : x.cap ≤ 8192) :
    Calls Tryz.prog 68 #[.int .i64 i, .pointer (some ⟨b1, 0, none⟩), .pointer (some ⟨b2, 0, none⟩)] w fun e w' => e = .returned (.bool (decide (z < st.L[i]!.d.zx))) ∧ ∃ m, w' = w.drewN m := by
  obtain ⟨hA, hf, -⟩ := hq.ring.full (by omega)
  have hle := hq.ring.le
  have hbx := hq.box
  rw [hA] at hbx
  obtain ⟨h, hr, hp⟩ := hq.ring.el i hi
  have hz := hp.1.1.2.2.1
  have cz : w.cell? ⟨x.gr, ((x.first + i) % x.cap) * 45 + 2, none⟩ = some (.int .i64 st.L[i]!.d.zx) := by rw [hz]; exact hr 2 _ rfl
  have HAT := Lib.hid (fun q => at_q bq x.gr x.cap x.first i w q (by rw [cellH hbx]; rfl) (by rw [cellH hbx]; rfl) hf (by omega) (by omega))
  generalize (x.first + i) % x.cap = m at *
  generalize st.L[i]!.d.zx = y at *
  clear hq hA hf hle hbx hr hp hz
  go_enter Tryz.func68, Tryz.ntmps68
  go_wp2_with fail
  go_quiet (exact HAT.out _)
  go_wp2_with fail
  go_ret
  exact ⟨rfl, _, rfl⟩
/-- how many are ready -/
noncomputable def rdN (st : QuT) : Nat := readyN (zxs st.L) (chosenZ st.vs st.acked st.last)
set_option maxRecDepth 100000 in
set_option maxHeartbeats 4000000 in
theorem ready_any (bq : Nat) (x : QuX) (R : Nat → Prop) (st : QuT) (w : World) (hq : QuAt w bq x R st) (hg : ∀ v ∈ st.vs, wfI v.1) (hn : st.acked.length ≤ 1024) (hr : RiseZ (zxs st.L)) (hl : st.L.length ≤ 4096) (hcap : x.cap ≤ 8192) :
    Calls Tryz.prog 21 #[.pointer (some ⟨bq, 0, none⟩)] w (ChsP (rdN st) w) := by
  have hb1 : Below w.heap.size w (w.alloc (.cells #[.pointer (some ⟨bq, 0, none⟩)] 37)) := (Below.refl _ w).alloc (Nat.le_refl _) _
  have HC := Lib.hid (chosen_any bq x R st _ (hq.below hb1) hg hn)
  have HB1 := Lib.hid hb1; have HQ := Lib.hid hq
  have HG1 := Lib.hid (heap_s0 w (.cells #[.pointer (some ⟨bq, 0, none⟩)] 37))
  have HS1 := Lib.hid (sz1 w (.cells #[.pointer (some ⟨bq, 0, none⟩)] 37))
  have HRN := Lib.hid (show rdN st = readyN (zxs st.L) (chosenZ st.vs st.acked st.last) from rfl)
  have HRL := Lib.hid (show rdN st ≤ st.L.length by rw [HRN.out, ← zxs_len]; exact readyN_le _ _)
  generalize chosenZ st.vs st.acked st.last = z at *
  have HI := Lib.hid (show ∀ i, i < st.L.length → decide (rdN st ≤ i) = decide (z < st.L[i]!.d.zx) from fun i hi => by
    have := readyN_iff (z := z) hr i (by rw [zxs_len]; exact hi)
    rw [zxs_at _ _ hi] at this
    rw [HRN.out]
    by_cases h : z < st.L[i]!.d.zx
    · rw [decide_eq_true h, decide_eq_true (by omega)]
    · rw [decide_eq_false h, decide_eq_false (by omega)])
  clear hq hb1 hg hr
  generalize rdN st = r at *
  go_enter Tryz.func21, Tryz.ntmps21
  go_wp2_with fail
  refine HC.out.mono ?_
  rintro e w2 ⟨rfl, hb2⟩
  generalize w.alloc (.cells #[.pointer (some ⟨bq, 0, none⟩)] 37) = W1 at *
  have HB3 := Lib.hid (show Below w2.heap.size w2 (w2.alloc (.cells #[.int .i64 z] 2)) from (Below.refl _ w2).alloc (Nat.le_refl _) _)
  have HBB := Lib.hid ((HB1.out.trans (hb2.mono HB1.out.size)).trans (HB3.out.mono (Nat.le_trans HB1.out.size hb2.size)))
  have c1 : (w2.alloc (.cells #[.int .i64 z] 2)).cell? ⟨w.heap.size, 0, none⟩ = some (.pointer (some ⟨bq, 0, none⟩)) := by
    rw [cellH ((HB3.out.block _ (by have := HS1.out; have := hb2.size; omega)).trans ((hb2.block _ (by have := HS1.out; omega)).trans HG1.out))]; rfl
  have c2 : (w2.alloc (.cells #[.int .i64 z] 2)).cell? ⟨w2.heap.size, 0, none⟩ = some (.int .i64 z) := by rw [cellH (heap_s0 w2 _)]; rfl
  have hq3 := HQ.out.below HBB.out
  have cn : (w2.alloc (.cells #[.int .i64 z] 2)).cell? ⟨bq, 2, none⟩ = some (.int .i64 st.L.length) := by rw [cellH hq3.box]; rfl
  have c1' : w2.cell? ⟨w.heap.size, 0, none⟩ = some (.pointer (some ⟨bq, 0, none⟩)) := by
    rw [cellH ((hb2.block _ (by have := HS1.out; omega)).trans HG1.out)]; rfl
  have HQ3 := Lib.hid hq3; clear hq3
  have HSR := Lib.hid (search_any 68 #[.pointer (some ⟨w.heap.size, 0, none⟩), .pointer (some ⟨w2.heap.size, 0, none⟩)] (fun _ _ => rfl) st.L.length r (w2.alloc (.cells #[.int .i64 z] 2)) (by omega) HRL.out (fun q i hi => by
    rw [HI.out i hi]
    refine (ready1_any bq w.heap.size w2.heap.size i z x R st ((w2.alloc (.cells #[.int .i64 z] 2)).drewN q) (HQ3.out.fr (Fr.drewN [] _ q) (by simp) (by simp) (by simp) (by simp)) c1 c2 hi hcap).mono ?_
    rintro e w' ⟨rfl, m, rfl⟩
    exact ⟨rfl, q + m, World.drewN_drewN ..⟩))
  clear HC HB1 HG1 HS1 hb2 HI
  go_wp2_with fail
  refine HSR.out.mono ?_
  rintro e w4 ⟨rfl, q, rfl⟩
  go_wp2_with fail
  go_ret
  exact ChsP.mk rfl (drewN_below HBB.out q)
end Go.Proofs.YtbpmmmnphpkdjaaGreatDoor
namespace Go.Proofs.YtbpmmmnphpkdjaaGreatDoor
open Go.RowKit Go.MapKept Go.Maps
theorem set_at (ak : List Int) (v : Nat) (y : Int) (j : Nat) (hj : j < ak.length) : (ak.set v y)[j]! = if v = j then y else ak[j]! := by
  rw [getElem!_pos _ j (by simpa using hj), List.getElem_set]
  by_cases h : v = j
  · rw [if_pos h, if_pos h]
  · rw [if_neg h, if_neg h, getElem!_pos ak j hj]
theorem QuAt.setAck {w : World} {bq : Nat} {x : QuX} {R : Nat → Prop} {st : QuT} (H : QuAt w bq x R st) {v : Nat} (hv : v < st.acked.length) (y : Int) : QuAt (w.setCell ⟨x.ga, v, none⟩ (.int .i64 y)) bq x R { st with acked := st.acked.set v y } := by
  have hA : x.aA = some ⟨x.ga, 0, none⟩ ∧ w.there x.ga 0 st.acked.length ∧ ∀ j, j < st.acked.length → w.cell? ⟨x.ga, j, none⟩ = some (.int .i64 st.acked[j]!) := by
    rcases H.ack with h | h
    · omega
    · exact h
  obtain ⟨hA, hth, hc⟩ := hA
  have hn : x.aA ≠ none := by rw [hA]; simp
  have hg := H.nga hn
  have hF := fr_set w x.ga v (.int .i64 y)
  have hRb : ∀ b, R b → b ∉ [x.ga] := fun b hb => by simp; exact fun e => hg.2.1 (e ▸ hb)
  refine ⟨?_, H.ring.fr hF (fun h => by have := hg.2.2.2 h; simp; exact fun e => this e.symm) hRb, H.vs.fr hF (fun b _ hb => ⟨hRb b hb, hb⟩) (fun _ => by simp [encVt]), .inr ⟨hA, fun j hj => ?_, fun j hj => ?_⟩, by show (st.acked.set v y).length ≤ x.ac; rw [List.length_set]; exact H.acl, fun b hb => Nat.lt_of_lt_of_le (H.lt b hb) hF.size, H.nq, fun h => ⟨(H.ngr h).1, (H.ngr h).2.1, Nat.lt_of_lt_of_le (H.ngr h).2.2 hF.size⟩, fun h => ⟨hg.1, hg.2.1, Nat.lt_of_lt_of_le hg.2.2.1 hF.size, hg.2.2.2⟩⟩
  · rw [hF.block bq (Array.getElem?_eq_some_iff.1 H.box).1 (by simp; exact fun e => hg.1 e.symm), H.box]; simp
  · have hj' : j < st.acked.length := by simpa using hj
    have := hth j hj'
    refine ⟨?_, ?_⟩
    · rw [Nat.zero_add] at this ⊢
      by_cases e : v = j
      · subst e; rw [World.cell?_setCell_same _ _ _ (hc v hv)]; rfl
      · rw [World.cell?_setCell_other _ _ _ _ (by simp)]; exact this.1
    · have h2 := this.2
      rwa [World.frozen?_setCell]
  · have hj' : j < st.acked.length := by simpa using hj
    show _ = some (Value.int .i64 (st.acked.set v y)[j]!)
    rw [set_at _ _ _ _ hj']
    by_cases e : v = j
    · subst e; rw [if_pos rfl]; exact World.cell?_setCell_same _ _ _ (hc v hv)
    · rw [if_neg e, World.cell?_setCell_other _ _ _ _ (by simp)]; exact hc j hj'
def ackBad (st : QuT) (v z : Int) : Prop := v < 0 ∨ (st.acked.length : Int) ≤ v ∨ z < 0 ∨ st.last < z
def ackS (st : QuT) (v : Nat) (z : Int) : QuT := { st with acked := ackL st.acked v z }
def AckNo (w : World) (e : Ending) (w' : World) : Prop := e = .returned (.tuple #[.int .i64 0, .int .i64 1]) ∧ Below w.heap.size w w'
set_option maxRecDepth 100000 in
set_option maxHeartbeats 4000000 in
theorem ack_bad (bq : Nat) (x : QuX) (R : Nat → Prop) (st : QuT) (v z : Int) (w : World) (hq : QuAt w bq x R st) (h : ackBad st v z) :
    Calls Tryz.prog 20 #[.pointer (some ⟨bq, 0, none⟩), .int .i64 v, .int .i64 z] w (AckNo w) := by
  have c5 : w.cell? ⟨bq, 5, none⟩ = some (.slice x.aA st.acked.length x.ac) := by rw [cellH hq.box]; rfl
  have c6 : w.cell? ⟨bq, 6, none⟩ = some (.int .i64 st.last) := by rw [cellH hq.box]; rfl
  unfold ackBad at h
  generalize st.acked.length = n at *
  generalize st.last = la at *
  clear hq
  by_cases h1 : v < 0
  · clear h
    go_enter Tryz.func20, Tryz.ntmps20
    go_wp2_with fail
    go_ret2
    exact ⟨rfl, Below.refl _ _⟩
  · have b1 : decide (v < 0) = false := decide_eq_false h1
    by_cases h2 : (n : Int) ≤ v
    · have b2 : decide ((n : Int) ≤ v) = true := decide_eq_true h2
      clear h h1 h2
      go_enter Tryz.func20, Tryz.ntmps20
      go_wp2_with fail
      go_ret2
      exact ⟨rfl, Below.refl _ _⟩
    · have b2 : decide ((n : Int) ≤ v) = false := decide_eq_false h2
      by_cases h3 : z < 0
      · have b3 : decide (z < 0) = true := decide_eq_true h3
        clear h h1 h2 h3
        go_enter Tryz.func20, Tryz.ntmps20
        go_wp2_with fail
        go_ret2
        exact ⟨rfl, Below.refl _ _⟩
      · have b3 : decide (z < 0) = false := decide_eq_false h3
        have b4 : decide (la < z) = true := decide_eq_true (by omega)
        clear h h1 h2 h3
        go_enter Tryz.func20, Tryz.ntmps20
        go_wp2_with fail
        go_ret2
        exact ⟨rfl, Below.refl _ _⟩
def AckP (bq : Nat) (x : QuX) (R : Nat → Prop) (st : QuT) (v : Nat) (z : Int) (w : World) (e : Ending) (w' : World) : Prop :=
  e = .returned (.tuple #[.int .i64 ((rdN (ackS st v z) : Int) - rdN st), .int .i64 0]) ∧ QuAt w' bq x R (ackS st v z) ∧ Fr [x.ga] w w'
theorem rdN_le (st : QuT) : rdN st ≤ st.L.length := by rw [← zxs_len]; exact readyN_le _ _
set_option maxRecDepth 100000 in
set_option maxHeartbeats 4000000 in
theorem ack_any (bq : Nat) (x : QuX) (R : Nat → Prop) (st : QuT) (v : Nat) (z : Int) (w : World) (hq : QuAt w bq x R st) (hv : v < st.acked.length) (hz : 0 ≤ z) (hla : z ≤ st.last)
    (hg : ∀ v ∈ st.vs, wfI v.1) (hn : st.acked.length ≤ 1024) (hr : RiseZ (zxs st.L)) (hl : st.L.length ≤ 4096) (hcap : x.cap ≤ 8192) :
    Calls Tryz.prog 20 #[.pointer (some ⟨bq, 0, none⟩), .int .i64 v, .int .i64 z] w (AckP bq x R st v z w) := by
  have c5 : w.cell? ⟨bq, 5, none⟩ = some (.slice x.aA st.acked.length x.ac) := by rw [cellH hq.box]; rfl
  have c6 : w.cell? ⟨bq, 6, none⟩ = some (.int .i64 st.last) := by rw [cellH hq.box]; rfl
  have HR1 := Lib.hid (ready_any bq x R st w hq hg hn hr hl hcap)
  have HR2 := Lib.hid (fun (W : World) (hQ : QuAt W bq x R (ackS st v z)) => ready_any bq x R (ackS st v z) W hQ hg (by show (ackL st.acked v z).length ≤ 1024; rw [ackL_len]; exact hn) hr hl hcap)
  have h1 := rdN_le st; have h2 := rdN_le (ackS st v z)
  have HL1 := Lib.hid (show rdN st ≤ 4096 by omega); have HL2 := Lib.hid (show rdN (ackS st v z) ≤ 4096 from Nat.le_trans h2 hl)
  have HQ := Lib.hid hq; have HV := Lib.hid hv
  have b1 : decide ((v : Int) < 0) = false := decide_eq_false (by omega)
  have b2 : decide ((st.acked.length : Int) ≤ v) = false := decide_eq_false (by omega)
  have b3 : decide (z < 0) = false := decide_eq_false (by omega)
  have b4 : decide (st.last < z) = false := decide_eq_false (by omega)
  clear hq hg hr hl hn hla h1 h2
  go_enter Tryz.func20, Tryz.ntmps20
  go_wp2_with fail
  refine HR1.out.mono ?_
  rintro e w2 ⟨rfl, hb2⟩
  have hq2 := HQ.out.below hb2
  have hA : x.aA = some ⟨x.ga, 0, none⟩ ∧ w2.there x.ga 0 st.acked.length ∧ ∀ j, j < st.acked.length → w2.cell? ⟨x.ga, j, none⟩ = some (.int .i64 st.acked[j]!) := by
    rcases hq2.ack with h | h
    · omega
    · exact h
  obtain ⟨hA, hth, hc⟩ := hA
  have d5 : w2.cell? ⟨bq, 5, none⟩ = some (.slice (some ⟨x.ga, 0, none⟩) st.acked.length x.ac) := by rw [cellH hq2.box, hA]; rfl
  have da : w2.cell? ⟨x.ga, v, none⟩ = some (.int .i64 st.acked[v]!) := hc v hv
  have fa : w2.frozen? ⟨x.ga, v, none⟩ = false := by have := (hth v hv).2; rwa [Nat.zero_add] at this
  have hvi : (v : Int) < (st.acked.length : Int) := by omega
  have hv0 : (0 : Int) ≤ (v : Int) := by omega
  have HQ2 := Lib.hid hq2; have HB2 := Lib.hid hb2; have HTH := Lib.hid (And.intro hth hc)
  have HSA := Lib.hid (show ackS st v z = { st with acked := st.acked.set v (max st.acked[v]! z) } from rfl)
  clear hq2 hb2 hth hc hA c5 c6 b1 b2 b3 b4 hv
  have HQA := Lib.hid (show QuAt (w2.setCell ⟨x.ga, v, none⟩ (.int .i64 (max st.acked[v]! z))).drew bq x R (ackS st v z) from (HQ2.out.setAck HV.out _).fr (Fr.drewN [] _ 1) (by simp) (by simp) (by simp) (by simp))
  generalize st.acked[v]! = y at *
  go_wp2_with fail
  go_region
  all_goals go_wp2_with fail
  have hw : IntKind.i64.wrap ((rdN (ackS st v z) : Int) - rdN st) = (rdN (ackS st v z) : Int) - rdN st := by rw [IntKind.wrap_i64]; have := HL1.out; have := HL2.out; omega
  refine (HR2.out _ HQA.out).mono ?_
  rintro e w5 ⟨rfl, hb5⟩
  have HB5 := Lib.hid hb5; clear hb5
  go_wp2_with fail
  go_ret2
  exact ⟨rfl, HQA.out.below HB5.out, ((Fr.of_below (own := [x.ga]) HB2.out).set (by simp) v _).trans (Fr.of_below (own := []) (((drew_self _)).trans (HB5.out.mono (Nat.le_of_eq rfl)))) (by simp)⟩
end Go.Proofs.YtbpmmmnphpkdjaaGreatDoor
