/- The walk of (*Clock).Expired. Condition: fewer than 2^20 are known. -/
import Derived.Test.YtfnigjeklcagnaaGreatDoorClkU
import Derived.Test.YtfnigjeklcagnaaGreatDoorOwnI
import Derived.Laws.AppendOwn
import Derived.Deep.AppendLies
namespace Go.Proofs.YtfnigjeklcagnaaGreatDoor
open Go.RowKit Go.MapKept Go.Maps
def idsAt (K : List KV) (s : Int) : List Int := sortI ((K.filter fun x => decide (x.2 = s)).map (·.1))
theorem mem_sortI {l : List Int} {x : Int} : x ∈ sortI l ↔ x ∈ l := (sortI_perm l).mem_iff
theorem sortI_sorted (l : List Int) : (sortI l).Pairwise (fun a b => a ≤ b) := by
  have := List.pairwise_mergeSort (le := leI) (fun a b c h1 h2 => by simp only [leI, decide_eq_true_eq] at *; exact Int.le_trans h1 h2) (fun a b => by simp only [leI, Bool.or_eq_true, decide_eq_true_eq]; exact Int.le_total a b) l
  exact this.imp fun h => by simpa [leI] using h
theorem sortI_congr {l l' : List Int} (h : l.Perm l') : sortI l = sortI l' := mergeSort_of_perm_i h
theorem mem_idsAt {K : List KV} {s i : Int} : i ∈ idsAt K s ↔ (i, s) ∈ K := by
  unfold idsAt
  rw [mem_sortI, List.mem_map]
  constructor
  · rintro ⟨x, hx, rfl⟩
    obtain ⟨h1, h2⟩ := List.mem_filter.1 hx
    have h2 : x.2 = s := by simpa using h2
    rw [← h2]; exact h1
  · intro h
    exact ⟨(i, s), List.mem_filter.2 ⟨h, by simp⟩, rfl⟩
/-- what has been told behind the first k steps -/
def toldK (K : List KV) (S : List Int) (k : Nat) : List Int := (S.take k).flatMap (idsAt K)
def leftK (K : List KV) (S : List Int) (k : Nat) : List KV := K.filter fun x => decide (x.2 ∉ S.take k)
def cutK (K : List KV) (ids : List Int) (j : Nat) : List KV := K.filter fun x => decide (x.1 ∉ ids.take j)
theorem take_bang {l : List Int} {k : Nat} (h : k < l.length) : l.take (k + 1) = l.take k ++ [l[k]!] := by
  rw [getElem!_pos l k h, List.take_succ_eq_append_getElem h]
theorem cutK_succ (K : List KV) (ids : List Int) (j : Nat) (h : j < ids.length) : dropK (cutK K ids j) ids[j]! = cutK K ids (j + 1) := by
  unfold dropK cutK
  rw [List.filter_filter]
  refine List.filter_congr fun x _ => ?_
  rw [take_bang h]
  by_cases h1 : x.1 ∈ ids.take j <;> by_cases h2 : x.1 = ids[j]! <;> simp [h1, h2]
theorem cutK_zero (K : List KV) (ids : List Int) : cutK K ids 0 = K := by unfold cutK; simp
theorem cut_left {K : List KV} {S : List Int} {k : Nat} (h1 : OneK K) (hk : k < S.length) : cutK (leftK K S k) (idsAt (leftK K S k) S[k]!) (idsAt (leftK K S k) S[k]!).length = leftK K S (k + 1) := by
  unfold cutK
  rw [List.take_length]
  have e0 : ∀ f : KV → Bool, (leftK K S k).filter f = K.filter (fun x => f x && decide (x.2 ∉ S.take k)) := fun f => by unfold leftK; rw [List.filter_filter]
  rw [e0]
  conv => rhs; unfold leftK
  refine List.filter_congr fun x hx => ?_
  rw [take_bang hk, Bool.eq_iff_iff]
  simp only [Bool.and_eq_true, decide_eq_true_eq, List.mem_append, List.mem_singleton, not_or]
  by_cases h2 : x.2 ∈ S.take k
  · exact ⟨fun h => absurd h2 h.2, fun h => absurd h2 h.1⟩
  · have hm : x.1 ∈ idsAt (leftK K S k) S[k]! ↔ x.2 = S[k]! := by
      rw [mem_idsAt]
      unfold leftK
      rw [List.mem_filter]
      constructor
      · rintro ⟨h3, _⟩
        have a := getK_of K x.1 _ h1 h3
        have b := getK_of K x.1 x.2 h1 hx
        rw [a] at b
        injection b with b
        exact b.symm
      · intro e
        rw [← e]
        exact ⟨hx, by simpa using h2⟩
    rw [hm]
    exact And.comm
theorem idsAt_left {K : List KV} {S : List Int} {k : Nat} (hk : k < S.length) (hS : S.Nodup) : idsAt (leftK K S k) S[k]! = idsAt K S[k]! := by
  unfold idsAt leftK
  congr 2
  rw [List.filter_filter]
  refine List.filter_congr fun x _ => ?_
  rw [Bool.eq_iff_iff]
  simp only [Bool.and_eq_true, decide_eq_true_eq]
  refine ⟨fun h => h.1, fun h => ⟨h, ?_⟩⟩
  rw [h]
  have h2 := hS.sublist (List.take_sublist (k + 1) S)
  rw [take_bang hk, List.nodup_append] at h2
  exact fun hm => h2.2.2 _ hm _ (by simp) rfl
theorem toldK_succ (K : List KV) (S : List Int) (k : Nat) (hk : k < S.length) : toldK K S (k + 1) = toldK K S k ++ idsAt K S[k]! := by
  unfold toldK
  rw [take_bang hk, List.flatMap_append, List.flatMap_singleton]
theorem nodup_idsAt {K : List KV} (h : OneK K) (s : Int) : (idsAt K s).Nodup := (sortI_perm _).nodup_iff.2 (oneK_filter h _)
theorem told_mem {K : List KV} {S : List Int} {k : Nat} {i : Int} : i ∈ toldK K S k ↔ ∃ s, s ∈ S.take k ∧ (i, s) ∈ K := by
  unfold toldK
  rw [List.mem_flatMap]
  exact ⟨fun ⟨s, h1, h2⟩ => ⟨s, h1, mem_idsAt.1 h2⟩, fun ⟨s, h1, h2⟩ => ⟨s, h1, mem_idsAt.2 h2⟩⟩
theorem told_nodup {K : List KV} (h : OneK K) {S : List Int} (hS : S.Nodup) : ∀ k, k ≤ S.length → (toldK K S k).Nodup
  | 0, _ => by simp [toldK]
  | k + 1, hk => by
    rw [toldK_succ K S k (by omega), List.nodup_append]
    refine ⟨told_nodup h hS k (by omega), nodup_idsAt h _, fun a ha b hb e => ?_⟩
    subst e
    obtain ⟨s, h1, h2⟩ := told_mem.1 ha
    have h3 := mem_idsAt.1 hb
    have a1 := getK_of K _ _ h h2
    have a2 := getK_of K _ _ h h3
    rw [a1] at a2
    injection a2 with a2
    have h4 := hS.sublist (List.take_sublist (k + 1) S)
    rw [take_bang (by omega), List.nodup_append] at h4
    exact h4.2.2 s h1 S[k]! (by simp) a2
theorem told_end {K : List KV} (h : OneK K) {S : List Int} {now : Int} {k : Nat} (hall : ∀ x ∈ K, x.2 ∈ S) (hk : ∀ s ∈ S, s ∈ S.take k ↔ s ≤ now) : leftK K S k = lateK K now ∧ ∀ i, i ∈ toldK K S k ↔ i ∈ overK K now := by
  constructor
  · unfold leftK lateK
    refine List.filter_congr fun x hx => ?_
    have := hk x.2 (hall x hx)
    by_cases h1 : x.2 ≤ now
    · have h2 : ¬ now < x.2 := by omega
      simp [this, h1, h2]
    · have h2 : now < x.2 := by omega
      simp [this, h1, h2]
  · intro i
    rw [told_mem, mem_over h]
    constructor
    · rintro ⟨s, h1, h2⟩
      exact ⟨s, getK_of K i s h h2, (hk s (hall _ h2)).1 h1⟩
    · rintro ⟨s, h1, h2⟩
      have h3 := getK_mem K i s h1
      exact ⟨s, (hk s (hall _ h3)).2 h2, h3⟩
theorem take_le {S : List Int} (hS : S.Pairwise (fun a b => a ≤ b)) {now : Int} {k : Nat} (hk : ∀ j, j < k → S[j]! ≤ now) (hke : k ≤ S.length) (hend : k = S.length ∨ (k < S.length ∧ now < S[k]!)) : ∀ s ∈ S, s ∈ S.take k ↔ s ≤ now := by
  intro s hs
  constructor
  · intro h
    obtain ⟨j, hj, e⟩ := List.getElem_of_mem h
    rw [List.getElem_take] at e
    have hj1 : j < k := by rw [List.length_take] at hj; omega
    have := hk j hj1
    rw [getElem!_pos S j (by omega), e] at this
    exact this
  · intro h
    obtain ⟨j, hj, rfl⟩ := List.getElem_of_mem hs
    rcases hend with he | ⟨he1, he2⟩
    · rw [he, List.take_length]; exact List.getElem_mem _
    · by_cases hjk : j < k
      · exact List.mem_take_iff_getElem.2 ⟨j, by omega, rfl⟩
      · exfalso
        rw [getElem!_pos S k he1] at he2
        rcases Nat.lt_or_eq_of_le (Nat.le_of_not_lt hjk) with h3 | h3
        · have := List.pairwise_iff_getElem.1 hS k j he1 hj h3
          omega
        · subst h3; omega
theorem told_ord {K : List KV} (h : OneK K) {S : List Int} (hS : S.Nodup) (hSS : S.Pairwise (fun a b => a ≤ b)) (k : Nat) : (toldK K S k).Pairwise (ltI K) := by
  unfold toldK
  rw [List.pairwise_flatMap]
  constructor
  · intro s _
    have h1 : (idsAt K s).Pairwise (fun a b => a ≤ b) := sortI_sorted _
    have h2 : (idsAt K s).Pairwise (fun a b => a ≠ b) := nodup_idsAt h s
    have h3 := List.pairwise_and_iff.2 ⟨h1, h2⟩
    refine (List.Pairwise.and_mem.1 h3).imp fun {a b} hh => ?_
    obtain ⟨ha, hb, h4, h5⟩ := hh
    exact ⟨s, s, mem_idsAt.1 ha, mem_idsAt.1 hb, .inr ⟨rfl, by simp only; omega⟩⟩
  · have h3 : S.Pairwise (fun a b => a ≤ b ∧ a ≠ b) := List.pairwise_and_iff.2 ⟨hSS, hS⟩
    refine (h3.sublist (List.take_sublist k S)).imp fun {a b} hh x hx y hy => ?_
    exact ⟨a, b, mem_idsAt.1 hx, mem_idsAt.1 hy, .inl (by simp only; omega)⟩
def ExpPost (tick : Int) (K : List KV) (bc : Nat) (own : List Nat) (now : Int) (w : World) (e : Ending) (w' : World) : Prop :=
  (∃ E v, e = .returned v ∧ RowI w' w.heap.size v E ∧ (∀ i, i ∈ E ↔ i ∈ overK K now) ∧ E.Nodup) ∧ (∃ own', Clk w' tick (lateK K now) bc own' ∧ ∀ g ∈ own', g ∈ own ∨ w.heap.size ≤ g) ∧ Fr own w w'
def ExpPost2 (tick : Int) (K : List KV) (bc : Nat) (own : List Nat) (now : Int) (w : World) (e : Ending) (w' : World) : Prop :=
  (∃ E v, e = .returned v ∧ RowI w' w.heap.size v E ∧ (∀ i, i ∈ E ↔ i ∈ overK K now) ∧ E.Nodup ∧ E.Pairwise (ltI K)) ∧ (∃ own', Clk w' tick (lateK K now) bc own' ∧ ∀ g ∈ own', g ∈ own ∨ w.heap.size ≤ g) ∧ Fr own w w'
theorem ClockIs.lookStep {w : World} {tick : Int} {K : List KV} {bc bw bs : Nat} {lw : List KV} {ls : List (Int × Nat)} {own : List Nat} (h : ClockIs w tick K bc bw bs lw ls own) {s : Int} {b : Nat} (hb : (s, b) ∈ ls) (hs : wfI s) :
    ∀ w' : World, w'.heap[bs]? = w.heap[bs]? → (Instr.lookup 80 (.map (some bs)) (.int .i64 s) false).run Tryz.prog w' = .ok (.map (some b)) w' := by
  rcases h.ms.lookup Tryz.underlying80 false zInner hs with ⟨v, hv, hr⟩ | ⟨hn, _⟩
  · obtain ⟨x, hx, ex⟩ := List.mem_map.1 hv
    have e1 : x.1 = s := congrArg Prod.fst ex
    have e2 : Value.map (some x.2) = v := congrArg Prod.snd ex
    have e3 := fst_inj h.steps hx hb e1
    rw [e3] at e2
    rw [← e2] at hr
    exact hr
  · exact absurd rfl (hn (s, .map (some b)) (List.mem_map.2 ⟨(s, b), hb, rfl⟩))
theorem inner_ids {w : World} {tick : Int} {K : List KV} {bc bw bs : Nat} {lw : List KV} {ls : List (Int × Nat)} {own : List Nat} (h : ClockIs w tick K bc bw bs lw ls own) {s : Int} {b : Nat} (hb : (s, b) ∈ ls) :
    ∃ ids : List Int, MapI w b (ids.map fun i => (i, unitV)) ∧ sortI ids = idsAt K s ∧ ids.length ≤ K.length := by
  obtain ⟨ids, _, i2, i3⟩ := h.inner _ hb
  have hnd : ids.Nodup := by
    have := i2.apart
    rw [List.map_map] at this
    have e : ids.map ((fun x : Int × Value => x.1) ∘ fun i => (i, unitV)) = ids := by simp [Function.comp_def]
    rwa [e] at this
  have hp : ids.Perm ((K.filter fun x => decide (x.2 = s)).map (·.1)) := by
    refine (List.perm_ext_iff_of_nodup hnd (oneK_filter h.one _)).2 fun i => ?_
    rw [i3, List.mem_map]
    constructor
    · intro hm
      exact ⟨(i, s), List.mem_filter.2 ⟨hm, by simp⟩, rfl⟩
    · rintro ⟨x, hx, rfl⟩
      obtain ⟨h1, h2⟩ := List.mem_filter.1 hx
      have h2 : x.2 = s := by simpa using h2
      show (x.1, s) ∈ K
      rw [← h2]; exact h1
  refine ⟨ids, i2, sortI_congr hp, ?_⟩
  rw [hp.length_eq, List.length_map]
  exact List.length_filter_le _ _
theorem nodup_len : ∀ (l m : List Int), l.Nodup → (∀ x ∈ l, x ∈ m) → l.length ≤ m.length
  | [], _, _, _ => Nat.zero_le _
  | a :: l, m, h, hs => by
    rw [List.nodup_cons] at h
    have ha : a ∈ m := hs a (List.mem_cons_self ..)
    have ih := nodup_len l (m.erase a) h.2 (fun x hx => (List.mem_erase_of_ne (show x ≠ a from fun e => h.1 (by rw [← e]; exact hx))).2 (hs x (List.mem_cons_of_mem _ hx)))
    rw [List.length_erase_of_mem ha] at ih
    have : 0 < m.length := List.length_pos_of_mem ha
    rw [List.length_cons]
    omega
theorem exp_close {tick : Int} {K : List KV} {S : List Int} {bc : Nat} {own own1 : List Nat} {now : Int} {w w1 wr : World} {v : Value} {k : Nat} (hone : OneK K) (hSN : S.Nodup) (hSS : S.Pairwise (fun a b => a ≤ b)) (hSM : ∀ s, s ∈ S ↔ ∃ x ∈ K, x.2 = s)
    (hk : k ≤ S.length) (hlow : ∀ j, j < k → S[j]! ≤ now) (hend : k = S.length ∨ (k < S.length ∧ now < S[k]!)) (hrow : RowI wr w1.heap.size v (toldK K S k)) (hclk : Clk wr tick (leftK K S k) bc own1) (hown : ∀ g ∈ own1, g ∈ own) (hfr : Fr own w wr) (hle : w.heap.size ≤ w1.heap.size) :
    ExpPost2 tick K bc own now w (.returned v) wr := by
  obtain ⟨e1, e2⟩ := told_end hone (fun x hx => (hSM x.2).2 ⟨x, hx, rfl⟩) (take_le hSS hlow hk hend)
  refine ⟨⟨toldK K S k, v, rfl, ?_, e2, told_nodup hone hSN k hk, told_ord hone hSN hSS k⟩, ⟨own1, by rw [← e1]; exact hclk, fun g hg => .inl (hown g hg)⟩, hfr⟩
  exact ⟨hrow.1, hrow.2.imp (fun x => x) fun ⟨g, cap, cur, a, b, r⟩ => ⟨g, cap, cur, a, Nat.le_trans hle b, r⟩⟩
theorem Fr.grown {own : List Nat} {w wr w5 : World} {row : Option Nat} (h : Fr own w wr) (hg : wr.grownBy w5 row) (hr : ∀ k, row = some k → w.heap.size ≤ k) : Fr own w w5 :=
  ⟨hg.os.trans h.os, hg.tape.trans h.tape, hg.output.trans h.output, Nat.le_trans h.size hg.size, fun g hlt hn => (hg.block g (Nat.lt_of_lt_of_le hlt h.size) (fun e => by have := hr g e.symm; omega)).trans (h.block g hlt hn)⟩
theorem told_len {K : List KV} (h : OneK K) {S : List Int} (hS : S.Nodup) {k : Nat} (hk : k ≤ S.length) : (toldK K S k).length ≤ K.length := by
  have := nodup_len (toldK K S k) (K.map (·.1)) (told_nodup h hS k hk) (fun i hi => by
    obtain ⟨s, _, h2⟩ := told_mem.1 hi
    exact List.mem_map.2 ⟨_, h2, rfl⟩)
  rwa [List.length_map] at this
def ExR (tick : Int) (K : List KV) (S : List Int) (bc : Nat) (own : List Nat) (now : Int) (w w1 : World) (A1 : Option Addr) (c1 : Nat) (v i : Value) (wr : World) : Prop := ∃ (k : Nat) (own' : List Nat) (A : Option Addr) (c : Nat), i = .int .i64 ↑k ∧ v = .slice A (toldK K S k).length c ∧ k ≤ S.length ∧ (∀ j, j < k → S[j]! ≤ now) ∧
  RowI wr w1.heap.size (.slice A (toldK K S k).length c) (toldK K S k) ∧ Clk wr tick (leftK K S k) bc own' ∧ (∀ g ∈ own', g ∈ own) ∧ Fr own w wr ∧ wr.ownsRow (w.heap.size + 1) 2 1 (.slice A1 S.length c1) S.length (S.map encZ) ∧ w1.heap.size ≤ wr.heap.size
def InR (tick : Int) (Kc : List KV) (ids : List Int) (bc : Nat) (own : List Nat) (w2 : World) (i : Value) (wr : World) : Prop := ∃ (j : Nat) (own' : List Nat), i = .int .i64 ↑j ∧ j ≤ ids.length ∧ Clk wr tick (cutK Kc ids j) bc own' ∧ (∀ g ∈ own', g ∈ own) ∧ Fr own w2 wr
set_option maxRecDepth 100000 in
set_option maxHeartbeats 4000000 in
theorem expired_ord (tick : Int) (K : List KV) (bc : Nat) (own : List Nat) (now : Int) (w : World) (h : Clk w tick K bc own) (hlen : K.length ≤ 2097152) :
    Calls Tryz.prog 13 #[.pointer (some ⟨bc, 0, none⟩), .int .i64 now] w (ExpPost2 tick K bc own now w) := by
  have H := Lib.hid h
  have HONE := Lib.hid h.one
  obtain ⟨bw, bs, lw, ls, h⟩ := h
  have k2 : w.cell? ⟨bc, 2, none⟩ = some (.map (some bs)) := by rw [cellH h.cells]; rfl
  have hsub : ∀ s, s ∈ ls.map (·.1) ↔ ∃ x ∈ K, x.2 = s := fun s => by
    rw [List.mem_map]
    constructor
    · rintro ⟨x, hx, rfl⟩
      obtain ⟨ids, i1, _, i3⟩ := h.inner x hx
      obtain ⟨i, hi⟩ := List.exists_mem_of_ne_nil ids i1
      exact ⟨_, (i3 i).1 hi, rfl⟩
    · rintro ⟨x, hx, rfl⟩
      obtain ⟨b, hb⟩ := h.all x hx
      exact ⟨_, hb, rfl⟩
  have hlsl : ls.length ≤ 2097152 := by
    have h1 : ((ls.map (·.1))).length ≤ (K.map (·.2)).length := nodup_len _ _ h.steps fun s hs => by
      obtain ⟨x, hx, e⟩ := (hsub s).1 hs
      exact List.mem_map.2 ⟨x, hx, e⟩
    rw [List.length_map, List.length_map] at h1
    omega
  have cS := sortedA_any bs _ w h.ms (by rw [List.length_map]; omega)
  rw [List.map_map] at cS
  obtain ⟨S, HS⟩ : ∃ S, Hid (sortI (ls.map (·.1)) = S) := ⟨_, Lib.hid rfl⟩
  have e : sortI (ls.map ((fun x => x.1) ∘ fun x => (x.1, Value.map (some x.2)))) = S := HS.out
  rw [e] at cS
  have HSN := Lib.hid (show S.Nodup by rw [← HS.out]; exact (sortI_perm _).nodup_iff.2 h.steps)
  have HSS := Lib.hid (show S.Pairwise (fun a b => a ≤ b) by rw [← HS.out]; exact sortI_sorted _)
  have HSM := Lib.hid (show ∀ s, s ∈ S ↔ ∃ x ∈ K, x.2 = s by intro s; rw [← HS.out, mem_sortI]; exact hsub s)
  have HSL := Lib.hid (show S.length ≤ 2097152 by rw [← HS.out, (sortI_perm _).length_eq, List.length_map]; exact hlsl)
  have HWF := Lib.hid h.wf
  have HLT := Lib.hid H.out.lt
  have cK := keysA_any (some bs) w
  clear e hsub h
  go_enter Tryz.func13, Tryz.ntmps13
  go_wp2_with fail
  refine cK.mono ?_
  rintro e w' ⟨rfl, rfl⟩
  go_wp2_with fail
  refine cS.mono ?_
  rintro e w1 ⟨A1, c1, rfl, hv1, hb1⟩
  rw [World.size_alloc] at hv1 hb1
  have HV1 := Lib.hid hv1
  have hbw1 : Below w.heap.size w w1 := ((Below.refl _ w).alloc (Nat.le_refl _) _).trans (hb1.mono (by omega))
  have HB1 := Lib.hid hbw1
  have HZ1 := Lib.hid hb1.size
  clear hv1 hb1 hbw1 cK cS k2
  go_wp2_with fail
  go_loopw [5, 20] (fun v i wr => ExR tick K S bc own now w w1 A1 c1 v i wr) (fun _ i _ => S.length - (intOf i).toNat)
  case atStart => exact ⟨0, own, none, 0, rfl, by simp [toldK], Nat.zero_le _, fun j hj => absurd hj (by omega), by simpa [RowI, toldK] using World.ownsRow_nil w1 w1.heap.size 2 1, by
      have : leftK K S 0 = K := by unfold leftK; simp
      rw [this]; exact H.out.below HB1.out, fun g hg => hg, Fr.of_below HB1.out, HV1.out, Nat.le_refl _⟩
  case round =>
    obtain ⟨k, own1, A, c, rfl, rfl, hk, hlow, hrow, hclk, hown, hfr, hvS, hsz⟩ := hrel
    have hSL := HSL.out
    by_cases hlt : k < S.length
    · obtain ⟨g1, hA1, hg1, z1⟩ := row_at hvS rfl hlt
      subst hA1
      have hkl : ((k : Nat) : Int) < (S.length : Int) := by omega
      by_cases hnow : now < S[k]!
      · have HC := Lib.hid (exp_close HONE.out HSN.out HSS.out HSM.out hk hlow (.inr ⟨hlt, hnow⟩) hrow hclk hown hfr HB1.out.size)
        generalize S[k]! = s at *
        clear hlow hrow hclk hown hfr hvS
        go_wp2_with fail
        go_ret
        exact HC.out
      · have hmS : S[k]! ∈ S := by rw [getElem!_pos S k hlt]; exact List.getElem_mem _
        obtain ⟨x, hxK, hxs⟩ := (HSM.out S[k]!).1 hmS
        have hws : wfI S[k]! := by rw [← hxs]; exact (HWF.out x hxK).2
        have hxL : x ∈ leftK K S k := by
          unfold leftK
          rw [List.mem_filter]
          refine ⟨hxK, ?_⟩
          rw [hxs]
          have h2 := HSN.out.sublist (List.take_sublist (k + 1) S)
          rw [take_bang hlt, List.nodup_append] at h2
          simpa using fun hm => h2.2.2 _ hm S[k]! (by simp) rfl
        have HCL := Lib.hid hclk
        have hltc := hclk.lt
        obtain ⟨bw2, bs2, lw2, ls2, hC⟩ := hclk
        obtain ⟨b, hb⟩ := hC.all x hxL
        rw [hxs] at hb
        have r1 := hC.lookStep hb hws wr rfl
        have k2 : wr.cell? ⟨bc, 2, none⟩ = some (.map (some bs2)) := by rw [cellH hC.cells]; rfl
        obtain ⟨ids, i1, i2, i3⟩ := inner_ids hC hb
        have cK := keysB_any (some b) wr
        have hLK : (leftK K S k).length ≤ K.length := List.length_filter_le _ _
        have cS := sortedB_any b _ wr i1 (by rw [List.length_map]; omega)
        rw [List.map_map] at cS
        have ei : sortI (ids.map ((fun x => x.1) ∘ fun i => (i, unitV))) = idsAt (leftK K S k) S[k]! := by
          rw [← i2]
          congr 1
          simp [Function.comp_def]
        rw [ei] at cS
        have HCUT := Lib.hid (cut_left (S := S) (k := k) HONE.out hlt)
        have HID := Lib.hid (idsAt_left (K := K) (S := S) (k := k) hlt HSN.out)
        have HTOLD := Lib.hid (toldK_succ K S k hlt)
        have HLOW := Lib.hid (show ∀ j, j < k + 1 → S[j]! ≤ now from fun j hj => by rcases Nat.lt_succ_iff_lt_or_eq.1 hj with h2 | rfl; exact hlow j h2; omega)
        have HIN := Lib.hid (fun i => (mem_idsAt (K := leftK K S k) (s := S[k]!) (i := i)).1)
        have HIL : Hid ((idsAt (leftK K S k) S[k]!).length ≤ 2097152) := Lib.hid (by
          rw [← i2, (sortI_perm ids).length_eq]; omega)
        have HLN := Lib.hid (show 0 < (idsAt (leftK K S k) S[k]!).length from List.length_pos_of_mem (mem_idsAt.2 (show (x.1, S[k]!) ∈ leftK K S k by rw [← hxs]; exact hxL)))
        have HTL := Lib.hid (Nat.le_trans (told_len HONE.out HSN.out hk) hlen)
        have HIDN := Lib.hid (nodup_idsAt hC.one S[k]!)
        have HIW := Lib.hid (show ∀ i ∈ idsAt (leftK K S k) S[k]!, wfI i from fun i hi => (hC.wf _ (mem_idsAt.1 hi)).1)
        have HROW := Lib.hid hrow
        have HOWN := Lib.hid hown
        have HFR := Lib.hid hfr
        have HVS := Lib.hid hvS
        have HSZ := Lib.hid hsz
        have HNL := Lib.hid (show ∀ g ∈ own, g < w.heap.size from HLT.out)
        generalize hL : idsAt (leftK K S k) S[k]! = L at *
        generalize hs : S[k]! = s at *
        have hnl : L.length ≤ 2097152 := HIL.out
        clear hC hb i1 i2 i3 ei hrow hown hfr hvS hsz hxL hxs hxK hmS hlow hltc hLK
        go_wp2_with fail
        refine cK.mono ?_
        rintro e w' ⟨rfl, rfl⟩
        go_wp2_with fail
        refine cS.mono ?_
        rintro e w2 ⟨A2, c2, rfl, hv2, hb2⟩
        rw [World.size_alloc] at hv2 hb2
        have hbw2 : Below wr.heap.size wr w2 := ((Below.refl _ wr).alloc (Nat.le_refl _) _).trans (hb2.mono (by omega))
        have HB2 := Lib.hid hbw2
        have HV2 := Lib.hid hv2
        clear hv2 hb2 hbw2 cK cS k2 r1
        have HCW := Lib.hid (HCL.out.below HB2.out)
        go_wp2_with fail
        go_loopw [37] (fun i wr3 => InR tick (leftK K S k) L bc own w2 i wr3) (fun i _ => L.length - (intOf i).toNat)
        case atStart => exact ⟨0, own1, rfl, Nat.zero_le _, by rw [cutK_zero]; exact HCW.out, HOWN.out, Fr.refl _ _⟩
        case round =>
          obtain ⟨j, own3, rfl, hj, hclk3, hown3, hfr3⟩ := hrel
          have HC3 := Lib.hid hclk3
          have HO3 := Lib.hid hown3
          have HF3 := Lib.hid hfr3
          have hv3 := own_fr HV2.out hfr3 (fun g hg => by have := HNL.out g hg; have := HFR.out.size; omega)
          clear hclk3 hown3 hfr3
          by_cases hjn : j < L.length
          · obtain ⟨g2, hA2, _, z2⟩ := row_at hv3 rfl hjn
            subst hA2
            have hjn2 : ((j : Nat) : Int) < (L.length : Int) := by omega
            have hmL : L[j]! ∈ L := by rw [getElem!_pos L j (by omega)]; exact List.getElem_mem _
            have HM := Lib.hid (show (L[j]!, s) ∈ cutK (leftK K S k) L j from by
              unfold cutK
              rw [List.mem_filter]
              refine ⟨HIN.out _ hmL, ?_⟩
              have h2 := HIDN.out.sublist (List.take_sublist (j + 1) L)
              rw [take_bang (by omega), List.nodup_append] at h2
              simpa using fun hm => h2.2.2 _ hm L[j]! (by simp) rfl)
            have HS3 := Lib.hid (cutK_succ (leftK K S k) L j (by omega))
            clear hmL hv3
            generalize L[j]! = idj at *
            go_wp2_with fail
            go_at_call 40
            refine (leave_any tick _ bc own3 idj s _ HC3.out HM.out).mono ?_
            rintro e w4 ⟨rfl, ⟨own4, hC4, hs4⟩, hF4⟩
            rw [HS3.out] at hC4
            have HC4 := Lib.hid hC4; have HS4 := Lib.hid hs4; have HF4 := Lib.hid hF4
            clear hC4 hs4 hF4
            go_wp2_with fail
            go_roundw
            case rel => exact ⟨j + 1, own4, by go_num, by omega, HC4.out, fun g hg => HO3.out g (HS4.out g hg), HF3.out.trans HF4.out (fun g hg => .inl (HO3.out g hg))⟩
            case measure => simp [intOf]; omega
          · have hjn2 : j = L.length := by omega
            subst hjn2
            rw [HCUT.out] at HC3
            obtain ⟨g2, hA2, _, _⟩ := row_at hv3 rfl HLN.out
            subst hA2
            have HV3 := Lib.hid hv3; clear hv3
            have hr2 := own_fr HROW.out (Fr.of_below (own := []) HB2.out) (fun g hg => by cases hg)
            have HR3 := Lib.hid (own_fr hr2 HF3.out (fun g hg => by have := HNL.out g hg; have := HB1.out.size; omega))
            have hs2 := own_fr HVS.out (Fr.of_below (own := []) HB2.out) (fun g hg => by cases hg)
            have HS3 := Lib.hid (own_fr hs2 HF3.out (fun g hg => by have := HNL.out g hg; omega))
            have HFW := Lib.hid ((HFR.out.trans (Fr.of_below (own := own) HB2.out) (fun g hg => .inl hg)).trans HF3.out (fun g hg => .inl hg))
            have HW1 := Lib.hid (Nat.le_trans (Nat.le_trans HSZ.out HB2.out.size) HF3.out.size)
            clear hr2 hs2
            obtain ⟨i0, hi0, hz0, hz1, hz2⟩ := info_partsI infoI64
            have hml : (toldK K S k).length + L.length ≤ maxLen := by have := HTL.out; unfold maxLen; omega
            have hby : ((toldK K S k).length + L.length) * 8 ≤ 140737488355328 := by have := HTL.out; omega
            have hone : ∀ u ∈ L.map encZ, u.oneCell' = true := fun u hu => by
              obtain ⟨z, _, rfl⟩ := List.mem_map.1 hu
              rfl
            go_wp2_with (at_builtin; refine wpList_append_own _ rfl _ _ _ rfl w1.heap.size 2 i0 _ 1 8 Tryz.underlying33 hi0 hz0 hz1 hz2 rfl (by decide) (.slice A (toldK K S k).length c) (toldK K S k).length ((toldK K S k).map encZ) rfl HR3.out ⟨g2, 0, none⟩ L.length c2 (L.map encZ) rfl (by rw [List.length_map, Nat.mul_one]) (HV3.out.cells rfl) hone hml hby HW1.out ?hk)
            case hk =>
              intro v' w5 hown5 hgrow5 _
              obtain ⟨A5, c5, rfl⟩ := own_formI hown5
              have hlen5 : (toldK K S k).length + L.length = (toldK K S (k + 1)).length := by rw [HTOLD.out, List.length_append, ← HID.out]
              rw [← List.map_append] at hown5
              have hap : toldK K S k ++ L = toldK K S (k + 1) := by rw [HTOLD.out, ← HID.out]
              rw [hap, hlen5] at hown5
              rw [hlen5]
              have hbk : ∀ q, (Value.slice A (toldK K S k).length c).ownBlock = some q → w1.heap.size ≤ q := fun q hq => (HR3.out.lt q hq).1
              have hc5 : Clk w5 tick (leftK K S (k + 1)) bc own3 := HC3.out.of_heap fun g hg => hgrow5.block g (HC3.out.lt g hg) (fun e => by
                have h1 := hbk g e.symm
                have h2 := HNL.out g (HO3.out g hg)
                have h3 := HB1.out.size
                omega)
              have hf5 : Fr own w w5 := HFW.out.grown hgrow5 (fun q hq => Nat.le_trans HB1.out.size (hbk q hq))
              have hs5 := HS3.out.kept hgrow5 (.inr fun e => by
                have h1 := hbk g1 (by rw [← e]; rfl)
                have h2 := (HV1.out.lt g1 rfl).2
                omega)
              have HX := Lib.hid (And.intro hown5 (And.intro hc5 (And.intro hf5 (And.intro hs5 (Nat.le_trans HW1.out hgrow5.size)))))
              clear hown5 hc5 hf5 hs5 hbk hap hlen5 hgrow5
              go_wp2_with fail
              go_roundw
              case rel => exact ⟨k + 1, own3, A5, c5, by go_num, rfl, by omega, HLOW.out, HX.out.1, HX.out.2.1, HO3.out, HX.out.2.2.1, HX.out.2.2.2.1, HX.out.2.2.2.2⟩
              case measure => simp [intOf]; omega
    · have hke : k = S.length := by omega
      have HC := Lib.hid (exp_close HONE.out HSN.out HSS.out HSM.out hk hlow (.inl hke) hrow hclk hown hfr HB1.out.size)
      clear hlow hrow hclk hown hfr hvS
      go_wp2_with fail
      go_ret
      exact HC.out
theorem expired_any (tick : Int) (K : List KV) (bc : Nat) (own : List Nat) (now : Int) (w : World) (h : Clk w tick K bc own) (hlen : K.length ≤ 2097152) :
    Calls Tryz.prog 13 #[.pointer (some ⟨bc, 0, none⟩), .int .i64 now] w (ExpPost tick K bc own now w) :=
  (expired_ord tick K bc own now w h hlen).mono fun _ _ hh => by
    obtain ⟨⟨E, v, a, b, c, d, _⟩, r⟩ := hh
    exact ⟨⟨E, v, a, b, c, d⟩, r⟩
end Go.Proofs.YtfnigjeklcagnaaGreatDoor
