/- The walk of (*Clock).Next. Condition: fewer than 2^21 are known. -/
import Derived.Test.YtfnigjeklcagnaaGreatDoorIter2
import Derived.Test.YtfnigjeklcagnaaGreatDoorLongs
namespace Go.Proofs.YtfnigjeklcagnaaGreatDoor
open Go.RowKit Go.Maps Go.Shelf Go.ChangeShapes Go.WideShapes Go.MapKept
def CollPost (w : World) (l : List Int) (e : Ending) (w' : World) : Prop :=
  ∃ (ss : List Int) (A : Option Addr) (c : Nat), ss.Perm l ∧ e = .returned (.slice A ss.length c) ∧ w'.ownsRow w.heap.size 2 1 (.slice A ss.length c) ss.length (ss.map encZ) ∧ Below w.heap.size w w'
set_option maxHeartbeats 1000000 in
theorem collectA_any (b : Nat) (l : List (Int × Value)) (w : World) (h : MapI w b l) (hl : l.length ≤ 1073741824) :
    Calls Tryz.prog 46 #[.func (.func 56) #[] #[.pointer (some ⟨w.heap.size, 0, none⟩)]] (w.alloc (.cells #[.map (some b)] 80)) (CollPost (w.alloc (.cells #[.map (some b)] 80)) (l.map (·.1))) := by
  obtain ⟨D0, hown, hperm, hsize⟩ := h.owns hl
  have hbl := hown.lt
  have hseq : SeqGives Fence.wide 3 Tryz.prog 56 #[.pointer (some ⟨w.heap.size, 0, none⟩)] encZ (fun ss => ss.Perm (intKeys D0)) (Maps.size D0) (w.alloc (.cells #[.map (some b)] 80)) :=
    AnyZI.keys_gives (ρ := Tryz.keysA_ren) { Tryz.keysA with } Fence.wide _ trivial rfl (by omega) w.heap.size b l.length D0 _ (by simp) (by simp) (by
      obtain ⟨es, clock, hb, Ft, hs, hD⟩ := hown
      exact ⟨es, clock, (Below.heap_alloc _ _ b hbl).trans hb, Ft, hs, hD⟩)
  have cS := AnyZI.collect_in Tryz.collectA Fence.wide 5 trivial trivial rfl (by omega) 56 #[.pointer (some ⟨w.heap.size, 0, none⟩)] trivial (enters_of Tryz.func56 (by kernel_rfl) rfl) _ _ (by rw [hsize]; exact Nat.le_trans hl (by decide)) (by rw [hsize]; omega) _ hseq
  refine (callsIn_wide.1 cS).mono ?_
  rintro e w' ⟨v, ss, rfl, hS, hrow, _, hb⟩
  obtain ⟨A, c, rfl⟩ := own_formI hrow
  exact ⟨ss, A, c, hS.trans hperm, rfl, hrow, hb⟩
theorem min_ext {l : List Int} {m : Int} {k : Nat} (hk : k < l.length) (h1 : m ∈ l.take k) (h2 : ∀ x ∈ l.take k, m ≤ x) : min m l[k]! ∈ l.take (k + 1) ∧ ∀ x ∈ l.take (k + 1), min m l[k]! ≤ x := by
  rw [take_bang hk]
  have e : min m l[k]! = if l[k]! < m then l[k]! else m := by
    split <;> omega
  rw [e]
  split
  · refine ⟨by simp, fun x hx => ?_⟩
    rcases List.mem_append.1 hx with hx | hx
    · have := h2 x hx; omega
    · rw [List.mem_singleton.1 hx]; exact Int.le_refl _
  · refine ⟨List.mem_append_left _ h1, fun x hx => ?_⟩
    rcases List.mem_append.1 hx with hx | hx
    · exact h2 x hx
    · rw [List.mem_singleton.1 hx]; omega
def MinPost (l : List Int) (w : World) (e : Ending) (w' : World) : Prop := ∃ m : Int, e = .returned (.int .i64 m) ∧ m ∈ l ∧ (∀ x ∈ l, m ≤ x) ∧ w' = w
set_option maxRecDepth 100000 in
set_option maxHeartbeats 1000000 in
theorem min_any (A : Option Addr) (n c : Nat) (l : List Int) (w : World) (h : SlI w A n l) (hn0 : 0 < n) (hn : n ≤ 1073741824) :
    Calls Tryz.prog 45 #[.slice A n c] w (MinPost l w) := by
  have HL := Lib.hid h.1
  obtain ⟨b, off, hA, z0⟩ := h.2 0 hn0
  subst hA
  have HS := Lib.hid h
  have hlt0 : ¬ ((n : Int) < 1) := by omega
  have hn1 : (1 : Int) ≤ (n : Int) := by omega
  rw [Nat.add_zero] at z0
  have HM0 := Lib.hid (show l[0]! ∈ l.take 1 ∧ ∀ x ∈ l.take 1, l[0]! ≤ x by
    have h1 := HL.out
    have e : l.take 1 = [l[0]!] := by
      have := take_bang (l := l) (k := 0) (by omega)
      simpa using this
    rw [e]
    exact ⟨by simp, fun x hx => by rw [List.mem_singleton.1 hx]; exact Int.le_refl _⟩)
  clear h
  generalize l[0]! = m0 at *
  go_enter Tryz.func45, Tryz.ntmps45
  go_wp2_with fail
  go_loopw [3, 4] (fun m i wr => ∃ (k : Nat) (mv : Int), m = .int .i64 mv ∧ i = .int .i64 ↑k ∧ 1 ≤ k ∧ k ≤ n ∧ mv ∈ l.take k ∧ (∀ x ∈ l.take k, mv ≤ x) ∧ wr = w) (fun _ i _ => n - (RowKit.intOf i).toNat)
  case atStart => exact ⟨1, m0, rfl, rfl, Nat.le_refl _, hn0, HM0.out.1, HM0.out.2, rfl⟩
  case round =>
    obtain ⟨k, mv, rfl, rfl, hk1, hk, h1, h2, rfl⟩ := hrel
    by_cases hkn : k < n
    · have hkn2 : ((k : Nat) : Int) < (n : Int) := by omega
      obtain ⟨b1, off1, hA1, x0⟩ := HS.out.2 k hkn
      injection hA1 with hA1
      injection hA1 with hA2 hA3
      subst hA2 hA3
      have HE := Lib.hid (min_ext (by rw [HL.out]; exact hkn) h1 h2)
      clear h1 h2
      generalize l[k]! = x at *
      go_wp2_with fail
      go_roundw
      case rel => exact ⟨k + 1, min mv x, rfl, by go_num, by omega, by omega, HE.out.1, HE.out.2, by first | rfl | trivial⟩
      case measure => simp [RowKit.intOf]; omega
    · have hkn2 : ¬ ((k : Nat) : Int) < (n : Int) := by omega
      have hke : l.take k = l := List.take_of_length_le (by have := HL.out; omega)
      rw [hke] at h1 h2
      have HE := Lib.hid (And.intro h1 h2)
      clear h1 h2
      go_wp2_with fail
      go_ret
      exact ⟨mv, rfl, HE.out.1, HE.out.2, rfl⟩
def NextPost (K : List KV) (w : World) (e : Ending) (w' : World) : Prop := (∃ m : Int, e = .returned (.tuple #[.int .i64 m, .bool (decide (0 < K.length))]) ∧ (K.length = 0 → m = 0) ∧ (0 < K.length → (∃ x ∈ K, x.2 = m) ∧ ∀ x ∈ K, m ≤ x.2)) ∧ Below w.heap.size w w'
set_option maxRecDepth 100000 in
set_option maxHeartbeats 1000000 in
theorem next_any (tick : Int) (K : List KV) (bc : Nat) (own : List Nat) (w : World) (h : Clk w tick K bc own) (hlen : K.length ≤ 2097152) :
    Calls Tryz.prog 22 #[.pointer (some ⟨bc, 0, none⟩)] w (NextPost K w) := by
  obtain ⟨bw, bs, lw, ls, h⟩ := h
  have k2 : w.cell? ⟨bc, 2, none⟩ = some (.map (some bs)) := by rw [cellH h.cells]; rfl
  have hsub : ∀ s, s ∈ ls.map (·.1) ↔ ∃ x ∈ K, x.2 = s := fun s => by
    rw [List.mem_map]
    constructor
    · rintro ⟨x, hx, rfl⟩
      obtain ⟨ids, i1, _, i3⟩ := h.inner x hx
      obtain ⟨i, hi⟩ := List.exists_mem_of_ne_nil ids i1
      exact ⟨_, (i3 i).1 hi, rfl⟩
    · rintro ⟨x, hx, rfl⟩
      obtain ⟨b, hb⟩ := h.all x hx
      exact ⟨_, hb, rfl⟩
  have hlsl : ls.length ≤ 2097152 := by
    have h1 : ((ls.map (·.1))).length ≤ (K.map (·.2)).length := nodup_len _ _ h.steps fun s hs => by
      obtain ⟨x, hx, e⟩ := (hsub s).1 hs
      exact List.mem_map.2 ⟨x, hx, e⟩
    rw [List.length_map, List.length_map] at h1
    omega
  have cS := collectA_any bs _ w h.ms (by rw [List.length_map]; omega)
  rw [List.map_map] at cS
  have e : ls.map ((fun x => x.1) ∘ fun x => (x.1, Value.map (some x.2))) = ls.map (·.1) := rfl
  rw [e] at cS
  have r := h.ms.len Tryz.underlying80 3
  rw [List.length_map] at r
  have HLK := Lib.hid (show 0 < ls.length ↔ 0 < K.length from by
    constructor
    · intro h0
      obtain ⟨x, hx, _⟩ := (hsub _).1 (List.mem_map.2 ⟨_, List.getElem_mem h0, rfl⟩)
      exact List.length_pos_of_mem hx
    · intro h0
      have := (hsub _).2 ⟨_, List.getElem_mem h0, rfl⟩
      have := List.length_pos_of_mem this
      rwa [List.length_map] at this)
  have HSUB := Lib.hid hsub
  have cK := keysA_any (some bs) w
  have HLEN := Lib.hid (show (ls.map (·.1)).length = ls.length from List.length_map ..)
  generalize ls.map (·.1) = L at *
  generalize ls.length = n at *
  clear e hsub h
  by_cases hn : 0 < n
  · have HK := Lib.hid (HLK.out.1 hn)
    have hz : ((n : Int) == 0) = false := beq_eq_false_iff_ne.2 (by omega)
    go_enter Tryz.func22, Tryz.ntmps22
    go_wp2_with fail
    refine cK.mono ?_
    rintro e w' ⟨rfl, rfl⟩
    go_wp2_with fail
    refine cS.mono ?_
    rintro e w1 ⟨ss, A1, c1, hp, rfl, hv1, hb1⟩
    rw [World.size_alloc] at hv1 hb1
    have HB1 := Lib.hid (((Below.refl _ w).alloc (Nat.le_refl _) (.cells #[.map (some bs)] 80)).trans (hb1.mono (by omega)))
    have HP := Lib.hid hp
    have hsl : ss.length = n := by rw [hp.length_eq]; exact HLEN.out
    have HS := Lib.hid (SlI.of_row hv1)
    have HN := Lib.hid (show 0 < ss.length ∧ ss.length ≤ 1073741824 by omega)
    clear hv1 hb1 hp hsl cK cS
    go_wp2_with fail
    refine (min_any A1 ss.length c1 ss _ HS.out HN.out.1 HN.out.2).mono ?_
    rintro e w' ⟨m, rfl, hm1, hm2, rfl⟩
    have HM := Lib.hid (show (∃ x ∈ K, x.2 = m) ∧ ∀ x ∈ K, m ≤ x.2 from ⟨(HSUB.out m).1 (HP.out.mem_iff.1 hm1), fun x hx => hm2 _ (HP.out.mem_iff.2 ((HSUB.out _).2 ⟨x, hx, rfl⟩))⟩)
    clear hm1 hm2
    go_wp2_with fail
    go_ret2
    exact ⟨⟨m, by rw [decide_eq_true HK.out]; rfl, fun h0 => absurd HK.out (by omega), fun _ => HM.out⟩, HB1.out⟩
  · have HK := Lib.hid (show ¬ 0 < K.length from fun h => hn (HLK.out.2 h))
    have hz : n = 0 := by omega
    subst hz
    go_enter Tryz.func22, Tryz.ntmps22
    go_wp2_with fail
    go_ret2
    exact ⟨⟨0, by rw [decide_eq_false HK.out]; rfl, fun _ => rfl, fun h0 => absurd h0 HK.out⟩, Below.refl _ _⟩
end Go.Proofs.YtfnigjeklcagnaaGreatDoor
