/- The document's clock in memory: a list of its own; the walks of NewClock, find, Deadline, Next. No condition. -/
import Derived.Test.YtfnigjeklcagnaaGreatDoorOrdK
import Derived.Test.YtfnigjeklcagnaaGreatDoorAppG
namespace Go.Proofs.YtfnigjeklcagnaaGreatDoor
open Go.RowKit Go.MapKept Go.Maps
def encKn (x : KV) : List Value := [.int .i64 x.1, .int .i64 x.2]
/-- the slice holds this list, in a block of ro that is not rb -/
def KnS (w : World) (rb : Nat) (ro : List Nat) (A : Option Addr) (n c : Nat) (L : List KV) : Prop := L.length = n ∧ ((A = none ∧ n = 0 ∧ c = 0) ∨ ∃ b off, A = some ⟨b, off, none⟩ ∧ b ∈ ro ∧ b ≠ rb ∧ n ≤ c ∧ ∀ j, j < n → w.cell? ⟨b, off + j * 2, none⟩ = some (.int .i64 L[j]!.1) ∧ w.cell? ⟨b, off + j * 2 + 1, none⟩ = some (.int .i64 L[j]!.2))
section
variable {w w' : World} {rb : Nat} {ro ro' : List Nat} {A : Option Addr} {n c : Nat} {L : List KV}
theorem KnS.keep (h : KnS w rb ro A n c L) (hk : ∀ p : Addr, p.block ∈ ro → p.block ≠ rb → p.block < w.heap.size → w'.cell? p = w.cell? p) : KnS w' rb ro A n c L :=
  ⟨h.1, h.2.imp (fun x => x) fun ⟨b, off, e, h1, h2, h3, h4⟩ => ⟨b, off, e, h1, h2, h3, fun j hj => by
    obtain ⟨y0, y1⟩ := h4 j hj
    exact ⟨(hk _ h1 h2 (World.block_lt_of_cell? w _ y0)).trans y0, (hk _ h1 h2 (World.block_lt_of_cell? w _ y1)).trans y1⟩⟩⟩
theorem KnS.more (h : KnS w rb ro A n c L) (hr : ∀ g ∈ ro, g ∈ ro') : KnS w rb ro' A n c L :=
  ⟨h.1, h.2.imp (fun x => x) fun ⟨b, off, e, h1, r⟩ => ⟨b, off, e, hr _ h1, r⟩⟩
theorem KnS.sl (h : KnS w rb ro A n c L) (hr : ∀ g ∈ ro, g < w.heap.size) : Sl w w.heap.size encKn 2 A n L :=
  ⟨h.1, fun hn => by
    rcases h.2 with ⟨_, e, _⟩ | ⟨b, off, e, h1, h2, h3, h4⟩
    · omega
    · refine ⟨b, off, e, hr _ h1, fun j hj i u hu => ?_⟩
      obtain ⟨y0, y1⟩ := h4 j hj
      match i, hu with
      | 0, hu => exact (y0.trans hu : _)
      | 1, hu => exact (y1.trans hu : _)⟩
theorem KnS.nil_cap (h : KnS w rb ro none n c L) : n = 0 ∧ c = 0 := by
  rcases h.2 with ⟨_, e, e2⟩ | ⟨_, _, e, _⟩
  · exact ⟨e, e2⟩
  · cases e
theorem KnS.upto (h : KnS w rb ro A n c L) {k : Nat} (hk : k ≤ n) : KnS w rb ro A k c (L.take k) :=
  ⟨by rw [List.length_take, h.1]; omega, by
    rcases h.2 with ⟨e, e1, e2⟩ | ⟨b, off, e, h1, h2, h3, h4⟩
    · exact .inl ⟨e, by omega, e2⟩
    · refine .inr ⟨b, off, e, h1, h2, by omega, fun j hj => ?_⟩
      have := h4 j (by omega)
      have e2 : (L.take k)[j]! = L[j]! := by
        have := h.1
        rw [getElem!_pos _ j (by rw [List.length_take]; omega), getElem!_pos L j (by omega), List.getElem_take]
      rw [e2]; exact this⟩
theorem KnS.from (h : KnS w rb ro A n c L) {k : Nat} (hk : k ≤ n) : KnS w rb ro (if c = k then A else A.map (·.add (k * 2))) (n - k) (c - k) (L.drop k) :=
  ⟨by rw [List.length_drop, h.1], by
    rcases h.2 with ⟨e, e1, e2⟩ | ⟨b, off, e, h1, h2, h3, h4⟩
    · exact .inl ⟨by subst e; split <;> rfl, by omega, by omega⟩
    · right
      by_cases hck : c = k
      · rw [if_pos hck]
        exact ⟨b, off, e, h1, h2, by omega, fun j hj => absurd hj (by omega)⟩
      · rw [if_neg hck]
        refine ⟨b, off + k * 2, by subst e; simp [Addr.add_lit], h1, h2, by omega, fun j hj => ?_⟩
        have := h4 (k + j) (by omega)
        have e2 : (L.drop k)[j]! = L[k + j]! := by
          have := h.1
          rw [getElem!_pos _ j (by rw [List.length_drop]; omega), getElem!_pos L (k + j) (by omega), List.getElem_drop]
        rw [e2]
        have e3 : off + k * 2 + j * 2 = off + (k + j) * 2 := by omega
        rw [e3]; exact this⟩
end
def RefC (w : World) (tick : Int) (L : List KV) (rb : Nat) (ro : List Nat) : Prop :=
  rb ∈ ro ∧ (∀ g ∈ ro, g < w.heap.size) ∧ (∀ y ∈ L, wfI y.1 ∧ wfI y.2) ∧ ∃ A c, w.heap[rb]? = some (.cells #[.int .i64 tick, .slice A L.length c] 48 (0, 0)) ∧ KnS w rb ro A L.length c L
theorem Fr.cell {own : List Nat} {w w' : World} (h : Fr own w w') {p : Addr} (hp : p.block < w.heap.size) (hn : p.block ∉ own) : w'.cell? p = w.cell? p := by
  have := h.block p.block hp hn
  obtain ⟨b, o, s⟩ := p
  simp only [World.cell?, this]
theorem RefC.fr {w w' : World} {tick : Int} {L : List KV} {rb : Nat} {ro own : List Nat} (h : RefC w tick L rb ro) (hf : Fr own w w') (ha : ∀ g ∈ ro, g ∉ own) : RefC w' tick L rb ro := by
  obtain ⟨h1, h2, h3, A, c, h4, h5⟩ := h
  exact ⟨h1, fun g hg => Nat.lt_of_lt_of_le (h2 g hg) hf.size, h3, A, c, (hf.block rb (h2 rb h1) (ha rb h1)).trans h4, h5.keep fun p hp _ hl => hf.cell hl (ha _ hp)⟩
theorem RefC.below {w w' : World} {tick : Int} {L : List KV} {rb : Nat} {ro : List Nat} (h : RefC w tick L rb ro) (hb : Below w.heap.size w w') : RefC w' tick L rb ro := h.fr (Fr.of_below (own := []) hb) (by simp)
theorem RefC.lt {w : World} {tick : Int} {L : List KV} {rb : Nat} {ro : List Nat} (h : RefC w tick L rb ro) : ∀ g ∈ ro, g < w.heap.size := h.2.1
/-- what a call on it leaves -/
def RefPost (v : Value) (tick : Int) (L : List KV) (rb : Nat) (ro : List Nat) (w : World) (e : Ending) (w' : World) : Prop :=
  e = .returned v ∧ (∃ ro', RefC w' tick L rb ro' ∧ ∀ g ∈ ro', g ∈ ro ∨ w.heap.size ≤ g) ∧ Fr [rb] w w'
def RNewPost (tick : Int) (w : World) (e : Ending) (w' : World) : Prop :=
  (if 1 ≤ tick ∧ tick ≤ 1099511627776 then ∃ rb ro, e = .returned (.tuple #[.pointer (some ⟨rb, 0, none⟩), .int .i64 0]) ∧ RefC w' tick [] rb ro ∧ ∀ g ∈ ro, w.heap.size ≤ g else e = .returned (.tuple #[.pointer none, .int .i64 1])) ∧ Below w.heap.size w w'
theorem refNew_any (tick : Int) (w : World) : Calls Tryz.prog 15 #[.int .i64 tick] w (RNewPost tick w) := by
  by_cases h1 : tick < 1
  · have HN := Lib.hid (show ¬ (1 ≤ tick ∧ tick ≤ 1099511627776) by omega)
    go_enter Tryz.func15, Tryz.ntmps15
    go_wp2_with fail
    go_ret2
    exact ⟨by rw [if_neg HN.out]; rfl, Below.refl _ _⟩
  · by_cases h2 : 1099511627776 < tick
    · have HN := Lib.hid (show ¬ (1 ≤ tick ∧ tick ≤ 1099511627776) by omega)
      go_enter Tryz.func15, Tryz.ntmps15
      go_wp2_with fail
      go_ret2
      exact ⟨by rw [if_neg HN.out]; rfl, Below.refl _ _⟩
    · have HN := Lib.hid (show 1 ≤ tick ∧ tick ≤ 1099511627776 by omega)
      have HC := Lib.hid (show RefC (w.alloc (.cells #[.int .i64 tick, .slice none 0 0] 48)) tick [] w.heap.size [w.heap.size] from
        ⟨by simp, by simp, (fun y hy => by cases hy), none, 0, heap_alloc_new _ _, rfl, Or.inl ⟨rfl, rfl, rfl⟩⟩)
      have HB := Lib.hid (show Below w.heap.size w (w.alloc (.cells #[.int .i64 tick, .slice none 0 0] 48)) from (Below.refl _ w).alloc (Nat.le_refl _) _)
      go_enter Tryz.func15, Tryz.ntmps15
      go_wp2_with fail
      go_ret2
      refine ⟨?_, HB.out⟩
      rw [if_pos HN.out]
      exact ⟨_, _, rfl, HC.out, fun g hg => by simp at hg; omega⟩
def FindR (L : List KV) (id : Int) (r : Int) : Prop := (∃ k : Nat, r = ↑k ∧ k < L.length ∧ L[k]!.1 = id) ∨ (r = -1 ∧ ∀ j, j < L.length → L[j]!.1 ≠ id)
set_option maxHeartbeats 1000000 in
theorem refFind_any (tick : Int) (L : List KV) (rb : Nat) (ro : List Nat) (id : Int) (w : World) (h : RefC w tick L rb ro) (hL : L.length ≤ 2097152) :
    Calls Tryz.prog 44 #[.pointer (some ⟨rb, 0, none⟩), .int .i64 id] w fun e w' => ∃ r, e = .returned (.int .i64 r) ∧ FindR L id r ∧ w' = w := by
  obtain ⟨_, _, _, A, c, hc, hK⟩ := h
  have k1 : w.cell? ⟨rb, 1, none⟩ = some (.slice A L.length c) := by rw [cellH hc]; rfl
  have HL := Lib.hid hL
  have HK := Lib.hid hK
  clear hc hL hK
  go_enter Tryz.func44, Tryz.ntmps44
  go_wp2_with fail
  go_loopw [5] (fun j wr => ∃ (k : Nat), j = .int .i64 ↑k ∧ k ≤ L.length ∧ (∀ j, j < k → L[j]!.1 ≠ id) ∧ wr = w) (fun j _ => L.length - (RowKit.intOf j).toNat)
  case atStart => exact ⟨0, rfl, by omega, fun j hj => absurd hj (by omega), rfl⟩
  case round =>
    obtain ⟨k, rfl, hk, hall, rfl⟩ := hrel
    have HA := Lib.hid hall; clear hall
    by_cases hlt : k < L.length
    · obtain ⟨b, off, hA, x0⟩ : ∃ b off, A = some ⟨b, off, none⟩ ∧ wr.cell? ⟨b, off + k * 2, none⟩ = some (.int .i64 L[k]!.1) := by
        rcases HK.out.2 with ⟨_, e, _⟩ | ⟨b, off, e, _, _, _, h⟩
        · omega
        · exact ⟨b, off, e, (h k hlt).1⟩
      subst hA
      have hk2 : ((k : Nat) : Int) < (L.length : Int) := by omega
      by_cases he : L[k]!.1 = id
      · have HF := Lib.hid (show FindR L id ↑k from .inl ⟨k, rfl, hlt, he⟩)
        rw [he] at x0
        clear he
        go_wp2_with fail
        go_ret
        exact ⟨_, rfl, HF.out, rfl⟩
      · have HA1 := Lib.hid (show ∀ j, j < k + 1 → L[j]!.1 ≠ id from fun j hj => by rcases Nat.lt_succ_iff_lt_or_eq.1 hj with h | rfl; exact HA.out j h; exact he)
        have hne : (L[k]!.1 == id) = false := beq_eq_false_iff_ne.2 he
        clear he
        generalize L[k]!.1 = x at *
        have hL := HL.out
        go_wp2_with fail
        go_roundw
        case rel => exact ⟨k + 1, by go_num, by omega, HA1.out, by first | rfl | trivial⟩
        case measure => simp [RowKit.intOf]; omega
    · have HF := Lib.hid (show FindR L id (-1) from .inr ⟨rfl, fun j hj => HA.out j (by omega)⟩)
      have hk2 : ¬ ((k : Nat) : Int) < (L.length : Int) := by omega
      go_wp2_with fail
      go_ret
      exact ⟨_, rfl, HF.out, rfl⟩
theorem RefC.cells {w : World} {tick : Int} {L : List KV} {rb : Nat} {ro : List Nat} (h : RefC w tick L rb ro) : ∃ A c, w.cell? ⟨rb, 0, none⟩ = some (.int .i64 tick) ∧ w.cell? ⟨rb, 1, none⟩ = some (.slice A L.length c) ∧ KnS w rb ro A L.length c L := by
  obtain ⟨_, _, _, A, c, hc, hK⟩ := h
  exact ⟨A, c, by rw [cellH hc]; rfl, by rw [cellH hc]; rfl, hK⟩
theorem KnS.at_ {w : World} {rb n c : Nat} {ro : List Nat} {A : Option Addr} {L : List KV} (h : KnS w rb ro A n c L) {k : Nat} (hk : k < n) : ∃ b off, A = some ⟨b, off, none⟩ ∧ n ≤ c ∧ w.cell? ⟨b, off + k * 2, none⟩ = some (.int .i64 L[k]!.1) ∧ w.cell? ⟨b, off + k * 2 + 1, none⟩ = some (.int .i64 L[k]!.2) := by
  rcases h.2 with ⟨_, e, _⟩ | ⟨b, off, e, _, _, h3, h⟩
  · omega
  · exact ⟨b, off, e, h3, (h k hk).1, (h k hk).2⟩
set_option maxHeartbeats 1000000 in
theorem refDead_any (tick : Int) (L : List KV) (rb : Nat) (ro : List Nat) (id : Int) (w : World) (h : RefC w tick L rb ro) (h1 : OneK L) (hL : L.length ≤ 2097152) :
    Calls Tryz.prog 21 #[.pointer (some ⟨rb, 0, none⟩), .int .i64 id] w fun e w' => e = .returned (.tuple #[.int .i64 ((getK L id).getD 0), .bool (getK L id).isSome]) ∧ w' = w := by
  have H := Lib.hid h; have HL := Lib.hid hL; have HO := Lib.hid h1
  clear h hL h1
  obtain ⟨g, HG⟩ : ∃ g, Hid (getK L id = g) := ⟨_, Lib.hid rfl⟩
  rw [HG.out]
  go_enter Tryz.func21, Tryz.ntmps21
  go_wp2_with fail
  refine (refFind_any tick L rb ro id _ H.out HL.out).mono ?_
  rintro e w' ⟨r, rfl, hf, rfl⟩
  rcases hf with ⟨k, rfl, hk, hi⟩ | ⟨rfl, hn⟩
  · have hg : g = some L[k]!.2 := HG.out.symm.trans (getK_at HO.out hk hi)
    obtain ⟨A, c, _, k1, hK⟩ := H.out.cells
    obtain ⟨b, off, rfl, _, _, y1⟩ := hK.at_ hk
    have hL := HL.out
    have hk2 : ((k : Nat) : Int) < (L.length : Int) := by omega
    have hk3 : ¬ ((k : Nat) : Int) < 0 := by omega
    clear hK hi
    generalize L[k]!.2 = x at *
    subst hg
    go_wp2_with fail
    go_ret2
    exact ⟨rfl, rfl⟩
  · have hg : g = none := HG.out.symm.trans (getK_not hn)
    subst hg
    clear hn
    go_wp2_with fail
    go_ret2
    exact ⟨rfl, rfl⟩
set_option maxHeartbeats 1000000 in
theorem refNext_any (tick : Int) (L : List KV) (rb : Nat) (ro : List Nat) (w : World) (h : RefC w tick L rb ro) :
    Calls Tryz.prog 23 #[.pointer (some ⟨rb, 0, none⟩)] w fun e w' => e = .returned (.tuple #[.int .i64 (if 0 < L.length then L[0]!.2 else 0), .bool (decide (0 < L.length))]) ∧ w' = w := by
  obtain ⟨A, c, _, k1, hK⟩ := h.cells
  clear h
  by_cases hn : 0 < L.length
  · rw [if_pos hn, decide_eq_true hn]
    obtain ⟨b, off, rfl, _, _, y1⟩ := hK.at_ hn
    rw [Nat.zero_mul, Nat.add_zero] at y1
    have hz : ((L.length : Int) == 0) = false := beq_eq_false_iff_ne.2 (by omega)
    have hn2 : (0 : Int) < (L.length : Int) := by omega
    clear hK
    generalize L[0]!.2 = x at *
    go_enter Tryz.func23, Tryz.ntmps23
    go_wp2_with fail
    go_ret2
    exact ⟨rfl, rfl⟩
  · rw [if_neg hn, decide_eq_false hn]
    have hz : L.length = 0 := by omega
    rw [hz] at k1
    clear hK hn
    go_enter Tryz.func23, Tryz.ntmps23
    go_wp2_with fail
    go_ret2
    exact ⟨rfl, rfl⟩
end Go.Proofs.YtfnigjeklcagnaaGreatDoor
