/- The document's clock in memory: a list of its own; the walks of NewClock, find, Deadline, Next. No condition. The walks of the document's clock: Drop, Touch, Expired. Condition: fewer than 2^21 are known. -/
import Derived.Test.YtbpmmmnphpkdjaaGreatDoorZOrdK
import Derived.Test.YtbpmmmnphpkdjaaGreatDoorZAppG
namespace Go.Proofs.YtbpmmmnphpkdjaaGreatDoor
open Go.RowKit Go.MapKept Go.Maps
def encKn (x : KV) : List Value := [.int .i64 x.1, .int .i64 x.2]
/-- the slice holds this list, in a block of ro that is not rb -/
def KnS (w : World) (rb : Nat) (ro : List Nat) (A : Option Addr) (n c : Nat) (L : List KV) : Prop := L.length = n ∧ ((A = none ∧ n = 0 ∧ c = 0) ∨ ∃ b off, A = some ⟨b, off, none⟩ ∧ b ∈ ro ∧ b ≠ rb ∧ n ≤ c ∧ ∀ j, j < n → w.cell? ⟨b, off + j * 2, none⟩ = some (.int .i64 L[j]!.1) ∧ w.cell? ⟨b, off + j * 2 + 1, none⟩ = some (.int .i64 L[j]!.2))
section
variable {w w' : World} {rb : Nat} {ro ro' : List Nat} {A : Option Addr} {n c : Nat} {L : List KV}
theorem KnS.keep (h : KnS w rb ro A n c L) (hk : ∀ p : Addr, p.block ∈ ro → p.block ≠ rb → p.block < w.heap.size → w'.cell? p = w.cell? p) : KnS w' rb ro A n c L :=
  ⟨h.1, h.2.imp (fun x => x) fun ⟨b, off, e, h1, h2, h3, h4⟩ => ⟨b, off, e, h1, h2, h3, fun j hj => by
    obtain ⟨y0, y1⟩ := h4 j hj
    exact ⟨(hk _ h1 h2 (World.block_lt_of_cell? w _ y0)).trans y0, (hk _ h1 h2 (World.block_lt_of_cell? w _ y1)).trans y1⟩⟩⟩
theorem KnS.more (h : KnS w rb ro A n c L) (hr : ∀ g ∈ ro, g ∈ ro') : KnS w rb ro' A n c L :=
  ⟨h.1, h.2.imp (fun x => x) fun ⟨b, off, e, h1, r⟩ => ⟨b, off, e, hr _ h1, r⟩⟩
theorem KnS.sl (h : KnS w rb ro A n c L) (hr : ∀ g ∈ ro, g < w.heap.size) : Sl w w.heap.size encKn 2 A n L :=
  ⟨h.1, fun hn => by
    rcases h.2 with ⟨_, e, _⟩ | ⟨b, off, e, h1, h2, h3, h4⟩
    · omega
    · refine ⟨b, off, e, hr _ h1, fun j hj i u hu => ?_⟩
      obtain ⟨y0, y1⟩ := h4 j hj
      match i, hu with
      | 0, hu => exact (y0.trans hu : _)
      | 1, hu => exact (y1.trans hu : _)⟩
theorem KnS.nil_cap (h : KnS w rb ro none n c L) : n = 0 ∧ c = 0 := by
  rcases h.2 with ⟨_, e, e2⟩ | ⟨_, _, e, _⟩
  · exact ⟨e, e2⟩
  · cases e
theorem KnS.upto (h : KnS w rb ro A n c L) {k : Nat} (hk : k ≤ n) : KnS w rb ro A k c (L.take k) :=
  ⟨by rw [List.length_take, h.1]; omega, by
    rcases h.2 with ⟨e, e1, e2⟩ | ⟨b, off, e, h1, h2, h3, h4⟩
    · exact .inl ⟨e, by omega, e2⟩
    · refine .inr ⟨b, off, e, h1, h2, by omega, fun j hj => ?_⟩
      have := h4 j (by omega)
      have e2 : (L.take k)[j]! = L[j]! := by
        have := h.1
        rw [getElem!_pos _ j (by rw [List.length_take]; omega), getElem!_pos L j (by omega), List.getElem_take]
      rw [e2]; exact this⟩
theorem KnS.from (h : KnS w rb ro A n c L) {k : Nat} (hk : k ≤ n) : KnS w rb ro (if c = k then A else A.map (·.add (k * 2))) (n - k) (c - k) (L.drop k) :=
  ⟨by rw [List.length_drop, h.1], by
    rcases h.2 with ⟨e, e1, e2⟩ | ⟨b, off, e, h1, h2, h3, h4⟩
    · exact .inl ⟨by subst e; split <;> rfl, by omega, by omega⟩
    · right
      by_cases hck : c = k
      · rw [if_pos hck]
        exact ⟨b, off, e, h1, h2, by omega, fun j hj => absurd hj (by omega)⟩
      · rw [if_neg hck]
        refine ⟨b, off + k * 2, by subst e; simp [Addr.add_lit], h1, h2, by omega, fun j hj => ?_⟩
        have := h4 (k + j) (by omega)
        have e2 : (L.drop k)[j]! = L[k + j]! := by
          have := h.1
          rw [getElem!_pos _ j (by rw [List.length_drop]; omega), getElem!_pos L (k + j) (by omega), List.getElem_drop]
        rw [e2]
        have e3 : off + k * 2 + j * 2 = off + (k + j) * 2 := by omega
        rw [e3]; exact this⟩
end
theorem Fr.cell {own : List Nat} {w w' : World} (h : Fr own w w') {p : Addr} (hp : p.block < w.heap.size) (hn : p.block ∉ own) : w'.cell? p = w.cell? p := by
  have := h.block p.block hp hn
  obtain ⟨b, o, s⟩ := p
  simp only [World.cell?, this]
def FindR (L : List KV) (id : Int) (r : Int) : Prop := (∃ k : Nat, r = ↑k ∧ k < L.length ∧ L[k]!.1 = id) ∨ (r = -1 ∧ ∀ j, j < L.length → L[j]!.1 ≠ id)
theorem KnS.at_ {w : World} {rb n c : Nat} {ro : List Nat} {A : Option Addr} {L : List KV} (h : KnS w rb ro A n c L) {k : Nat} (hk : k < n) : ∃ b off, A = some ⟨b, off, none⟩ ∧ n ≤ c ∧ w.cell? ⟨b, off + k * 2, none⟩ = some (.int .i64 L[k]!.1) ∧ w.cell? ⟨b, off + k * 2 + 1, none⟩ = some (.int .i64 L[k]!.2) := by
  rcases h.2 with ⟨_, e, _⟩ | ⟨b, off, e, _, _, h3, h⟩
  · omega
  · exact ⟨b, off, e, h3, (h k hk).1, (h k hk).2⟩
end Go.Proofs.YtbpmmmnphpkdjaaGreatDoor
namespace Go.Proofs.YtbpmmmnphpkdjaaGreatDoor
open Go.RowKit Go.MapKept Go.Maps
theorem keep1 {w w' : World} {a : Addr} {v : Value} (h : w.cell? a = some v) (hb : Below w.heap.size w w') : w'.cell? a = some v := (hb.cell (World.block_lt_of_cell? w _ h)).trans h
theorem heap_set_other (w : World) (b o : Nat) (v : Value) {g : Nat} (h : g ≠ b) : (w.setCell ⟨b, o, none⟩ v).heap[g]? = w.heap[g]? := Below.heap_setCell w ⟨b, o, none⟩ v g h
theorem fr_set (w : World) (b o : Nat) (v : Value) : Fr [b] w (w.setCell ⟨b, o, none⟩ v) := ⟨rfl, rfl, rfl, by simp [World.setCell], fun g _ hn => heap_set_other w b o v (by simpa using hn)⟩
theorem KnS.cap {w : World} {rb n c : Nat} {ro : List Nat} {A : Option Addr} {L : List KV} (h : KnS w rb ro A n c L) : n ≤ c := by
  rcases h.2 with ⟨_, e, _⟩ | ⟨_, _, _, _, _, h, _⟩
  · omega
  · exact h
end Go.Proofs.YtbpmmmnphpkdjaaGreatDoor
