/- A queue in memory; the walk of the ring's at. No condition but the bounds of the ring. A ring whose first place is emptied. No condition. The walk of the ring's take. Condition: a ring of at most 2^20 places. A ring with one more at its end; a ring copied into a greater array. No condition. The walks of a queue's Len, Last, Committed, Full. No condition. -/
import Derived.Test.YtbpmmmnphpkdjaaGreatDoorZQuoW
import Derived.Test.YtbpmmmnphpkdjaaGreatDoorZPrpI
namespace Go.Proofs.YtbpmmmnphpkdjaaGreatDoor
open Go.RowKit Go.MapKept Go.Maps
/-- what a queue is -/
structure QuT where
  (L : List PrT) (bound : Int) (vs : List VtV) (acked : List Int) (last committed : Int)
/-- where it lies: the array of the ring (block gr, cap places, the first one's number), the voters' header, the array of what they have (block ga) -/
structure QuX where
  (gr cap first : Nat) (A : Option Addr) (vh : SlC) (ga ac : Nat) (aA : Option Addr)
/-- a ring: block gr, cap places; L lies from place 'first' on -/
structure RingAt (w : World) (A : Option Addr) (gr cap first : Nat) (R : Nat → Prop) (L : List PrT) : Prop where
  le : L.length ≤ cap
  fst : first < cap ∨ (cap = 0 ∧ first = 0)
  at_ : (cap = 0 ∧ A = none) ∨ (0 < cap ∧ A = some ⟨gr, 0, none⟩)
  th : w.there gr 0 (cap * 45) ∨ cap = 0
  el : ∀ j, j < L.length → ∃ h, w.rangeAt gr (((first + j) % cap) * 45) (encPr h) ∧ PrAt w R h L[j]!
structure QuAt (w : World) (bq : Nat) (x : QuX) (R : Nat → Prop) (st : QuT) : Prop where
  box : w.heap[bq]? = some (.cells #[.slice x.A x.cap x.cap, .int .i64 x.first, .int .i64 st.L.length, .int .i64 st.bound, slV x.vh, .slice x.aA st.acked.length x.ac, .int .i64 st.last, .int .i64 st.committed] 135 (0, 0))
  ring : RingAt w x.A x.gr x.cap x.first R st.L
  vs : SlR w R encVt 2 x.vh st.vs
  ack : (st.acked.length = 0 ∧ x.aA = none) ∨ (x.aA = some ⟨x.ga, 0, none⟩ ∧ w.there x.ga 0 st.acked.length ∧ ∀ j, j < st.acked.length → w.cell? ⟨x.ga, j, none⟩ = some (.int .i64 st.acked[j]!))
  acl : st.acked.length ≤ x.ac
  lt : ∀ b, R b → b < w.heap.size
  nq : ¬ R bq
  ngr : 0 < x.cap → x.gr ≠ bq ∧ ¬ R x.gr ∧ x.gr < w.heap.size
  nga : x.aA ≠ none → x.ga ≠ bq ∧ ¬ R x.ga ∧ x.ga < w.heap.size ∧ (0 < x.cap → x.ga ≠ x.gr)
def AtP (gr m : Nat) (w : World) (e : Ending) (w' : World) : Prop := e = .returned (.pointer (some ⟨gr, m * 45, none⟩)) ∧ w' = w.drew
set_option maxRecDepth 100000 in
set_option maxHeartbeats 20000000 in
theorem at_any (bq gr cap first i : Nat) (w : World) (c0 : w.cell? ⟨bq, 0, none⟩ = some (.slice (some ⟨gr, 0, none⟩) cap cap)) (c1 : w.cell? ⟨bq, 1, none⟩ = some (.int .i64 first)) (h1 : first < cap) (h2 : i < cap) (h3 : cap ≤ 1048576) :
    Calls Tryz.prog 69 #[.pointer (some ⟨bq, 0, none⟩), .int .i64 i] w (AtP gr ((first + i) % cap) w) := by
  have hov : IntKind.i64.wrap ((first : Int) + (i : Int)) = (first : Int) + (i : Int) := by rw [IntKind.wrap_i64]; omega
  have hr : ((first : Int) + (i : Int)).tmod (cap : Int) = (((first + i) % cap : Nat) : Int) := by
    rw [show (first : Int) + (i : Int) = ((first + i : Nat) : Int) by omega, Int.ofNat_tmod]
  have hm : (first + i) % cap < cap := Nat.mod_lt _ (by omega)
  have hz : ((cap : Int) == 0) = false := beq_eq_false_iff_ne.2 (by omega)
  generalize (first + i) % cap = m at *
  have hb1 : (0 : Int) ≤ (m : Int) := by omega
  have hb2 : (m : Int) < (cap : Int) := by omega
  go_enter Tryz.func69, Tryz.ntmps69
  go_wp2_with fail
  go_region
  all_goals go_wp2_with fail
  all_goals go_ret
  all_goals exact ⟨rfl, rfl⟩
end Go.Proofs.YtbpmmmnphpkdjaaGreatDoor
namespace Go.Proofs.YtbpmmmnphpkdjaaGreatDoor
open Go.RowKit Go.MapKept Go.Maps
theorem ring_mod {first cap j : Nat} : ((first + 1) % cap + j) % cap = (first + (j + 1)) % cap := by
  rw [Nat.mod_add_mod, show first + 1 + j = first + (j + 1) by omega]
theorem ring_ne {first cap j : Nat} (hf : first < cap) (hj : j + 1 < cap) : (first + (j + 1)) % cap ≠ first := by
  intro e
  by_cases h : first + (j + 1) < cap
  · rw [Nat.mod_eq_of_lt h] at e; omega
  · rw [Nat.mod_eq_sub_mod (by omega), Nat.mod_eq_of_lt (by omega)] at e; omega
theorem row_apart {a b : Nat} (h : a ≠ b) : a * 45 + 45 ≤ b * 45 ∨ b * 45 + 45 ≤ a * 45 := by omega
theorem lenPr (h : PrH) : (encPr h).length = 45 := by simp [encPr]
theorem RingAt.taken {w : World} {A : Option Addr} {gr cap first : Nat} {R : Nat → Prop} {p : PrT} {rest : List PrT} (H : RingAt w A gr cap first R (p :: rest)) (hf : first < cap) (zs : List Value) (hz : zs.length = 45) (hR : ¬ R gr) : RingAt (w.setCells gr (first * 45) zs) A gr cap ((first + 1) % cap) R rest := by
  have hle : rest.length + 1 ≤ cap := H.le
  refine ⟨by omega, .inl (Nat.mod_lt _ (by omega)), H.at_, H.th.imp (fun h => World.there_setCells h _ _ _) id, fun j hj => ?_⟩
  obtain ⟨h, hr, hp⟩ := H.el (j + 1) (by simp; omega)
  have e : (p :: rest)[j + 1]! = rest[j]! := by simp
  rw [e] at hp
  refine ⟨h, ?_, hp.fr (fr_setCells w gr (first * 45) zs) (fun b _ hb => ⟨by simp; exact fun e => hR (e ▸ hb), hb⟩)⟩
  rw [ring_mod]
  refine World.rangeAt_setCells_apart hr _ _ _ (.inr ?_)
  rw [lenPr, hz]
  exact row_apart (ring_ne hf (by omega))
end Go.Proofs.YtbpmmmnphpkdjaaGreatDoor
namespace Go.Proofs.YtbpmmmnphpkdjaaGreatDoor
open Go.RowKit Go.MapKept Go.Maps
theorem bd63 : Tryz.prog.built 63 [] = some #[.int .i64 0, .int .i32 0, .int .i64 0, .int .i64 0, .int .i32 0, .string ⟨#[]⟩, .slice none 0 0, .slice none 0 0, .int .i64 0, .int .i32 0, .int .i32 0, .bool false, .int .i64 0, .int .i64 0, .int .i64 0, .int .i32 0, .slice none 0 0, .slice none 0 0, .int .i32 0, .slice none 0 0, .int .i32 0, .int .i64 0, .int .i32 0, .int .i32 0, .int .i32 0, .string ⟨#[]⟩, .int .i64 0, .int .i64 0, .int .i64 0, .int .i64 0, .int .i32 0, .int .i32 0, .int .i32 0, .int .i64 0, .int .i32 0, .int .i32 0, .int .i64 0, .slice none 0 0, .slice none 0 0, .slice none 0 0, .int .i32 0, .int .i64 0, .int .i32 0, .slice none 0 0, .slice none 0 0] := by kernel_rfl
theorem wpList_bd63 {ops : Array Oper} {rest : List Oper} {o : Oper} {a : Act} {w : World} {Q : Exit → Act → World → Prop} (hg : o.guard = none) (ho : o.op = .build 63 #[]) (h : wpList Tryz.prog ops Q rest (a.put o.dst (.agg #[.int .i64 0, .int .i32 0, .int .i64 0, .int .i64 0, .int .i32 0, .string ⟨#[]⟩, .slice none 0 0, .slice none 0 0, .int .i64 0, .int .i32 0, .int .i32 0, .bool false, .int .i64 0, .int .i64 0, .int .i64 0, .int .i32 0, .slice none 0 0, .slice none 0 0, .int .i32 0, .slice none 0 0, .int .i32 0, .int .i64 0, .int .i32 0, .int .i32 0, .int .i32 0, .string ⟨#[]⟩, .int .i64 0, .int .i64 0, .int .i64 0, .int .i64 0, .int .i32 0, .int .i32 0, .int .i32 0, .int .i64 0, .int .i32 0, .int .i32 0, .int .i64 0, .slice none 0 0, .slice none 0 0, .slice none 0 0, .int .i32 0, .int .i64 0, .int .i32 0, .slice none 0 0, .slice none 0 0])) w) : wpList Tryz.prog ops Q (o :: rest) a w := by
  have e : Tryz.prog.built 63 ((#[] : Array (Nat × Operand)).map fun (i, x) => (i, a.eval x)).toList = some #[.int .i64 0, .int .i32 0, .int .i64 0, .int .i64 0, .int .i32 0, .string ⟨#[]⟩, .slice none 0 0, .slice none 0 0, .int .i64 0, .int .i32 0, .int .i32 0, .bool false, .int .i64 0, .int .i64 0, .int .i64 0, .int .i32 0, .slice none 0 0, .slice none 0 0, .int .i32 0, .slice none 0 0, .int .i32 0, .int .i64 0, .int .i32 0, .int .i32 0, .int .i32 0, .string ⟨#[]⟩, .int .i64 0, .int .i64 0, .int .i64 0, .int .i64 0, .int .i32 0, .int .i32 0, .int .i32 0, .int .i64 0, .int .i32 0, .int .i32 0, .int .i64 0, .slice none 0 0, .slice none 0 0, .slice none 0 0, .int .i32 0, .int .i64 0, .int .i32 0, .slice none 0 0, .slice none 0 0] := by
    simpa using bd63
  refine wpList_build hg 63 #[] ho (by rw [e]; rfl) ?_
  rw [e]
  exact h
theorem oneZ : (#[.int .i64 0, .int .i32 0, .int .i64 0, .int .i64 0, .int .i32 0, .string ⟨#[]⟩, .slice none 0 0, .slice none 0 0, .int .i64 0, .int .i32 0, .int .i32 0, .bool false, .int .i64 0, .int .i64 0, .int .i64 0, .int .i32 0, .slice none 0 0, .slice none 0 0, .int .i32 0, .slice none 0 0, .int .i32 0, .int .i64 0, .int .i32 0, .int .i32 0, .int .i32 0, .string ⟨#[]⟩, .int .i64 0, .int .i64 0, .int .i64 0, .int .i64 0, .int .i32 0, .int .i32 0, .int .i32 0, .int .i64 0, .int .i32 0, .int .i32 0, .int .i64 0, .slice none 0 0, .slice none 0 0, .slice none 0 0, .int .i32 0, .int .i64 0, .int .i32 0, .slice none 0 0, .slice none 0 0] : Array Value).all (·.oneCell') = true := by simp [Value.oneCell']
theorem sizeZ : (#[.int .i64 0, .int .i32 0, .int .i64 0, .int .i64 0, .int .i32 0, .string ⟨#[]⟩, .slice none 0 0, .slice none 0 0, .int .i64 0, .int .i32 0, .int .i32 0, .bool false, .int .i64 0, .int .i64 0, .int .i64 0, .int .i32 0, .slice none 0 0, .slice none 0 0, .int .i32 0, .slice none 0 0, .int .i32 0, .int .i64 0, .int .i32 0, .int .i32 0, .int .i32 0, .string ⟨#[]⟩, .int .i64 0, .int .i64 0, .int .i64 0, .int .i64 0, .int .i32 0, .int .i32 0, .int .i32 0, .int .i64 0, .int .i32 0, .int .i32 0, .int .i64 0, .slice none 0 0, .slice none 0 0, .slice none 0 0, .int .i32 0, .int .i64 0, .int .i32 0, .slice none 0 0, .slice none 0 0] : Array Value).size = 45 := rfl
theorem onePr (h : PrH) : (encPr h).toArray.all (·.oneCell') = true := by simp [encPr, Value.oneCell']
def zPr : List Value := [.int .i64 0, .int .i32 0, .int .i64 0, .int .i64 0, .int .i32 0, .string ⟨#[]⟩, .slice none 0 0, .slice none 0 0, .int .i64 0, .int .i32 0, .int .i32 0, .bool false, .int .i64 0, .int .i64 0, .int .i64 0, .int .i32 0, .slice none 0 0, .slice none 0 0, .int .i32 0, .slice none 0 0, .int .i32 0, .int .i64 0, .int .i32 0, .int .i32 0, .int .i32 0, .string ⟨#[]⟩, .int .i64 0, .int .i64 0, .int .i64 0, .int .i64 0, .int .i32 0, .int .i32 0, .int .i32 0, .int .i64 0, .int .i32 0, .int .i32 0, .int .i64 0, .slice none 0 0, .slice none 0 0, .slice none 0 0, .int .i32 0, .int .i64 0, .int .i32 0, .slice none 0 0, .slice none 0 0]
def QuX.next (x : QuX) : QuX := { x with first := (x.first + 1) % x.cap }
def QuT.rest (st : QuT) : QuT := { st with L := st.L.tail }
def TakeP (p : PrT) (bq : Nat) (x : QuX) (R : Nat → Prop) (st : QuT) (w : World) (e : Ending) (w' : World) : Prop := (∃ h, e = .returned (prV h) ∧ PrAt w' R h p ∧ QuAt w' bq x.next R st) ∧ Fr [bq, x.gr] w w'
/-- the queue behind a call that turns other blocks -/
theorem RingAt.fr {w w' : World} {A : Option Addr} {gr cap first : Nat} {R : Nat → Prop} {L : List PrT} {own : List Nat} (h : RingAt w A gr cap first R L) (hf : Fr own w w') (hgr : 0 < cap → gr ∉ own) (hR : ∀ b, R b → b ∉ own) : RingAt w' A gr cap first R L := by
  refine ⟨h.le, h.fst, h.at_, ?_, fun j hj => ?_⟩
  · rcases h.th with ht | ht
    · by_cases h0 : cap = 0
      · exact .inr h0
      · exact .inl (there_fr9 ht hf (hgr (by omega)))
    · exact .inr ht
  · obtain ⟨hh, hr, hp⟩ := h.el j hj
    have hc : 0 < cap := by have := h.le; omega
    refine ⟨hh, fun i u hu => ?_, hp.fr hf (fun b _ hb => ⟨hR b hb, hb⟩)⟩
    have h1 := hr i u hu
    rw [hf.cell (p := ⟨gr, _ + i, none⟩) (World.block_lt_of_cell? w _ h1) (hgr hc)]; exact h1
set_option linter.unusedSimpArgs false in
set_option maxRecDepth 100000 in
set_option maxHeartbeats 20000000 in
theorem take_any (bq : Nat) (x : QuX) (R : Nat → Prop) (p : PrT) (rest : List PrT) (bd : Int) (vs : List VtV) (ak : List Int) (la co : Int) (w : World) (hq : QuAt w bq x R ⟨p :: rest, bd, vs, ak, la, co⟩) (hcap : x.cap ≤ 1048576) :
    Calls Tryz.prog 70 #[.pointer (some ⟨bq, 0, none⟩)] w (TakeP p bq x R ⟨rest, bd, vs, ak, la, co⟩ w) := by
  have hlen : rest.length + 1 ≤ x.cap := hq.ring.le
  have hfst : x.first < x.cap := by rcases hq.ring.fst with h | h <;> omega
  have hA : x.A = some ⟨x.gr, 0, none⟩ := by
    rcases hq.ring.at_ with h | h
    · omega
    · exact h.2
  have hth : w.there x.gr 0 (x.cap * 45) := by
    rcases hq.ring.th with h | h
    · exact h
    · omega
  obtain ⟨h, hr, hp⟩ := hq.ring.el 0 (by simp)
  rw [Nat.add_zero, Nat.mod_eq_of_lt hfst] at hr
  have hbox := hq.box
  dsimp only at hbox
  rw [hA, show (p :: rest).length = rest.length + 1 from rfl] at hbox
  have hngr := hq.ngr (by omega)
  have hrow : w.there x.gr (x.first * 45) 45 := fun j hj => by
    have h1 := Nat.mul_le_mul_right 45 (show x.first + 1 ≤ x.cap by omega)
    have := hth (x.first * 45 + j) (by omega)
    rwa [Nat.zero_add] at this
  have hltq : bq < w.heap.size := (Array.getElem?_eq_some_iff.1 hbox).1
  have HQ := Lib.hid hq; have HP := Lib.hid hp
  -- the worlds
  have hf1 : Below w.heap.size w (w.alloc (.cells #[.int .i64 0, .int .i32 0, .int .i64 0, .int .i64 0, .int .i32 0, .string ⟨#[]⟩, .slice none 0 0, .slice none 0 0, .int .i64 0, .int .i32 0, .int .i32 0, .bool false, .int .i64 0, .int .i64 0, .int .i64 0, .int .i32 0, .slice none 0 0, .slice none 0 0, .int .i32 0, .slice none 0 0, .int .i32 0, .int .i64 0, .int .i32 0, .int .i32 0, .int .i32 0, .string ⟨#[]⟩, .int .i64 0, .int .i64 0, .int .i64 0, .int .i64 0, .int .i32 0, .int .i32 0, .int .i32 0, .int .i64 0, .int .i32 0, .int .i32 0, .int .i64 0, .slice none 0 0, .slice none 0 0, .slice none 0 0, .int .i32 0, .int .i64 0, .int .i32 0, .slice none 0 0, .slice none 0 0] 63)) := (Below.refl _ w).alloc (Nat.le_refl _) _
  have HB1 := Lib.hid hf1.drew
  have HG0 := Lib.hid (show (w.alloc (.cells #[.int .i64 0, .int .i32 0, .int .i64 0, .int .i64 0, .int .i32 0, .string ⟨#[]⟩, .slice none 0 0, .slice none 0 0, .int .i64 0, .int .i32 0, .int .i32 0, .bool false, .int .i64 0, .int .i64 0, .int .i64 0, .int .i32 0, .slice none 0 0, .slice none 0 0, .int .i32 0, .slice none 0 0, .int .i32 0, .int .i64 0, .int .i32 0, .int .i32 0, .int .i32 0, .string ⟨#[]⟩, .int .i64 0, .int .i64 0, .int .i64 0, .int .i64 0, .int .i32 0, .int .i32 0, .int .i32 0, .int .i64 0, .int .i32 0, .int .i32 0, .int .i64 0, .slice none 0 0, .slice none 0 0, .slice none 0 0, .int .i32 0, .int .i64 0, .int .i32 0, .slice none 0 0, .slice none 0 0] 63)).drew.heap[w.heap.size]? = some (.cells #[.int .i64 0, .int .i32 0, .int .i64 0, .int .i64 0, .int .i32 0, .string ⟨#[]⟩, .slice none 0 0, .slice none 0 0, .int .i64 0, .int .i32 0, .int .i32 0, .bool false, .int .i64 0, .int .i64 0, .int .i64 0, .int .i32 0, .slice none 0 0, .slice none 0 0, .int .i32 0, .slice none 0 0, .int .i32 0, .int .i64 0, .int .i32 0, .int .i32 0, .int .i32 0, .string ⟨#[]⟩, .int .i64 0, .int .i64 0, .int .i64 0, .int .i64 0, .int .i32 0, .int .i32 0, .int .i32 0, .int .i64 0, .int .i32 0, .int .i32 0, .int .i64 0, .slice none 0 0, .slice none 0 0, .slice none 0 0, .int .i32 0, .int .i64 0, .int .i32 0, .slice none 0 0, .slice none 0 0] 63 (0, 0)) from heap_s0 w _)
  have HS1 := Lib.hid (show (w.alloc (.cells #[.int .i64 0, .int .i32 0, .int .i64 0, .int .i64 0, .int .i32 0, .string ⟨#[]⟩, .slice none 0 0, .slice none 0 0, .int .i64 0, .int .i32 0, .int .i32 0, .bool false, .int .i64 0, .int .i64 0, .int .i64 0, .int .i32 0, .slice none 0 0, .slice none 0 0, .int .i32 0, .slice none 0 0, .int .i32 0, .int .i64 0, .int .i32 0, .int .i32 0, .int .i32 0, .string ⟨#[]⟩, .int .i64 0, .int .i64 0, .int .i64 0, .int .i64 0, .int .i32 0, .int .i32 0, .int .i32 0, .int .i64 0, .int .i32 0, .int .i32 0, .int .i64 0, .slice none 0 0, .slice none 0 0, .slice none 0 0, .int .i32 0, .int .i64 0, .int .i32 0, .slice none 0 0, .slice none 0 0] 63)).drew.heap.size = w.heap.size + 1 from sz1 w _)
  have c0 : (w.alloc (.cells #[.int .i64 0, .int .i32 0, .int .i64 0, .int .i64 0, .int .i32 0, .string ⟨#[]⟩, .slice none 0 0, .slice none 0 0, .int .i64 0, .int .i32 0, .int .i32 0, .bool false, .int .i64 0, .int .i64 0, .int .i64 0, .int .i32 0, .slice none 0 0, .slice none 0 0, .int .i32 0, .slice none 0 0, .int .i32 0, .int .i64 0, .int .i32 0, .int .i32 0, .int .i32 0, .string ⟨#[]⟩, .int .i64 0, .int .i64 0, .int .i64 0, .int .i64 0, .int .i32 0, .int .i32 0, .int .i32 0, .int .i64 0, .int .i32 0, .int .i32 0, .int .i64 0, .slice none 0 0, .slice none 0 0, .slice none 0 0, .int .i32 0, .int .i64 0, .int .i32 0, .slice none 0 0, .slice none 0 0] 63)).cell? ⟨bq, 0, none⟩ = some (.slice (some ⟨x.gr, 0, none⟩) x.cap x.cap) := by rw [cellH ((hf1.block bq hltq).trans hbox)]; rfl
  have c1 : (w.alloc (.cells #[.int .i64 0, .int .i32 0, .int .i64 0, .int .i64 0, .int .i32 0, .string ⟨#[]⟩, .slice none 0 0, .slice none 0 0, .int .i64 0, .int .i32 0, .int .i32 0, .bool false, .int .i64 0, .int .i64 0, .int .i64 0, .int .i32 0, .slice none 0 0, .slice none 0 0, .int .i32 0, .slice none 0 0, .int .i32 0, .int .i64 0, .int .i32 0, .int .i32 0, .int .i32 0, .string ⟨#[]⟩, .int .i64 0, .int .i64 0, .int .i64 0, .int .i64 0, .int .i32 0, .int .i32 0, .int .i32 0, .int .i64 0, .int .i32 0, .int .i32 0, .int .i64 0, .slice none 0 0, .slice none 0 0, .slice none 0 0, .int .i32 0, .int .i64 0, .int .i32 0, .slice none 0 0, .slice none 0 0] 63)).cell? ⟨bq, 1, none⟩ = some (.int .i64 x.first) := by rw [cellH ((hf1.block bq hltq).trans hbox)]; rfl
  have HC1 := Lib.hid (at_any bq x.gr x.cap x.first 0 _ c0 c1 hfst (by omega) hcap)
  have hr1 : (w.alloc (.cells #[.int .i64 0, .int .i32 0, .int .i64 0, .int .i64 0, .int .i32 0, .string ⟨#[]⟩, .slice none 0 0, .slice none 0 0, .int .i64 0, .int .i32 0, .int .i32 0, .bool false, .int .i64 0, .int .i64 0, .int .i64 0, .int .i32 0, .slice none 0 0, .slice none 0 0, .int .i32 0, .slice none 0 0, .int .i32 0, .int .i64 0, .int .i32 0, .int .i32 0, .int .i32 0, .string ⟨#[]⟩, .int .i64 0, .int .i64 0, .int .i64 0, .int .i64 0, .int .i32 0, .int .i32 0, .int .i32 0, .int .i64 0, .int .i32 0, .int .i32 0, .int .i64 0, .slice none 0 0, .slice none 0 0, .slice none 0 0, .int .i32 0, .int .i64 0, .int .i32 0, .slice none 0 0, .slice none 0 0] 63)).drew.rangeAt x.gr (x.first * 45) (encPr h) := range_below hr HB1.out
  have HT := Lib.hid hrow
  have HX := Lib.hid hbox; have HLQ := Lib.hid hltq
  rw [Nat.add_zero, Nat.mod_eq_of_lt hfst] at HC1
  clear hf1 c0 c1 hq hp hbox hr hth hrow hltq
  go_enter Tryz.func70, Tryz.ntmps70
  go_wp2_with fail
  refine HC1.out.mono ?_
  rintro e w1 ⟨rfl, rfl⟩
  generalize (w.alloc (.cells #[.int .i64 0, .int .i32 0, .int .i64 0, .int .i64 0, .int .i32 0, .string ⟨#[]⟩, .slice none 0 0, .slice none 0 0, .int .i64 0, .int .i32 0, .int .i32 0, .bool false, .int .i64 0, .int .i64 0, .int .i64 0, .int .i32 0, .slice none 0 0, .slice none 0 0, .int .i32 0, .slice none 0 0, .int .i32 0, .int .i64 0, .int .i32 0, .int .i32 0, .int .i32 0, .string ⟨#[]⟩, .int .i64 0, .int .i64 0, .int .i64 0, .int .i64 0, .int .i32 0, .int .i32 0, .int .i32 0, .int .i64 0, .int .i32 0, .int .i32 0, .int .i64 0, .slice none 0 0, .slice none 0 0, .slice none 0 0, .int .i32 0, .int .i64 0, .int .i32 0, .slice none 0 0, .slice none 0 0] 63)).drew = V1 at *
  have hf2 : Below V1.heap.size V1 (V1.alloc (.cells (encPr h).toArray 63)) := (Below.refl _ V1).alloc (Nat.le_refl _) _
  have hbx2 : (V1.alloc (.cells (encPr h).toArray 63)).heap[bq]? = _ := ((HB1.out.trans (hf2.mono HB1.out.size)).block bq HLQ.out).trans HX.out
  have HC2 := Lib.hid (at_any bq x.gr x.cap x.first 0 (V1.alloc (.cells (encPr h).toArray 63)) (by rw [cellH hbx2]; rfl) (by rw [cellH hbx2]; rfl) hfst (by omega) hcap)
  rw [Nat.add_zero, Nat.mod_eq_of_lt hfst] at HC2
  have HB2 := Lib.hid (HB1.out.trans (hf2.mono HB1.out.size)).drew
  have HG1 := Lib.hid (show (V1.alloc (.cells (encPr h).toArray 63)).drew.heap[V1.heap.size]? = some (.cells (encPr h).toArray 63 (0, 0)) from heap_s0 V1 _)
  have HG02 := Lib.hid (show (V1.alloc (.cells (encPr h).toArray 63)).drew.heap[w.heap.size]? = some (.cells #[.int .i64 0, .int .i32 0, .int .i64 0, .int .i64 0, .int .i32 0, .string ⟨#[]⟩, .slice none 0 0, .slice none 0 0, .int .i64 0, .int .i32 0, .int .i32 0, .bool false, .int .i64 0, .int .i64 0, .int .i64 0, .int .i32 0, .slice none 0 0, .slice none 0 0, .int .i32 0, .slice none 0 0, .int .i32 0, .int .i64 0, .int .i32 0, .int .i32 0, .int .i32 0, .string ⟨#[]⟩, .int .i64 0, .int .i64 0, .int .i64 0, .int .i64 0, .int .i32 0, .int .i32 0, .int .i32 0, .int .i64 0, .int .i32 0, .int .i32 0, .int .i64 0, .slice none 0 0, .slice none 0 0, .slice none 0 0, .int .i32 0, .int .i64 0, .int .i32 0, .slice none 0 0, .slice none 0 0] 63 (0, 0)) from (hf2.block _ (by rw [HS1.out]; omega)).trans HG0.out)
  have HS2 := Lib.hid (show (V1.alloc (.cells (encPr h).toArray 63)).drew.heap.size = V1.heap.size + 1 from sz1 V1 _)
  clear hf2 hbx2
  go_wp2_with (first
    | (apply wpList_loadMid 63; exact rfl; exact rfl; exact rfl; assumption; exact undPr; exact rfl; exact infPr)
    | (apply wpList_storeTop 63 63; exact rfl; exact rfl; exact rfl; (first | (with_reducible rfl) | (exact sz1 _ _) | (exact sz2 _ _ _) | (exact sz3 _ _ _ _)); exact rfl; exact infPr; exact rfl; (first | exact onePr _ | simp [Value.oneCell']))
    | fail)
  refine HC2.out.mono ?_
  rintro e w2 ⟨rfl, rfl⟩
  generalize (V1.alloc (.cells (encPr h).toArray 63)).drew = V2 at *
  have hth2 : V2.there x.gr (x.first * 45) (#[.int .i64 0, .int .i32 0, .int .i64 0, .int .i64 0, .int .i32 0, .string ⟨#[]⟩, .slice none 0 0, .slice none 0 0, .int .i64 0, .int .i32 0, .int .i32 0, .bool false, .int .i64 0, .int .i64 0, .int .i64 0, .int .i32 0, .slice none 0 0, .slice none 0 0, .int .i32 0, .slice none 0 0, .int .i32 0, .int .i64 0, .int .i32 0, .int .i32 0, .int .i32 0, .string ⟨#[]⟩, .int .i64 0, .int .i64 0, .int .i64 0, .int .i64 0, .int .i32 0, .int .i32 0, .int .i32 0, .int .i64 0, .int .i32 0, .int .i32 0, .int .i64 0, .slice none 0 0, .slice none 0 0, .slice none 0 0, .int .i32 0, .int .i64 0, .int .i32 0, .slice none 0 0, .slice none 0 0] : Array Value).size := by rw [sizeZ]; exact there_below HT.out HB2.out
  have hF3 := fr_setCells V2 x.gr (x.first * 45) zPr
  have hne : x.gr ≠ bq := hngr.1
  have hbx3 : (V2.setCells x.gr (x.first * 45) zPr).heap[bq]? = _ := (hF3.block bq (Nat.lt_of_lt_of_le HLQ.out HB2.out.size) (by simp; exact fun e => hne e.symm)).trans ((HB2.out.block bq HLQ.out).trans HX.out)
  have HG03 := Lib.hid ((hF3.block w.heap.size (by have := HS1.out; have := HS2.out; omega) (by have := hngr.2.2; simp; omega)).trans HG02.out)
  have HG13 := Lib.hid ((hF3.block V1.heap.size (by have := HS2.out; omega) (by have := hngr.2.2; have := HS1.out; simp; omega)).trans HG1.out)
  have c0 := cellH (o := 0) hbx3
  have c1 := cellH (o := 1) hbx3
  have c2 := cellH (o := 2) hbx3
  have f1 : (V2.setCells x.gr (x.first * 45) zPr).frozen? ⟨bq, 1, none⟩ = false := by simp [World.frozen?, hbx3]
  have f2 : (V2.setCells x.gr (x.first * 45) zPr).frozen? ⟨bq, 2, none⟩ = false := by simp [World.frozen?, hbx3]
  simp only [List.getElem?_toArray, List.getElem?_cons_zero, List.getElem?_cons_succ] at c0 c1 c2
  have hov : IntKind.i64.wrap ((x.first : Int) + 1) = (x.first : Int) + 1 := by rw [IntKind.wrap_i64]; omega
  have hrm : ((x.first : Int) + 1).tmod (x.cap : Int) = (((x.first + 1) % x.cap : Nat) : Int) := by
    rw [show (x.first : Int) + 1 = ((x.first + 1 : Nat) : Int) by omega, Int.ofNat_tmod]
  have hzc : ((x.cap : Int) == 0) = false := beq_eq_false_iff_ne.2 (by omega)
  have HBX3 := Lib.hid hbx3; have HF3 := Lib.hid hF3
  clear hbx3 hF3
  go_wp2_with (first
    | (refine wpList_bd63 rfl rfl ?_)
    | (refine wpList_storeMid 63 rfl rfl rfl rfl hth2 infPr oneZ ?_)
    | fail)
  have HRING := Lib.hid (RingAt.taken (RingAt.fr HQ.out.ring (Fr.of_below (own := []) HB2.out) (by simp) (by simp)) hfst zPr rfl hngr.2.1)
  change Code.wp _ _ _ _ (V2.setCells x.gr (x.first * 45) zPr)
  generalize V2.setCells x.gr (x.first * 45) zPr = V3 at *
  (try simp only [Act.put, List.setIfInBounds_toArray, List.set_cons_zero, List.set_cons_succ])
  have hzn : ¬ x.cap = 0 := by omega
  generalize hcE : x.cap = cap at *
  generalize hfE : x.first = first at *
  generalize hmE : (first + 1) % cap = m at *
  have HCE := Lib.hid (And.intro hcE (And.intro hfE hmE))
  clear hcE hfE hmE
  have hw0 : w.heap.size ≠ bq := by have := HLQ.out; omega
  have hw1 : V1.heap.size ≠ bq := by have := HLQ.out; have := HS1.out; omega
  have hsub : IntKind.i64.wrap ((↑(rest.length + 1) : Int) - 1) = (rest.length : Int) := by rw [IntKind.wrap_i64]; omega
  have g1 : ((V3.setCell ⟨bq, 1, none⟩ (.int .i64 ↑m)).setCell ⟨bq, 2, none⟩ (.int .i64 ↑rest.length)).drew.heap[V1.heap.size]? = some (.cells (encPr h).toArray 63 (0, 0)) := ((heap_set_other _ bq 2 _ hw1).trans (heap_set_other _ bq 1 _ hw1)).trans HG13.out
  have g0 : ((V3.setCell ⟨bq, 1, none⟩ (.int .i64 ↑m)).setCell ⟨bq, 2, none⟩ (.int .i64 ↑rest.length)).drew.heap[w.heap.size]? = some (.cells #[.int .i64 0, .int .i32 0, .int .i64 0, .int .i64 0, .int .i32 0, .string ⟨#[]⟩, .slice none 0 0, .slice none 0 0, .int .i64 0, .int .i32 0, .int .i32 0, .bool false, .int .i64 0, .int .i64 0, .int .i64 0, .int .i32 0, .slice none 0 0, .slice none 0 0, .int .i32 0, .slice none 0 0, .int .i32 0, .int .i64 0, .int .i32 0, .int .i32 0, .int .i32 0, .string ⟨#[]⟩, .int .i64 0, .int .i64 0, .int .i64 0, .int .i64 0, .int .i32 0, .int .i32 0, .int .i32 0, .int .i64 0, .int .i32 0, .int .i32 0, .int .i64 0, .slice none 0 0, .slice none 0 0, .slice none 0 0, .int .i32 0, .int .i64 0, .int .i32 0, .slice none 0 0, .slice none 0 0] 63 (0, 0)) := ((heap_set_other _ bq 2 _ hw0).trans (heap_set_other _ bq 1 _ hw0)).trans HG03.out
  go_region
  all_goals go_wp2_with (first
    | (apply wpList_loadRow 63 63; exact rfl; exact rfl; exact rfl; (first | assumption | (refine heap_under ?_; assumption) | (exact heap_s0 _ _) | (exact heap_s1 _ _ _) | (exact heap_s2 _ _ _ _) | (exact heap_s3 _ _ _ _ _) | (exact heap_under (heap_s0 _ _)) | (exact heap_under (heap_s1 _ _ _)) | (exact heap_under (heap_s2 _ _ _ _)) | (exact heap_under (heap_under (heap_s0 _ _))) | (exact heap_under (heap_under (heap_s1 _ _ _))) | (exact heap_under (heap_under (heap_under (heap_s0 _ _))))); exact undPr; exact rfl; exact infPr)
    | (apply wpList_storeRow 63 63; exact rfl; exact rfl; exact rfl; exact rfl; (first | assumption | (refine heap_under ?_; assumption) | (exact heap_s0 _ _) | (exact heap_s1 _ _ _) | (exact heap_s2 _ _ _ _) | (exact heap_s3 _ _ _ _ _) | (exact heap_under (heap_s0 _ _)) | (exact heap_under (heap_s1 _ _ _)) | (exact heap_under (heap_s2 _ _ _ _)) | (exact heap_under (heap_under (heap_s0 _ _))) | (exact heap_under (heap_under (heap_s1 _ _ _))) | (exact heap_under (heap_under (heap_under (heap_s0 _ _))))); exact infPr; exact rfl; (first | exact onePr _ | simp [Value.oneCell']))
    | fail)
  case _ =>
  have hf4 : Fr [bq, w.heap.size] V3 (((V3.setCell ⟨bq, 1, none⟩ (.int .i64 ↑m)).setCell ⟨bq, 2, none⟩ (.int .i64 ↑rest.length)).drew.setRow w.heap.size (encPr h).toArray) :=
    ((((Fr.refl _ V3).set (by simp) 1 _).set (by simp) 2 _).trans (Fr.of_below (own := []) (drew_self _)) (by simp)).trans (fr_setRow9 _ _ _) (by simp)
  have hft : Fr [bq, x.gr, w.heap.size] w (((V3.setCell ⟨bq, 1, none⟩ (.int .i64 ↑m)).setCell ⟨bq, 2, none⟩ (.int .i64 ↑rest.length)).drew.setRow w.heap.size (encPr h).toArray) :=
    ((Fr.of_below (own := [bq, x.gr, w.heap.size]) HB2.out).trans HF3.out (fun g hg => .inl (by simp at hg; simp [hg]))).trans hf4 (fun g hg => .inl (by simp at hg; rcases hg with h | h <;> simp [h]))
  have hbx : (((V3.setCell ⟨bq, 1, none⟩ (.int .i64 ↑m)).setCell ⟨bq, 2, none⟩ (.int .i64 ↑rest.length)).drew.setRow w.heap.size (encPr h).toArray).heap[bq]? = _ := (setRow_other _ _ _ _ (Ne.symm hw0)).trans (heap_setN (heap_setN HBX3.out (.int .i64 ↑m)) (.int .i64 ↑rest.length))
  have hRb : ∀ b, b < w.heap.size → R b → b ∉ [bq, x.gr, w.heap.size] ∧ R b := fun b hlt hb => ⟨by
    have h1 : b ≠ bq := fun e => HQ.out.nq (e ▸ hb)
    have h2 : b ≠ x.gr := fun e => hngr.2.1 (e ▸ hb)
    simp [h1, h2]; omega, hb⟩
  have hring := RingAt.fr HRING.out hf4 (fun _ => by have := hngr.2.2; simp [hngr.1]; omega) (fun b hb => by have h1 := HQ.out.lt b hb; have h2 : b ≠ bq := fun e => HQ.out.nq (e ▸ hb); simp [h2]; omega)
  have hvs := HQ.out.vs.fr hft hRb (fun _ => by simp [encVt])
  have hpr := HP.out.fr hft hRb
  have hnga : x.aA = some ⟨x.ga, 0, none⟩ → x.ga ∉ [bq, x.gr, w.heap.size] ∧ x.ga < w.heap.size := fun e => by
    have h1 := HQ.out.nga (by rw [e]; simp)
    have h2 := h1.2.2.2 (by rw [HCE.out.1]; omega)
    refine ⟨?_, h1.2.2.1⟩
    have h3 := h1.2.2.1
    simp [h1.1, h2]; omega
  have hack := HQ.out.ack.imp id fun h => And.intro h.1 (And.intro (there_fr9 h.2.1 hft (hnga h.1).1) fun j hj => (hft.cell (p := ⟨x.ga, j, none⟩) (hnga h.1).2 (hnga h.1).1).trans (h.2.2 j hj))
  obtain ⟨hc1, hc2, hc3⟩ := HCE.out
  subst hc1 hc2 hc3
  refine bodyPost_cell rfl rfl (setRow_heap _ _ _ _ _ _ g0) undPr rfl infPr rfl ⟨⟨h, rfl, hpr, ?_⟩, ⟨hft.os, hft.tape, hft.output, hft.size, fun g hg hn => hft.block g hg (by simp at hn ⊢; exact ⟨hn.1, hn.2, by omega⟩)⟩⟩
  refine ⟨?_, hring, hvs, hack, HQ.out.acl, fun b hb => Nat.lt_of_lt_of_le (HQ.out.lt b hb) hft.size, HQ.out.nq, fun hc => ⟨hngr.1, hngr.2.1, Nat.lt_of_lt_of_le hngr.2.2 hft.size⟩, fun hn => ⟨(HQ.out.nga hn).1, (HQ.out.nga hn).2.1, Nat.lt_of_lt_of_le (HQ.out.nga hn).2.2.1 hft.size, (HQ.out.nga hn).2.2.2⟩⟩
  refine hbx.trans ?_
  show some (Obj.cells #[.slice (some ⟨x.gr, 0, none⟩) x.cap x.cap, _, _, _, _, _, _, _] _ _) = some (Obj.cells #[.slice x.A x.cap x.cap, _, _, _, _, _, _, _] _ _)
  rw [hA]
  rfl
end Go.Proofs.YtbpmmmnphpkdjaaGreatDoor
namespace Go.Proofs.YtbpmmmnphpkdjaaGreatDoor
open Go.RowKit Go.MapKept Go.Maps
theorem PrAt.more {w : World} {R R' : Nat → Prop} {h : PrH} {t : PrT} (H : PrAt w R h t) (hR : ∀ b, R b → R' b) : PrAt w R' h t := H.fr (Fr.refl [] w) (fun b _ hb => ⟨by simp, hR b hb⟩)
theorem RingAt.more {w : World} {A : Option Addr} {gr cap first : Nat} {R R' : Nat → Prop} {L : List PrT} (H : RingAt w A gr cap first R L) (hR : ∀ b, R b → R' b) : RingAt w A gr cap first R' L :=
  ⟨H.le, H.fst, H.at_, H.th, fun j hj => by obtain ⟨h, h1, h2⟩ := H.el j hj; exact ⟨h, h1, h2.more hR⟩⟩
theorem ring_ne2 {first cap i j : Nat} (hf : first < cap) (hi : i < cap) (hj : j < cap) (hn : i ≠ j) : (first + i) % cap ≠ (first + j) % cap := by
  intro e
  have m1 : (first + i) % cap = if first + i < cap then first + i else first + i - cap := by
    split
    · exact Nat.mod_eq_of_lt (by assumption)
    · rw [Nat.mod_eq_sub_mod (by omega), Nat.mod_eq_of_lt (by omega)]
  have m2 : (first + j) % cap = if first + j < cap then first + j else first + j - cap := by
    split
    · exact Nat.mod_eq_of_lt (by assumption)
    · rw [Nat.mod_eq_sub_mod (by omega), Nat.mod_eq_of_lt (by omega)]
  rw [m1, m2] at e
  split at e <;> split at e <;> omega
theorem getBang_snoc {α : Type} [Inhabited α] (l : List α) (x : α) (j : Nat) (h : j < l.length) : (l ++ [x])[j]! = l[j]! := by
  rw [getElem!_pos (l ++ [x]) j (by simp; omega), getElem!_pos l j h, List.getElem_append_left h]
theorem getBang_last {α : Type} [Inhabited α] (l : List α) (x : α) : (l ++ [x])[l.length]! = x := by
  rw [getElem!_pos (l ++ [x]) l.length (by simp)]; simp
/-- one more at the end of a ring with room -/
theorem RingAt.put {w : World} {A : Option Addr} {gr cap first : Nat} {R : Nat → Prop} {L : List PrT} (H : RingAt w A gr cap first R L) (hl : L.length < cap) (h : PrH) (p : PrT) (hp : PrAt w R h p) (hR : ¬ R gr) :
    RingAt (w.setCells gr (((first + L.length) % cap) * 45) (encPr h)) A gr cap first R (L ++ [p]) := by
  have hf : first < cap := by rcases H.fst with h | h <;> omega
  have hth : w.there gr 0 (cap * 45) := by
    rcases H.th with h | h
    · exact h
    · omega
  have hfr := fr_setCells w gr (((first + L.length) % cap) * 45) (encPr h)
  have hk : ∀ b, b < w.heap.size → R b → b ∉ [gr] ∧ R b := fun b _ hb => ⟨by simp; exact fun e => hR (e ▸ hb), hb⟩
  refine ⟨by simp; omega, H.fst, H.at_, .inl (World.there_setCells hth _ _ _), fun j hj => ?_⟩
  by_cases hjl : j < L.length
  · obtain ⟨g, hr, hg⟩ := H.el j hjl
    rw [getBang_snoc _ _ _ hjl]
    refine ⟨g, ?_, hg.fr hfr hk⟩
    refine World.rangeAt_setCells_apart hr _ _ _ (.inr ?_)
    rw [lenPr, lenPr]
    exact row_apart (ring_ne2 hf (by omega) hl (by omega))
  · have hj' : j < L.length + 1 := by simpa using hj
    obtain rfl : j = L.length := by omega
    rw [getBang_last]
    refine ⟨h, World.rangeAt_setCells_same _ _ _ _ ?_, hp.fr hfr hk⟩
    rw [lenPr]
    intro i hi
    have hm : (first + L.length) % cap < cap := Nat.mod_lt _ (by omega)
    have h1 := Nat.mul_le_mul_right 45 (show (first + L.length) % cap + 1 ≤ cap by omega)
    have := hth (((first + L.length) % cap) * 45 + i) (by omega)
    rwa [Nat.zero_add] at this
/-- the headers of a ring -/
theorem RingAt.heads {w : World} {A : Option Addr} {gr cap first : Nat} {R : Nat → Prop} {L : List PrT} (H : RingAt w A gr cap first R L) :
    ∃ hs : Nat → PrH, ∀ j, j < L.length → w.rangeAt gr (((first + j) % cap) * 45) (encPr (hs j)) ∧ PrAt w R (hs j) L[j]! := by
  have h : ∀ j, ∃ h : PrH, j < L.length → w.rangeAt gr (((first + j) % cap) * 45) (encPr h) ∧ PrAt w R h L[j]! := fun j => by
    by_cases hj : j < L.length
    · obtain ⟨h, h1⟩ := H.el j hj; exact ⟨h, fun _ => h1⟩
    · exact ⟨default, fun h => absurd h hj⟩
  exact ⟨fun j => Classical.choose (h j), fun j hj => Classical.choose_spec (h j) hj⟩
/-- a queue in a world in which nothing of it has turned -/
theorem QuAt.fr {w w' : World} {bq : Nat} {x : QuX} {R : Nat → Prop} {st : QuT} {own : List Nat} (h : QuAt w bq x R st) (hf : Fr own w w') (hq : bq ∉ own) (hgr : 0 < x.cap → x.gr ∉ own) (hga : x.aA ≠ none → x.ga ∉ own) (hR : ∀ b, R b → b ∉ own) : QuAt w' bq x R st := by
  refine ⟨(hf.block bq (Array.getElem?_eq_some_iff.1 h.box).1 hq).trans h.box, h.ring.fr hf hgr hR, h.vs.fr hf (fun b _ hb => ⟨hR b hb, hb⟩) (fun _ => by simp [encVt]), ?_, h.acl, fun b hb => Nat.lt_of_lt_of_le (h.lt b hb) hf.size, h.nq, fun hc => ⟨(h.ngr hc).1, (h.ngr hc).2.1, Nat.lt_of_lt_of_le (h.ngr hc).2.2 hf.size⟩, fun hn => ⟨(h.nga hn).1, (h.nga hn).2.1, Nat.lt_of_lt_of_le (h.nga hn).2.2.1 hf.size, (h.nga hn).2.2.2⟩⟩
  refine h.ack.imp id fun k => ?_
  have hn : x.aA ≠ none := by rw [k.1]; simp
  exact ⟨k.1, there_fr9 k.2.1 hf (hga hn), fun j hj => (hf.cell (p := ⟨x.ga, j, none⟩) (h.nga hn).2.2.1 (hga hn)).trans (k.2.2 j hj)⟩
theorem QuAt.below {w w' : World} {bq : Nat} {x : QuX} {R : Nat → Prop} {st : QuT} (h : QuAt w bq x R st) (hb : Below w.heap.size w w') : QuAt w' bq x R st := h.fr (Fr.of_below (own := []) hb) (by simp) (by simp) (by simp) (by simp)
/-- a queue behind the store of one more -/
theorem QuAt.pushed {wc V : World} {bq : Nat} {x : QuX} {R : Nat → Prop} {st : QuT} {h : PrH} {p : PrT} (H : QuAt wc bq x R st) (hF : Fr [bq] wc V)
    (hb : V.heap[bq]? = some (.cells #[.slice x.A x.cap x.cap, .int .i64 x.first, .int .i64 ((st.L.length : Int) + 1), .int .i64 st.bound, slV x.vh, .slice x.aA st.acked.length x.ac, .int .i64 st.last, .int .i64 st.committed] 135 (0, 0)))
    (hroom : st.L.length < x.cap) (hp : PrAt wc R h p) : QuAt (V.setCells x.gr (((x.first + st.L.length) % x.cap) * 45) (encPr h)) bq x R { st with L := st.L ++ [p] } := by
  have hng := H.ngr (by omega)
  have hlt := (Array.getElem?_eq_some_iff.1 H.box).1
  have hRb : ∀ b, R b → b ∉ [bq] := fun b hb => by simp; exact fun e => H.nq (e ▸ hb)
  have hF2 := fr_setCells V x.gr (((x.first + st.L.length) % x.cap) * 45) (encPr h)
  have hRb2 : ∀ b, R b → b ∉ [x.gr] := fun b hb => by simp; exact fun e => hng.2.1 (e ▸ hb)
  have hring := (H.ring.fr hF (fun _ => by simpa using hng.1) hRb).put hroom h p (hp.fr hF (fun b _ hb => ⟨hRb b hb, hb⟩)) hng.2.1
  have hF3 : Fr [bq, x.gr] wc (V.setCells x.gr (((x.first + st.L.length) % x.cap) * 45) (encPr h)) := (Fr.trans ⟨hF.os, hF.tape, hF.output, hF.size, fun g hg hn => hF.block g hg (by simp at hn ⊢; exact hn.1)⟩ hF2 (fun g hg => .inl (by simp at hg; simp [hg])))
  refine ⟨?_, hring, H.vs.fr hF3 (fun b _ hb => ⟨by have h1 := hRb b hb; have h2 := hRb2 b hb; simp at h1 h2; simp [h1, h2], hb⟩) (fun _ => by simp [encVt]), ?_, H.acl, fun b hb => Nat.lt_of_lt_of_le (H.lt b hb) hF3.size, H.nq, fun hc => ⟨hng.1, hng.2.1, Nat.lt_of_lt_of_le hng.2.2 hF3.size⟩, fun hn => ⟨(H.nga hn).1, (H.nga hn).2.1, Nat.lt_of_lt_of_le (H.nga hn).2.2.1 hF3.size, (H.nga hn).2.2.2⟩⟩
  · rw [hF2.block bq (Nat.lt_of_lt_of_le hlt hF.size) (by simpa using fun e => hng.1 e.symm), hb]
    simp
  · refine H.ack.imp id fun k => ?_
    have hn : x.aA ≠ none := by rw [k.1]; simp
    have hga := H.nga hn
    have hg2 := hga.2.2.2 (by omega)
    have hno : x.ga ∉ [bq, x.gr] := by simp [hga.1, hg2]
    exact ⟨k.1, there_fr9 k.2.1 hF3 hno, fun j hj => (hF3.cell (p := ⟨x.ga, j, none⟩) hga.2.2.1 hno).trans (k.2.2 j hj)⟩
def QuX.ring (x : QuX) (A : Option Addr) (gr cap first : Nat) : QuX := { x with A := A, gr := gr, cap := cap, first := first }
/-- a queue whose ring was copied into another array -/
theorem QuAt.moved {wr : World} {bq : Nat} {x : QuX} {R : Nat → Prop} {st : QuT} (H : QuAt wr bq x R st) {g m : Nat} {hs : Nat → PrH} (hrow : ∀ j, j < st.L.length → wr.rangeAt g (j * 45) (encPr (hs j)) ∧ PrAt wr R (hs j) st.L[j]!) (hth : wr.there g 0 (m * 45)) (hm : st.L.length < m)
    (hg : g ≠ bq ∧ ¬ R g ∧ g < wr.heap.size) (hga : x.aA ≠ none → x.ga ≠ g) : QuAt ((wr.setCell ⟨bq, 0, none⟩ (.slice (some ⟨g, 0, none⟩) m m)).setCell ⟨bq, 1, none⟩ (.int .i64 0)) bq (x.ring (some ⟨g, 0, none⟩) g m 0) R st := by
  have hF : Fr [bq] wr ((wr.setCell ⟨bq, 0, none⟩ (.slice (some ⟨g, 0, none⟩) m m)).setCell ⟨bq, 1, none⟩ (.int .i64 0)) := ((Fr.refl _ wr).set (by simp) 0 _).set (by simp) 1 _
  have hRb : ∀ b, R b → b ∉ [bq] := fun b hb => by simp; exact fun e => H.nq (e ▸ hb)
  refine ⟨?_, ⟨by show st.L.length ≤ m; omega, .inl (by show 0 < m; omega), .inr ⟨by show 0 < m; omega, rfl⟩, .inl (there_fr9 hth hF (fun e => hg.1 (List.mem_singleton.1 e))), fun j hj => ?_⟩, H.vs.fr hF (fun b _ hb => ⟨hRb b hb, hb⟩) (fun _ => by simp [encVt]), ?_, H.acl, fun b hb => Nat.lt_of_lt_of_le (H.lt b hb) hF.size, H.nq, fun _ => ⟨hg.1, hg.2.1, Nat.lt_of_lt_of_le hg.2.2 hF.size⟩, fun hn => ⟨(H.nga hn).1, (H.nga hn).2.1, Nat.lt_of_lt_of_le (H.nga hn).2.2.1 hF.size, fun _ => hga hn⟩⟩
  · exact (heap_setN (heap_setN H.box _) _).trans (by simp [QuX.ring])
  · obtain ⟨h1, h2⟩ := hrow j hj
    refine ⟨hs j, ?_, h2.fr hF (fun b _ hb => ⟨hRb b hb, hb⟩)⟩
    show World.rangeAt _ g (((0 + j) % m) * 45) _
    rw [Nat.zero_add, Nat.mod_eq_of_lt (by omega)]
    intro i u hu
    have h3 := h1 i u hu
    rw [hF.cell (p := ⟨g, _ + i, none⟩) (World.block_lt_of_cell? _ _ h3) (by simpa using hg.1)]
    exact h3
  · refine H.ack.imp id fun k => ?_
    have hn : x.aA ≠ none := by rw [k.1]; simp
    have hno : x.ga ∉ [bq] := by simp [(H.nga hn).1]
    exact ⟨k.1, there_fr9 k.2.1 hF hno, fun j hj => (hF.cell (p := ⟨x.ga, j, none⟩) (H.nga hn).2.2.1 hno).trans (k.2.2 j hj)⟩
/-- what a call leaves: the queue's own three blocks alone are written; what it holds besides is new -/
structure QuNx (bq : Nat) (x : QuX) (R : Nat → Prop) (st' : QuT) (w w' : World) (x' : QuX) (R' : Nat → Prop) : Prop where
  at_ : QuAt w' bq x' R' st'
  ga : x'.ga = x.ga ∧ x'.aA = x.aA
  gr : x'.gr = x.gr ∨ w.heap.size ≤ x'.gr
  new : ∀ b, R' b → R b ∨ w.heap.size ≤ b
  old : ∀ b, R b → R' b
def QuPo (bq : Nat) (x : QuX) (R : Nat → Prop) (st' : QuT) (w w' : World) : Prop := (∃ x' R', QuNx bq x R st' w w' x' R' ∧ x'.cap ≤ 8192) ∧ Fr [bq, x.gr, x.ga] w w'
end Go.Proofs.YtbpmmmnphpkdjaaGreatDoor
namespace Go.Proofs.YtbpmmmnphpkdjaaGreatDoor
open Go.RowKit Go.MapKept Go.Maps
def RetV (v : Value) (w : World) (e : Ending) (w' : World) : Prop := e = .returned v ∧ ∃ q, w' = w.drewN q
theorem RetV.mk {v u : Value} {w w' : World} (h : v = u) (q : Nat) (hw : w' = w.drewN q) : RetV u w (.returned v) w' := ⟨by rw [h], q, hw⟩
set_option maxRecDepth 100000 in
theorem queLen_any (bq : Nat) (x : QuX) (R : Nat → Prop) (st : QuT) (w : World) (hq : QuAt w bq x R st) : Calls Tryz.prog 26 #[.pointer (some ⟨bq, 0, none⟩)] w (RetV (.int .i64 st.L.length) w) := by
  have c2 : w.cell? ⟨bq, 2, none⟩ = some (.int .i64 st.L.length) := by rw [cellH hq.box]; rfl
  generalize st.L.length = n at *
  clear hq
  go_enter Tryz.func26, Tryz.ntmps26
  go_wp2_with fail
  go_ret
  exact RetV.mk rfl 0 rfl
set_option maxRecDepth 100000 in
theorem queLast_any (bq : Nat) (x : QuX) (R : Nat → Prop) (st : QuT) (w : World) (hq : QuAt w bq x R st) : Calls Tryz.prog 28 #[.pointer (some ⟨bq, 0, none⟩)] w (RetV (.int .i64 st.last) w) := by
  have c2 : w.cell? ⟨bq, 6, none⟩ = some (.int .i64 st.last) := by rw [cellH hq.box]; rfl
  generalize st.last = n at *
  clear hq
  go_enter Tryz.func28, Tryz.ntmps28
  go_wp2_with fail
  go_ret
  exact RetV.mk rfl 0 rfl
set_option maxRecDepth 100000 in
theorem queCommitted_any (bq : Nat) (x : QuX) (R : Nat → Prop) (st : QuT) (w : World) (hq : QuAt w bq x R st) : Calls Tryz.prog 33 #[.pointer (some ⟨bq, 0, none⟩)] w (RetV (.int .i64 st.committed) w) := by
  have c2 : w.cell? ⟨bq, 7, none⟩ = some (.int .i64 st.committed) := by rw [cellH hq.box]; rfl
  generalize st.committed = n at *
  clear hq
  go_enter Tryz.func33, Tryz.ntmps33
  go_wp2_with fail
  go_ret
  exact RetV.mk rfl 0 rfl
set_option maxRecDepth 100000 in
theorem queFull_any (bq : Nat) (x : QuX) (R : Nat → Prop) (st : QuT) (w : World) (hq : QuAt w bq x R st) : Calls Tryz.prog 34 #[.pointer (some ⟨bq, 0, none⟩)] w (RetV (.bool (decide (st.bound ≤ st.L.length))) w) := by
  have c2 : w.cell? ⟨bq, 2, none⟩ = some (.int .i64 st.L.length) := by rw [cellH hq.box]; rfl
  have c3 : w.cell? ⟨bq, 3, none⟩ = some (.int .i64 st.bound) := by rw [cellH hq.box]; rfl
  generalize st.L.length = n at *
  generalize st.bound = b at *
  clear hq
  go_enter Tryz.func34, Tryz.ntmps34
  go_wp2_with fail
  go_region
  all_goals go_wp2_with fail
  all_goals go_ret
  all_goals exact RetV.mk rfl 1 rfl
end Go.Proofs.YtbpmmmnphpkdjaaGreatDoor
