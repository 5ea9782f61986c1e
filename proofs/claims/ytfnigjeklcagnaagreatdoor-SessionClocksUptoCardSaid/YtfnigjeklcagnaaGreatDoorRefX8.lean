/- The walk of the document's clock's Expired. Condition: fewer than 2^20 are known. -/
import Derived.Test.YtfnigjeklcagnaaGreatDoorRefD
import Derived.Test.YtfnigjeklcagnaaGreatDoorClkE
namespace Go.Proofs.YtfnigjeklcagnaaGreatDoor
open Go.RowKit Go.MapKept Go.Maps
def encZe (z : Int) : List Value := [.int .i64 z]
theorem elemZ : Elem encZe 33 2 1 8 (.int .i64 0) where
  under := Tryz.underlying33
  info := by kernel_rfl
  size := rfl
  len := fun _ => rfl
  pos := by decide
  one := fun x u hu => by
    simp [encZe] at hu
    subst hu; rfl
  small := by decide
theorem flatZ : ∀ l : List Int, l.flatMap encZe = l.map encZ
  | [] => rfl
  | a :: l => by rw [List.flatMap_cons, List.map_cons, flatZ l]; rfl
theorem RefC.belowB {w w' : World} {tick : Int} {L : List KV} {rb B : Nat} {ro : List Nat} (h : RefC w tick L rb ro) (hb : Below B w w') (hro : ∀ g ∈ ro, g < B) : RefC w' tick L rb ro := by
  obtain ⟨h1, h2, h3, A, c, h4, h5⟩ := h
  exact ⟨h1, fun g hg => Nat.lt_of_lt_of_le (h2 g hg) hb.size, h3, A, c, (hb.block rb (hro rb h1)).trans h4, h5.keep fun p hp _ _ => hb.cell (hro _ hp)⟩
theorem RefC.tail {w : World} {tick : Int} {L : List KV} {rb n c : Nat} {ro : List Nat} {A : Option Addr} (h : RefC w tick L rb ro) (hv : KnS w rb ro A n c (L.drop 1)) (hn : n = (L.drop 1).length) : RefC (w.setCell ⟨rb, 1, none⟩ (.slice A n c)) tick (L.drop 1) rb ro := by
  obtain ⟨h1, h2, h3, A0, c0, h4, h5⟩ := h
  have hF : Fr [rb] w (w.setCell ⟨rb, 1, none⟩ (.slice A n c)) := fr_set w rb 1 _
  subst hn
  refine ⟨h1, fun g hg => Nat.lt_of_lt_of_le (h2 g hg) hF.size, fun y hy => h3 y (List.mem_of_mem_drop hy), A, c, heap_set2 h4 _, hv.keep fun p hp hne hlt => ?_⟩
  have := heap_set_other w rb 1 (.slice A (L.drop 1).length c) hne
  obtain ⟨b, o, s⟩ := p
  simp only [World.cell?] at this ⊢
  rw [this]
theorem Fr.belowB {own : List Nat} {w wr w' : World} (h : Fr own w wr) (hb : Below w.heap.size wr w') : Fr own w w' :=
  ⟨hb.os.trans h.os, hb.tape.trans h.tape, hb.output.trans h.output, Nat.le_trans h.size hb.size, fun g hg hn => (hb.block g hg).trans (h.block g hg hn)⟩
def lenV : Value → Nat | .slice _ n _ => n | _ => 0
def RxR (tick : Int) (L : List KV) (rb : Nat) (ro : List Nat) (now : Int) (w : World) (v : Value) (wr : World) : Prop := ∃ (k : Nat) (A : Option Addr) (c : Nat), v = .slice A k c ∧ k ≤ L.length ∧ (∀ j, j < k → L[j]!.2 ≤ now) ∧
  wr.ownsRow w.heap.size 2 1 (.slice A k c) k (((L.take k).map (·.1)).flatMap encZe) ∧ RefC wr tick (L.drop k) rb ro ∧ Fr [rb] w wr
def RxPost (tick : Int) (L : List KV) (rb : Nat) (ro : List Nat) (now : Int) (w : World) (e : Ending) (w' : World) : Prop := ∃ (k : Nat) (v : Value), e = .returned v ∧ k ≤ L.length ∧ (∀ j, j < k → L[j]!.2 ≤ now) ∧ (k = L.length ∨ (k < L.length ∧ now < L[k]!.2)) ∧ RowI w' w.heap.size v ((L.take k).map (·.1)) ∧ RefC w' tick (L.drop k) rb ro ∧ Fr [rb] w w'
set_option maxRecDepth 100000 in
set_option maxHeartbeats 4000000 in
theorem refExpired_any (tick : Int) (L : List KV) (rb : Nat) (ro : List Nat) (now : Int) (w : World) (h : RefC w tick L rb ro) (hL : L.length ≤ 1048576) :
    Calls Tryz.prog 20 #[.pointer (some ⟨rb, 0, none⟩), .int .i64 now] w (RxPost tick L rb ro now w) := by
  have H := Lib.hid h; have HL := Lib.hid hL
  have HRO := Lib.hid h.lt
  clear h hL
  go_enter Tryz.func20, Tryz.ntmps20
  go_wp2_with fail
  go_loopw [5] (fun v wr => RxR tick L rb ro now w v wr) (fun v _ => L.length - lenV v)
  case atStart => exact ⟨0, none, 0, rfl, Nat.zero_le _, fun j hj => absurd hj (by omega), by simpa using World.ownsRow_nil w w.heap.size 2 1, H.out, Fr.refl _ _⟩
  case round =>
    obtain ⟨k, A, c, rfl, hk, hlow, hrow, hC, hF⟩ := hrel
    have HLOW := Lib.hid hlow; have HROW := Lib.hid hrow; have HF := Lib.hid hF
    obtain ⟨M, hM⟩ : ∃ M, M = L.drop k := ⟨_, rfl⟩
    rw [← hM] at hC
    have HC := Lib.hid hC
    have hml : M.length = L.length - k := by rw [hM]; exact List.length_drop ..
    clear hlow hrow hC hF
    obtain ⟨A5, c5, _, m1, hK⟩ := HC.out.cells
    by_cases hkn : k < L.length
    · have hM0 : M[0]! = L[k]! := by rw [hM, getElem!_pos _ 0 (by rw [← hM]; omega), getElem!_pos L k hkn, List.getElem_drop]; rfl
      have HD := Lib.hid (show M.drop 1 = L.drop (k + 1) by rw [hM, List.drop_drop])
      have HTK := Lib.hid (show (L.take (k + 1)).map (·.1) = (L.take k).map (·.1) ++ [L[k]!.1] by rw [List.take_succ_eq_append_getElem hkn, List.map_append, getElem!_pos L k hkn]; rfl)
      obtain ⟨b5, off5, hA5, hcap, x0, x1⟩ := hK.at_ (k := 0) (by omega)
      rw [hM0, Nat.zero_mul, Nat.add_zero] at x0 x1
      subst hA5
      have HK := Lib.hid hK
      have HML := Lib.hid hml; have HM := Lib.hid hM
      have hpos : (0 : Int) < (M.length : Int) := by omega
      have hm1 : 1 ≤ M.length := by omega
      clear hM0 hK hM hml
      by_cases hnow : L[k]!.2 ≤ now
      · have HLOW1 := Lib.hid (show ∀ j, j < k + 1 → L[j]!.2 ≤ now from fun j hj => by rcases Nat.lt_succ_iff_lt_or_eq.1 hj with h | rfl; exact HLOW.out j h; exact hnow)
        have hS3 := HK.out.from (k := 1) hm1
        have hsl := slice_from (some (Addr.mk b5 off5 none)) M.length c5 1 hm1
        generalize (if c5 = 1 then some (Addr.mk b5 off5 none) else (some (Addr.mk b5 off5 none)).map (·.add (1 * 2))) = A3 at hS3 hsl
        generalize hn3 : M.length - 1 = n3 at hS3 hsl
        generalize c5 - 1 = c3 at hS3 hsl
        rw [show ((1 : Nat) : Int) = 1 from rfl] at hsl
        have HS3 := Lib.hid hS3; have HN3 := Lib.hid hn3
        generalize L[k]!.2 = x2 at *
        generalize L[k]!.1 = x3 at *
        have hb1a : Below wr.heap.size wr (wr.alloc (.cells #[.int .i64 x3] 2)) := (Below.refl _ wr).alloc (Nat.le_refl _) _
        have HS2 := Lib.hid (show Sl (wr.alloc (.cells #[.int .i64 x3] 2)) (wr.alloc (.cells #[.int .i64 x3] 2)).heap.size encZe 1 (some ⟨wr.heap.size, 0, none⟩) 1 [x3] from
          ⟨rfl, fun _ => ⟨wr.heap.size, 0, rfl, by simp, fun j hj i u hu => by
            have hj0 : j = 0 := by omega
            subst hj0
            match i, hu with
            | 0, hu => rw [cellH (heap_alloc_new wr (.cells #[.int .i64 x3] 2))]; exact hu⟩⟩)
        have HV := Lib.hid (own_later HROW.out hb1a)
        have HSZ := Lib.hid HF.out.size
        have hLL := HL.out
        have hkl : k ≤ L.length := hk
        have hbz : w.heap.size ≤ (wr.alloc (.cells #[.int .i64 x3] 2)).heap.size := Nat.le_trans HSZ.out hb1a.size
        have HBZ := Lib.hid hbz; have HB1 := Lib.hid (hb1a.mono HSZ.out)
        clear hS3 hb1a hbz hn3
        go_wp2_with (at_builtin; refine wpList_appG elemZ rfl _ _ rfl w.heap.size A k c ((L.take k).map (·.1)) ?hx HV.out (some ⟨wr.heap.size, 0, none⟩) 1 1 [x3] ?hy HS2.out (fun e => by cases e) (by omega) HBZ.out ?hk)
        (try case hx => rfl)
        (try case hy => rfl)
        case hk =>
          intro A6 c6 w6 hv6 hb6
          have hB6 := HB1.out.trans hb6
          have hC6 := HC.out.belowB hB6 HRO.out
          have hK6 : KnS w6 rb ro A3 n3 c3 (M.drop 1) := HS3.out.keep fun p hp _ _ => hB6.cell (HRO.out _ hp)
          have HZ := Lib.hid (hC6.tail hK6 (by rw [List.length_drop]; exact HN3.out.symm))
          have m6 : w6.cell? ⟨rb, 1, none⟩ = some (.slice (some ⟨b5, off5, none⟩) M.length c5) := (hB6.cell (p := ⟨rb, 1, none⟩) (HRO.out rb HC.out.1)).trans m1
          have fz := hC6.frozen
          have hv6' : w6.ownsRow w.heap.size 2 1 (.slice A6 (k + 1) c6) (k + 1) (((L.take (k + 1)).map (·.1)).flatMap encZe) := by rw [HTK.out, List.flatMap_append]; simpa using hv6
          have HF6 := Lib.hid (HF.out.belowB hB6)
          have HV6 := Lib.hid (own_fr hv6' (fr_set w6 rb 1 (.slice A3 n3 c3)) (fun g hg => by rw [List.mem_singleton.1 hg]; exact HRO.out rb HC.out.1))
          clear hv6 hv6' hb6 hB6 hC6 hK6
          go_wp2_with fail
          go_roundw
          case rel => exact ⟨k + 1, A6, c6, rfl, by omega, HLOW1.out, HV6.out, by rw [← HD.out]; exact HZ.out, HF6.out.trans (fr_set w6 rb 1 _) (fun g hg => .inl hg)⟩
          case measure => simp only [lenV]; omega
      · have HE := Lib.hid (show k = L.length ∨ (k < L.length ∧ now < L[k]!.2) from .inr ⟨hkn, by omega⟩)
        obtain ⟨x2, hx2⟩ : ∃ x2, L[k]!.2 = x2 := ⟨_, rfl⟩
        rw [hx2] at x1 hnow
        clear hx2 x0
        go_wp2_with fail
        go_ret
        exact ⟨k, _, rfl, hk, HLOW.out, HE.out, by unfold RowI; rw [← flatZ]; simpa [Nat.min_eq_left hk] using HROW.out, by rw [← HM.out]; exact HC.out, HF.out⟩
    · have HE := Lib.hid (show k = L.length ∨ (k < L.length ∧ now < L[k]!.2) from .inl (by omega))
      have hm0 : M.length = 0 := by omega
      rw [hm0] at m1
      have HM := Lib.hid hM
      clear hK hml hM hm0
      go_wp2_with fail
      go_ret
      exact ⟨k, _, rfl, hk, HLOW.out, HE.out, by unfold RowI; rw [← flatZ]; simpa [Nat.min_eq_left hk] using HROW.out, by rw [← HM.out]; exact HC.out, HF.out⟩
end Go.Proofs.YtfnigjeklcagnaaGreatDoor
