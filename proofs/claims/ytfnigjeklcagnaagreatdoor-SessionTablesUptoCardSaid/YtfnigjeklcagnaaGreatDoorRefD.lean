/- The walks of the document's clock: Drop, Touch, Expired. Condition: fewer than 2^21 are known. -/
import Derived.Test.YtfnigjeklcagnaaGreatDoorRefC
namespace Go.Proofs.YtfnigjeklcagnaaGreatDoor
open Go.RowKit Go.MapKept Go.Maps
theorem keep1 {w w' : World} {a : Addr} {v : Value} (h : w.cell? a = some v) (hb : Below w.heap.size w w') : w'.cell? a = some v := (hb.cell (World.block_lt_of_cell? w _ h)).trans h
theorem heap_set2 {w : World} {b : Nat} {x y : Value} {T : TypeId} (h : w.heap[b]? = some (.cells #[x, y] T (0, 0))) (v : Value) : (w.setCell ⟨b, 1, none⟩ v).heap[b]? = some (.cells #[x, v] T (0, 0)) := by
  unfold World.setCell
  rw [Array.getElem?_modify, if_pos rfl, h]
  rfl
theorem heap_set_other (w : World) (b o : Nat) (v : Value) {g : Nat} (h : g ≠ b) : (w.setCell ⟨b, o, none⟩ v).heap[g]? = w.heap[g]? := Below.heap_setCell w ⟨b, o, none⟩ v g h
theorem fr_set (w : World) (b o : Nat) (v : Value) : Fr [b] w (w.setCell ⟨b, o, none⟩ v) := ⟨rfl, rfl, rfl, by simp [World.setCell], fun g _ hn => heap_set_other w b o v (by simpa using hn)⟩
theorem KnS.cap {w : World} {rb n c : Nat} {ro : List Nat} {A : Option Addr} {L : List KV} (h : KnS w rb ro A n c L) : n ≤ c := by
  rcases h.2 with ⟨_, e, _⟩ | ⟨_, _, _, _, _, h, _⟩
  · omega
  · exact h
theorem sl_kn {w : World} {g : Nat} {i s : Int} {T : TypeId} {f : Nat × Nat} (h : w.heap[g]? = some (.cells #[.int .i64 i, .int .i64 s] T f)) : Sl w w.heap.size encKn 2 (some ⟨g, 0, none⟩) 1 [(i, s)] :=
  ⟨rfl, fun _ => ⟨g, 0, rfl, (Array.getElem?_eq_some_iff.1 h).1, fun j hj k u hu => by
    have hj0 : j = 0 := by omega
    subst hj0
    rw [cellH h]
    match k, hu with
    | 0, hu => exact hu
    | 1, hu => exact hu⟩⟩
theorem slice_from (A : Option Addr) (n c k : Nat) (hk : k ≤ n) (w : World) : (Instr.sliceAt 46 (.slice A n c) (some (.int .i64 ↑k)) none none).run Tryz.prog w = .ok (.slice (if c = k then A else A.map (·.add (k * 2))) (n - k) (c - k)) w := by
  have h0 : (0 : Int) ≤ ↑k := by omega
  have h1 : ((k : Nat) : Int) ≤ ↑n := by omega
  go_simp
theorem elemKn : Elem encKn 46 92 2 16 (.agg #[.int .i64 0, .int .i64 0]) where
  under := Tryz.underlying46
  info := by kernel_rfl
  size := rfl
  len := fun _ => rfl
  pos := by decide
  one := fun x u hu => by
    simp [encKn] at hu
    rcases hu with rfl | rfl <;> rfl
  small := by decide
theorem KnS.of_own {w : World} {base rb n c : Nat} {A : Option Addr} {L : List KV} (h : w.ownsRow base 92 2 (.slice A n c) n (L.flatMap encKn)) (hl : L.length = n) (hb : rb < base) : ∃ ro : List Nat, KnS w rb ro A n c L ∧ (∀ g ∈ ro, base ≤ g ∧ g < w.heap.size) := by
  rcases h.2 with ⟨e, e2⟩ | ⟨g, cap, cur, e, h1, h2, h3, _⟩
  · injection e with e e3 e4
    exact ⟨[], ⟨hl, .inl ⟨e, e2, e4⟩⟩, by simp⟩
  · injection e with e e3 e4
    subst e e4
    refine ⟨[g], ⟨hl, .inr ⟨g, 0, rfl, by simp, by omega, h3, fun j hj => ?_⟩⟩, fun x hx => by
      rw [List.mem_singleton.1 hx]; exact ⟨h1, (Array.getElem?_eq_some_iff.1 h2).1⟩⟩
    have hs := (Sl.of_own (zs := L) (k := 2) (fun _ => rfl) h hl).cells hj
    obtain ⟨b, off, e, _, hc⟩ := hs
    injection e with e
    injection e with e5 e6
    subst e5 e6
    exact ⟨hc 0 _ rfl, hc 1 _ rfl⟩
theorem RefC.set {w w2 : World} {tick : Int} {L L' : List KV} {rb n c : Nat} {ro : List Nat} {A : Option Addr} (h : RefC w tick L rb ro) (hb : Below w.heap.size w w2) (hv : w2.ownsRow w.heap.size 92 2 (.slice A n c) n (L'.flatMap encKn)) (hl : L'.length = n) (hwf : ∀ y ∈ L', wfI y.1 ∧ wfI y.2) :
    (∃ ro', RefC (w2.setCell ⟨rb, 1, none⟩ (.slice A n c)) tick L' rb ro' ∧ ∀ g ∈ ro', g ∈ ro ∨ w.heap.size ≤ g) ∧ Fr [rb] w (w2.setCell ⟨rb, 1, none⟩ (.slice A n c)) := by
  obtain ⟨h1, h2, _, A0, c0, h4, _⟩ := h
  have h5 := (hb.block rb (h2 rb h1)).trans h4
  have hF : Fr [rb] w2 (w2.setCell ⟨rb, 1, none⟩ (.slice A n c)) := fr_set w2 rb 1 _
  refine ⟨?_, (Fr.of_below hb).trans hF (fun g hg => .inl hg)⟩
  obtain ⟨ro', k1, k2⟩ := KnS.of_own hv hl (h2 rb h1)
  refine ⟨rb :: ro', ⟨by simp, fun g hg => ?_, hwf, A, c, ?_, ?_⟩, fun g hg => ?_⟩
  · rcases List.mem_cons.1 hg with rfl | hg
    · exact Nat.lt_of_lt_of_le (Nat.lt_of_lt_of_le (h2 _ h1) hb.size) hF.size
    · exact Nat.lt_of_lt_of_le (k2 g hg).2 hF.size
  · rw [hl]
    exact heap_set2 h5 _
  · rw [hl]
    refine (k1.more (ro' := rb :: ro') (fun g hg => List.mem_cons_of_mem _ hg)).keep fun p hp hne hlt => ?_
    have := heap_set_other w2 rb 1 (.slice A n c) hne
    obtain ⟨b, o, s⟩ := p
    simp only [World.cell?] at this ⊢
    rw [this]
  · rcases List.mem_cons.1 hg with rfl | hg
    · exact .inl h1
    · exact .inr (k2 g hg).1
theorem RefC.frozen {w : World} {tick : Int} {L : List KV} {rb : Nat} {ro : List Nat} (h : RefC w tick L rb ro) : w.frozen? ⟨rb, 1, none⟩ = false := by
  obtain ⟨_, _, _, A, c, hc, _⟩ := h
  simp [World.frozen?, hc]
set_option maxRecDepth 100000 in
set_option maxHeartbeats 1000000 in
theorem refDrop_any (tick : Int) (L : List KV) (rb : Nat) (ro : List Nat) (id : Int) (w : World) (h : RefC w tick L rb ro) (h1 : OneK L) (hL : L.length ≤ 2097152) :
    Calls Tryz.prog 18 #[.pointer (some ⟨rb, 0, none⟩), .int .i64 id] w (RefPost (.bool (getK L id).isSome) tick (dropK L id) rb ro w) := by
  have H := Lib.hid h; have HL := Lib.hid hL; have HO := Lib.hid h1
  clear h hL h1
  obtain ⟨g, HG⟩ : ∃ g, Hid (getK L id = g) := ⟨_, Lib.hid rfl⟩
  rw [HG.out]
  go_enter Tryz.func18, Tryz.ntmps18
  go_wp2_with fail
  refine (refFind_any tick L rb ro id _ H.out HL.out).mono ?_
  rintro e w' ⟨r, rfl, hf, rfl⟩
  rcases hf with ⟨k, rfl, hk, hi⟩ | ⟨rfl, hn⟩
  · have hg : g = some L[k]!.2 := HG.out.symm.trans (getK_at HO.out hk hi)
    have HD := Lib.hid (drop_at HO.out hk hi)
    subst hg
    obtain ⟨A, c, _, k1, hK⟩ := H.out.cells
    have HK := Lib.hid hK
    have hL := HL.out
    have hk3 : ¬ ((k : Nat) : Int) < 0 := by omega
    have HI := Lib.hid hi
    have hsz := H.out.lt rb H.out.1
    have hne : rb ≠ w'.heap.size := by omega
    have hb0 : Below w'.heap.size w' (w'.alloc (.cells #[] 92)) := (Below.refl _ w').alloc (Nat.le_refl _) _
    have HS1 := Lib.hid (((hK.upto (Nat.le_of_lt hk)).sl H.out.lt).belowMore hb0 hb0.size)
    have HN1 := Lib.hid (show A = none → k = 0 ∧ c = 0 from fun e => by subst e; have := (hK.upto (Nat.le_of_lt hk)).nil_cap; exact this)
    have HB0 := Lib.hid hb0
    have hcap : L.length ≤ c := by obtain ⟨_, _, _, h, _⟩ := hK.at_ hk; exact h
    have hk1 : k + 1 ≤ L.length := hk
    have hS3 := hK.from hk1
    have hsl := slice_from A L.length c (k + 1) hk1
    generalize (if c = k + 1 then A else A.map (·.add ((k + 1) * 2))) = A3 at hS3 hsl
    generalize hn3 : L.length - (k + 1) = n3 at hS3 hsl
    generalize c - (k + 1) = c3 at hS3 hsl
    rw [Int.natCast_add, show ((1 : Nat) : Int) = 1 from rfl] at hsl
    have HS3 := Lib.hid hS3
    have HN3 := Lib.hid (show A3 = none → n3 = 0 ∧ c3 = 0 from fun e => by subst e; exact hS3.nil_cap)
    clear hS3
    clear hK hi hb0
    go_wp2_with (at_builtin; refine wpList_appG elemKn rfl _ _ rfl w'.heap.size (some ⟨w'.heap.size, 0, none⟩) 0 0 [] rfl (own_empty w') A k c (L.take k) ?hx HS1.out HN1.out (by omega) HB0.out.size ?hk)
    case hx => rfl
    case hk =>
      intro A2 c2 w1 hv1 hb1
      have hB1 := HB0.out.trans hb1
      have k2 := keep1 k1 hB1
      have HV1 := Lib.hid hv1; have HB1 := Lib.hid hB1
      have HS4 := Lib.hid ((HS3.out.sl H.out.lt).belowMore hB1 hB1.size)
      clear hv1 hb1 hB1
      go_wp2_with (at_builtin; refine wpList_appG elemKn rfl _ _ rfl w'.heap.size A2 k c2 (L.take k) ?hx HV1.out A3 n3 c3 (L.drop (k + 1)) ?hy HS4.out HN3.out (by omega) HB1.out.size ?hk)
      case hx => rfl
      case hy => rfl
      case hk =>
        intro A4 c4 w2 hv2 hb2
        have hB2 := HB1.out.trans hb2
        have k3 := keep1 k1 hB2
        have fz := (H.out.below hB2).frozen
        rw [← List.flatMap_append] at hv2
        have HZ := Lib.hid (H.out.set hB2 hv2 (by rw [List.length_append, List.length_take, List.length_drop]; omega) (fun y hy => H.out.2.2.1 y (by
          rcases List.mem_append.1 hy with hy | hy
          · exact List.mem_of_mem_take hy
          · exact List.mem_of_mem_drop hy)))
        clear hv2 hb2 hB2
        go_wp2_with fail
        go_ret
        rw [← HD.out] at HZ
        exact ⟨rfl, HZ.out.1, HZ.out.2⟩
  · have hg : g = none := HG.out.symm.trans (getK_not hn)
    have HD := Lib.hid (drop_none (HG.out.trans hg))
    subst hg
    clear hn
    go_wp2_with fail
    go_ret
    exact ⟨rfl, ⟨ro, by rw [HD.out]; exact H.out, fun g hg => .inl hg⟩, Fr.refl _ _⟩
end Go.Proofs.YtfnigjeklcagnaaGreatDoor
