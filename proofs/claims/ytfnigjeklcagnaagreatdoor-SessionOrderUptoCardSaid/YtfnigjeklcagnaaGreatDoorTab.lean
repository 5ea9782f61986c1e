/- A table of sessions in memory, for any list; what it keeps. No condition. -/
import Derived.Test.YtfnigjeklcagnaaGreatDoorSesR
namespace Go.Proofs.YtfnigjeklcagnaaGreatDoor
open Go.RowKit Go.MapKept Go.Maps
abbrev EntV := SesV × List IdV
def entV (e : EntV) : Value := .agg #[.int .i64 e.1.1, .int .i32 e.1.2.1, .slice e.1.2.2.1 e.1.2.2.2.1 e.1.2.2.2.2]
def toP (e : EntV) : SesP := (e.1.1, e.1.2.1, e.2)
/-- the identities of an entry lie in the table's own blocks -/
def EntOk (w : World) (own : List Nat) (bt bm : Nat) (e : EntV) : Prop :=
  wfI e.1.1 ∧ (-2147483648 ≤ e.1.2.1 ∧ e.1.2.1 ≤ 2147483647) ∧ e.2.length = e.1.2.2.2.1 ∧ ((e.1.2.2.1 = none → e.1.2.2.2.1 = 0 ∧ e.1.2.2.2.2 = 0) ∧ e.1.2.2.2.1 ≤ e.1.2.2.2.2) ∧ e.2.length ≤ 16 ∧ SmallI e.2 e.2.length 1048576 ∧
  (0 < e.2.length → ∃ b off, e.1.2.2.1 = some ⟨b, off, none⟩ ∧ b ∈ own ∧ b ≠ bt ∧ b ≠ bm ∧ ∀ j, j < e.2.length → ∀ i u, (encId e.2[j]!)[i]? = some u → w.cell? ⟨b, off + j * 2 + i, none⟩ = some u)
/-- the block is no row of sessions -/
def NoSes (w : World) (g : Nat) : Prop := ∀ cs f, w.heap[g]? ≠ some (.cells cs 56 f)
theorem mapI_noSes {w : World} {b : Nat} {l : List (Int × Value)} (h : MapI w b l) : NoSes w b := fun cs f e => by
  obtain ⟨es, clock, hb, _⟩ := h
  rw [hb] at e
  cases e
structure TabAt (w : World) (bt bm : Nat) (E : List EntV) (own : List Nat) : Prop where
  cell : w.heap[bt]? = some (.cells #[.map (some bm)] 96 (0, 0))
  map : MapI w bm (E.map fun e => (e.1.1, entV e))
  bt_ : bt ∈ own
  bm_ : bm ∈ own
  ne : bt ≠ bm
  lt : ∀ g ∈ own, g < w.heap.size
  ent : ∀ e ∈ E, EntOk w own bt bm e
  kind : ∀ g ∈ own, NoSes w g
def Tab (w : World) (bt : Nat) (T : List SesP) (own : List Nat) : Prop := ∃ bm E, TabAt w bt bm E own ∧ E.map toP = T
section
variable {w w' : World} {bt bm : Nat} {E : List EntV} {own own' : List Nat} {e : EntV}
theorem EntOk.keep (h : EntOk w own bt bm e) (hs : ∀ g ∈ own, g ∈ own') (hk : ∀ p : Addr, p.block ∈ own → p.block ≠ bt → p.block ≠ bm → w'.cell? p = w.cell? p) : EntOk w' own' bt bm e := by
  obtain ⟨h1, h2, h3, h4, h5, h6, h7⟩ := h
  refine ⟨h1, h2, h3, h4, h5, h6, fun h0 => ?_⟩
  obtain ⟨b, off, a1, a2, a3, a4, a5⟩ := h7 h0
  exact ⟨b, off, a1, hs _ a2, a3, a4, fun j hj i u hu => (hk ⟨b, off + j * 2 + i, none⟩ a2 a3 a4).trans (a5 j hj i u hu)⟩
theorem EntOk.sl (h : EntOk w own bt bm e) (hl : ∀ g ∈ own, g < w.heap.size) : Sl w w.heap.size encId 2 e.1.2.2.1 e.1.2.2.2.1 e.2 := by
  obtain ⟨_, _, h3, _, _, _, h7⟩ := h
  refine ⟨h3, fun h0 => ?_⟩
  obtain ⟨b, off, a1, a2, _, _, a5⟩ := h7 (by omega)
  exact ⟨b, off, a1, hl _ a2, fun j hj => a5 j (by omega)⟩
theorem EntOk.ses (h : EntOk w own bt bm e) (hl : ∀ g ∈ own, g < w.heap.size) : SesOk w e.1 e.2 1048576 := by
  have hs := h.sl hl
  obtain ⟨h1, h2, h3, h4, h5, h6, _⟩ := h
  exact ⟨h1, h2, hs, h4, by omega, by rw [← h3]; exact h6⟩
theorem TabAt.fr {o : List Nat} (h : TabAt w bt bm E own) (hf : Fr o w w') (ha : ∀ g ∈ own, g ∉ o) : TabAt w' bt bm E own where
  cell := (hf.block bt (h.lt bt h.bt_) (ha bt h.bt_)).trans h.cell
  map := h.map.of_heap (hf.block bm (h.lt bm h.bm_) (ha bm h.bm_))
  bt_ := h.bt_
  bm_ := h.bm_
  ne := h.ne
  lt := fun g hg => Nat.lt_of_lt_of_le (h.lt g hg) hf.size
  ent := fun e he => (h.ent e he).keep (fun _ hg => hg) fun _ hp _ _ => hf.cell (h.lt _ hp) (ha _ hp)
  kind := fun g hg cs f => by rw [hf.block g (h.lt g hg) (ha g hg)]; exact h.kind g hg cs f
theorem TabAt.below (h : TabAt w bt bm E own) (hb : Below w.heap.size w w') : TabAt w' bt bm E own := h.fr (Fr.of_below (own := []) hb) (by simp)
theorem Tab.fr {T : List SesP} {o : List Nat} (h : Tab w bt T own) (hf : Fr o w w') (ha : ∀ g ∈ own, g ∉ o) : Tab w' bt T own := by
  obtain ⟨bm, E, h1, h2⟩ := h
  exact ⟨bm, E, h1.fr hf ha, h2⟩
theorem Tab.below {T : List SesP} (h : Tab w bt T own) (hb : Below w.heap.size w w') : Tab w' bt T own := h.fr (Fr.of_below (own := []) hb) (by simp)
theorem TabAt.one (h : TabAt w bt bm E own) : ((E.map toP).map (·.1)).Nodup := by
  have := h.map.apart
  rw [List.map_map] at this ⊢
  exact this

set_option maxRecDepth 100000 in
theorem TabAt.ins {w2 : World} {z : SesV} {l : List IdV} (h : TabAt w bt bm E own) (hb : Below w.heap.size w w') (hi : wfI z.1) (ht : -2147483648 ≤ z.2.1 ∧ z.2.1 ≤ 2147483647) (hn : ∀ e ∈ E, e.1.1 ≠ z.1) {A : Option Addr} {c : Nat} (hrow : RowId w' w.heap.size A l.length c l) (hl : l.length ≤ 16) (hs : SmallI l l.length 1048576)
    (hu : (Instr.mapUpdate 94 (.map (some bm)) (.int .i64 z.1) (.agg #[.int .i64 z.1, .int .i32 z.2.1, .slice A l.length c])).run Tryz.prog w' = .ok () w2) :
    ∃ own2, TabAt w2 bt bm (E ++ [((z.1, z.2.1, A, l.length, c), l)]) own2 ∧ (∀ g ∈ own2, g ∈ own ∨ w.heap.size ≤ g) ∧ Fr own w w2 := by
  have h1 := h.below hb
  obtain ⟨w4, l4, r4, m4, g4, z4, e4⟩ := h1.map.update Tryz.underlying94 hi (.agg #[.int .i64 z.1, .int .i32 z.2.1, .slice A l.length c])
  rw [hu] at r4
  have hw : w2 = w4 := by
    simp only [Result.ok.injEq, true_and] at r4
    exact r4
  subst hw
  have hF : Fr [bm] w' w2 := Fr.of_grown g4 (by simp)
  have hl4 : l4 = (E ++ [(((z.1, z.2.1, A, l.length, c), l) : EntV)]).map fun e => (e.1.1, entV e) := by
    rcases e4 with ⟨_, e⟩ | ⟨j, old, hj, _⟩
    · rw [e, List.map_append]; rfl
    · exfalso
      rw [List.getElem?_map] at hj
      cases hj2 : E[j]? with
      | none => rw [hj2] at hj; cases hj
      | some y =>
        rw [hj2] at hj
        have e3 : y.1.1 = z.1 := by
          have := congrArg (fun o => o.map Prod.fst) hj
          simpa using this
        exact hn y (List.mem_of_getElem? hj2) e3
  rw [hl4] at m4
  have key : ∃ own2 : List Nat, (∀ g ∈ own, g ∈ own2) ∧ (∀ g ∈ own2, g ∈ own ∨ w.heap.size ≤ g) ∧ (∀ g ∈ own2, g < w'.heap.size) ∧ (∀ g ∈ own2, NoSes w' g) ∧ (0 < l.length → ∃ b off, A = some ⟨b, off, none⟩ ∧ b ∈ own2 ∧ b ≠ bt ∧ b ≠ bm ∧ ∀ j, j < l.length → ∀ i u, (encId l[j]!)[i]? = some u → w'.cell? ⟨b, off + j * 2 + i, none⟩ = some u) ∧ ((A = none → l.length = 0 ∧ c = 0) ∧ l.length ≤ c) := by
    have hsl := Sl.of_own (zs := l) (k := 2) (enc := encId) (fun _ => rfl) hrow rfl
    rcases hrow.2 with ⟨e, e2⟩ | ⟨g, cap, cur, e, q1, q2, q3, _⟩
    · injection e with e5 e6 e7
      exact ⟨own, fun _ hg => hg, fun _ hg => .inl hg, h1.lt, h1.kind, fun h0 => by omega, fun _ => ⟨e2, e7⟩, by omega⟩
    · injection e with e5 e6 e7
      subst e5 e7
      refine ⟨g :: own, fun _ hg => List.mem_cons_of_mem _ hg, fun x hx => ?_, fun x hx => ?_, fun x hx => ?_, fun h0 => ⟨g, 0, rfl, by simp, ?_, ?_, ?_⟩, (fun hh => by cases hh), q3⟩
      · rcases List.mem_cons.1 hx with rfl | hx
        · exact .inr q1
        · exact .inl hx
      · rcases List.mem_cons.1 hx with rfl | hx
        · exact (Array.getElem?_eq_some_iff.1 q2).1
        · exact h1.lt x hx
      · rcases List.mem_cons.1 hx with rfl | hx
        · intro cs f e9
          rw [q2] at e9
          injection e9 with e9
          injection e9 with _ e9 _
          exact absurd e9 (by decide)
        · exact h1.kind x hx
      · have := h.lt bt h.bt_; omega
      · have := h.lt bm h.bm_; omega
      · intro j hj i u hu2
        obtain ⟨b, off, e8, _, hc⟩ := hsl.cells hj
        injection e8 with e8
        injection e8 with e9 e10
        subst e9 e10
        exact hc i u hu2
  obtain ⟨own2, k1, k2, k3, k6, k4, k5⟩ := key
  refine ⟨own2, ⟨?_, m4, k1 _ h.bt_, k1 _ h.bm_, h.ne, fun g hg => Nat.lt_of_lt_of_le (k3 g hg) hF.size, fun e he => ?_, fun g hg => ?_⟩, k2, (Fr.of_below (own := own) hb).trans hF (fun g hg => .inl (by rw [List.mem_singleton.1 hg]; exact h.bm_))⟩
  · exact (hF.block bt (h1.lt bt h.bt_) (by simpa using h.ne)).trans h1.cell
  · have hcell : ∀ p : Addr, p.block ∈ own2 → p.block ≠ bm → w2.cell? p = w'.cell? p := fun p hp hne => hF.cell (k3 _ hp) (by simpa using hne)
    rcases List.mem_append.1 he with he | he
    · exact (h1.ent e he).keep k1 fun p hp _ hne => hcell p (k1 _ hp) hne
    · rw [List.mem_singleton.1 he]
      refine ⟨hi, ht, rfl, k5, hl, hs, fun h0 => ?_⟩
      obtain ⟨b, off, a1, a2, a3, a4, a5⟩ := k4 h0
      exact ⟨b, off, a1, a2, a3, a4, fun j hj i u hu2 => (hcell ⟨b, off + j * 2 + i, none⟩ a2 a4).trans (a5 j hj i u hu2)⟩
  · by_cases hgm : g = bm
    · subst hgm
      exact mapI_noSes m4
    · intro cs f
      rw [hF.block g (k3 g hg) (by simpa using hgm)]
      exact k6 g hg cs f
theorem TabAt.row {b n c k : Nat} {A : Option Addr} {xs : List Value} (h : TabAt w bt bm E own) (hr : w.ownsRow b 56 k (.slice A n c) n xs) : ∀ g, (Value.slice A n c).ownBlock = some g → g ∉ own := fun g hg hm => by
  rcases hr.2 with ⟨e1, _⟩ | ⟨g', cap', cur', b1, _, b3, _⟩
  · injection e1 with e1 _ _
    subst e1
    cases hg
  · injection b1 with b1 _ _
    subst b1
    injection hg with hg
    subst hg
    exact h.kind _ hm _ _ b3
theorem Tab.row {T : List SesP} {b n c k : Nat} {A : Option Addr} {xs : List Value} (h : Tab w bt T own) (hr : w.ownsRow b 56 k (.slice A n c) n xs) : ∀ g, (Value.slice A n c).ownBlock = some g → g ∉ own := by
  obtain ⟨bm, E, h, _⟩ := h
  exact h.row hr
theorem Tab.grown {T : List SesP} {b n c k : Nat} {A : Option Addr} {xs : List Value} (h : Tab w bt T own) (hr : w.ownsRow b 56 k (.slice A n c) n xs) (hg : w.grownBy w' (Value.slice A n c).ownBlock) : Tab w' bt T own := by
  have hrow := h.row hr
  cases ho : (Value.slice A n c).ownBlock with
  | none =>
    rw [ho] at hg
    exact h.below ((Below.refl _ w).grown hg (Nat.le_refl _) (fun j hj => by cases hj))
  | some g =>
    rw [ho] at hg
    exact h.fr (o := [g]) (Fr.of_grown hg (by simp)) (fun x hx hm => by rw [List.mem_singleton.1 hm] at hx; exact hrow g ho hx)
/-- a row of sessions stays where a table turns -/
theorem Tab.keeps {T : List SesP} {b n c k : Nat} {A : Option Addr} {xs : List Value} (h : Tab w bt T own) (hr : w.ownsRow b 56 k (.slice A n c) n xs) (hf : Fr own w w') : w'.ownsRow b 56 k (.slice A n c) n xs := by
  have hrow := h.row hr
  refine ⟨hr.1, hr.2.imp (fun x => x) fun ⟨g, cap, cur, a1, a2, a3, r⟩ => ⟨g, cap, cur, a1, a2, ?_, r⟩⟩
  refine (hf.block g (Array.getElem?_eq_some_iff.1 a3).1 (hrow g ?_)).trans a3
  injection a1 with a1 _ _
  subst a1
  rfl
end
end Go.Proofs.YtfnigjeklcagnaaGreatDoor
