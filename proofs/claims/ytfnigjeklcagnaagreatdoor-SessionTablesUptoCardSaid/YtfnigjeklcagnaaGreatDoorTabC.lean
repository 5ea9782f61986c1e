/- A table of sessions in memory, for any list; what it keeps. No condition. The walks of a table's Len, Open, Close, Get, for any table. Conditions: int64 keys; texts shorter than 2^20. The walks of a table's Close and Get, for any table. Condition: int64 keys. -/
import Derived.Test.YtfnigjeklcagnaaGreatDoorSesR
import Derived.Deep.RegionHeld3
import Derived.StillTailTactics
import Derived.Deep.RegionWith
import Derived.Test.YtfnigjeklcagnaaGreatDoorNils
namespace Go.Proofs.YtfnigjeklcagnaaGreatDoor
open Go.RowKit Go.MapKept Go.Maps
abbrev EntV := SesV × List IdV
def entV (e : EntV) : Value := .agg #[.int .i64 e.1.1, .int .i32 e.1.2.1, .slice e.1.2.2.1 e.1.2.2.2.1 e.1.2.2.2.2]
def toP (e : EntV) : SesP := (e.1.1, e.1.2.1, e.2)
/-- the identities of an entry lie in the table's own blocks -/
def EntOk (w : World) (own : List Nat) (bt bm : Nat) (e : EntV) : Prop :=
  wfI e.1.1 ∧ (-2147483648 ≤ e.1.2.1 ∧ e.1.2.1 ≤ 2147483647) ∧ e.2.length = e.1.2.2.2.1 ∧ ((e.1.2.2.1 = none → e.1.2.2.2.1 = 0 ∧ e.1.2.2.2.2 = 0) ∧ e.1.2.2.2.1 ≤ e.1.2.2.2.2) ∧ e.2.length ≤ 16 ∧ SmallI e.2 e.2.length 1048576 ∧
  (0 < e.2.length → ∃ b off, e.1.2.2.1 = some ⟨b, off, none⟩ ∧ b ∈ own ∧ b ≠ bt ∧ b ≠ bm ∧ ∀ j, j < e.2.length → ∀ i u, (encId e.2[j]!)[i]? = some u → w.cell? ⟨b, off + j * 2 + i, none⟩ = some u)
/-- the block is no row of sessions -/
def NoSes (w : World) (g : Nat) : Prop := ∀ cs f, w.heap[g]? ≠ some (.cells cs 56 f)
theorem mapI_noSes {w : World} {b : Nat} {l : List (Int × Value)} (h : MapI w b l) : NoSes w b := fun cs f e => by
  obtain ⟨es, clock, hb, _⟩ := h
  rw [hb] at e
  cases e
structure TabAt (w : World) (bt bm : Nat) (E : List EntV) (own : List Nat) : Prop where
  cell : w.heap[bt]? = some (.cells #[.map (some bm)] 96 (0, 0))
  map : MapI w bm (E.map fun e => (e.1.1, entV e))
  bt_ : bt ∈ own
  bm_ : bm ∈ own
  ne : bt ≠ bm
  lt : ∀ g ∈ own, g < w.heap.size
  ent : ∀ e ∈ E, EntOk w own bt bm e
  kind : ∀ g ∈ own, NoSes w g
def Tab (w : World) (bt : Nat) (T : List SesP) (own : List Nat) : Prop := ∃ bm E, TabAt w bt bm E own ∧ E.map toP = T
section
variable {w w' : World} {bt bm : Nat} {E : List EntV} {own own' : List Nat} {e : EntV}
theorem EntOk.keep (h : EntOk w own bt bm e) (hs : ∀ g ∈ own, g ∈ own') (hk : ∀ p : Addr, p.block ∈ own → p.block ≠ bt → p.block ≠ bm → w'.cell? p = w.cell? p) : EntOk w' own' bt bm e := by
  obtain ⟨h1, h2, h3, h4, h5, h6, h7⟩ := h
  refine ⟨h1, h2, h3, h4, h5, h6, fun h0 => ?_⟩
  obtain ⟨b, off, a1, a2, a3, a4, a5⟩ := h7 h0
  exact ⟨b, off, a1, hs _ a2, a3, a4, fun j hj i u hu => (hk ⟨b, off + j * 2 + i, none⟩ a2 a3 a4).trans (a5 j hj i u hu)⟩
theorem EntOk.sl (h : EntOk w own bt bm e) (hl : ∀ g ∈ own, g < w.heap.size) : Sl w w.heap.size encId 2 e.1.2.2.1 e.1.2.2.2.1 e.2 := by
  obtain ⟨_, _, h3, _, _, _, h7⟩ := h
  refine ⟨h3, fun h0 => ?_⟩
  obtain ⟨b, off, a1, a2, _, _, a5⟩ := h7 (by omega)
  exact ⟨b, off, a1, hl _ a2, fun j hj => a5 j (by omega)⟩
theorem EntOk.ses (h : EntOk w own bt bm e) (hl : ∀ g ∈ own, g < w.heap.size) : SesOk w e.1 e.2 1048576 := by
  have hs := h.sl hl
  obtain ⟨h1, h2, h3, h4, h5, h6, _⟩ := h
  exact ⟨h1, h2, hs, h4, by omega, by rw [← h3]; exact h6⟩
theorem TabAt.fr {o : List Nat} (h : TabAt w bt bm E own) (hf : Fr o w w') (ha : ∀ g ∈ own, g ∉ o) : TabAt w' bt bm E own where
  cell := (hf.block bt (h.lt bt h.bt_) (ha bt h.bt_)).trans h.cell
  map := h.map.of_heap (hf.block bm (h.lt bm h.bm_) (ha bm h.bm_))
  bt_ := h.bt_
  bm_ := h.bm_
  ne := h.ne
  lt := fun g hg => Nat.lt_of_lt_of_le (h.lt g hg) hf.size
  ent := fun e he => (h.ent e he).keep (fun _ hg => hg) fun _ hp _ _ => hf.cell (h.lt _ hp) (ha _ hp)
  kind := fun g hg cs f => by rw [hf.block g (h.lt g hg) (ha g hg)]; exact h.kind g hg cs f
theorem TabAt.below (h : TabAt w bt bm E own) (hb : Below w.heap.size w w') : TabAt w' bt bm E own := h.fr (Fr.of_below (own := []) hb) (by simp)
theorem Tab.fr {T : List SesP} {o : List Nat} (h : Tab w bt T own) (hf : Fr o w w') (ha : ∀ g ∈ own, g ∉ o) : Tab w' bt T own := by
  obtain ⟨bm, E, h1, h2⟩ := h
  exact ⟨bm, E, h1.fr hf ha, h2⟩
theorem Tab.below {T : List SesP} (h : Tab w bt T own) (hb : Below w.heap.size w w') : Tab w' bt T own := h.fr (Fr.of_below (own := []) hb) (by simp)
theorem TabAt.one (h : TabAt w bt bm E own) : ((E.map toP).map (·.1)).Nodup := by
  have := h.map.apart
  rw [List.map_map] at this ⊢
  exact this

set_option maxRecDepth 100000 in
theorem TabAt.ins {w2 : World} {z : SesV} {l : List IdV} (h : TabAt w bt bm E own) (hb : Below w.heap.size w w') (hi : wfI z.1) (ht : -2147483648 ≤ z.2.1 ∧ z.2.1 ≤ 2147483647) (hn : ∀ e ∈ E, e.1.1 ≠ z.1) {A : Option Addr} {c : Nat} (hrow : RowId w' w.heap.size A l.length c l) (hl : l.length ≤ 16) (hs : SmallI l l.length 1048576)
    (hu : (Instr.mapUpdate 94 (.map (some bm)) (.int .i64 z.1) (.agg #[.int .i64 z.1, .int .i32 z.2.1, .slice A l.length c])).run Tryz.prog w' = .ok () w2) :
    ∃ own2, TabAt w2 bt bm (E ++ [((z.1, z.2.1, A, l.length, c), l)]) own2 ∧ (∀ g ∈ own2, g ∈ own ∨ w.heap.size ≤ g) ∧ Fr own w w2 := by
  have h1 := h.below hb
  obtain ⟨w4, l4, r4, m4, g4, z4, e4⟩ := h1.map.update Tryz.underlying94 hi (.agg #[.int .i64 z.1, .int .i32 z.2.1, .slice A l.length c])
  rw [hu] at r4
  have hw : w2 = w4 := by
    simp only [Result.ok.injEq, true_and] at r4
    exact r4
  subst hw
  have hF : Fr [bm] w' w2 := Fr.of_grown g4 (by simp)
  have hl4 : l4 = (E ++ [(((z.1, z.2.1, A, l.length, c), l) : EntV)]).map fun e => (e.1.1, entV e) := by
    rcases e4 with ⟨_, e⟩ | ⟨j, old, hj, _⟩
    · rw [e, List.map_append]; rfl
    · exfalso
      rw [List.getElem?_map] at hj
      cases hj2 : E[j]? with
      | none => rw [hj2] at hj; cases hj
      | some y =>
        rw [hj2] at hj
        have e3 : y.1.1 = z.1 := by
          have := congrArg (fun o => o.map Prod.fst) hj
          simpa using this
        exact hn y (List.mem_of_getElem? hj2) e3
  rw [hl4] at m4
  have key : ∃ own2 : List Nat, (∀ g ∈ own, g ∈ own2) ∧ (∀ g ∈ own2, g ∈ own ∨ w.heap.size ≤ g) ∧ (∀ g ∈ own2, g < w'.heap.size) ∧ (∀ g ∈ own2, NoSes w' g) ∧ (0 < l.length → ∃ b off, A = some ⟨b, off, none⟩ ∧ b ∈ own2 ∧ b ≠ bt ∧ b ≠ bm ∧ ∀ j, j < l.length → ∀ i u, (encId l[j]!)[i]? = some u → w'.cell? ⟨b, off + j * 2 + i, none⟩ = some u) ∧ ((A = none → l.length = 0 ∧ c = 0) ∧ l.length ≤ c) := by
    have hsl := Sl.of_own (zs := l) (k := 2) (enc := encId) (fun _ => rfl) hrow rfl
    rcases hrow.2 with ⟨e, e2⟩ | ⟨g, cap, cur, e, q1, q2, q3, _⟩
    · injection e with e5 e6 e7
      exact ⟨own, fun _ hg => hg, fun _ hg => .inl hg, h1.lt, h1.kind, fun h0 => by omega, fun _ => ⟨e2, e7⟩, by omega⟩
    · injection e with e5 e6 e7
      subst e5 e7
      refine ⟨g :: own, fun _ hg => List.mem_cons_of_mem _ hg, fun x hx => ?_, fun x hx => ?_, fun x hx => ?_, fun h0 => ⟨g, 0, rfl, by simp, ?_, ?_, ?_⟩, (fun hh => by cases hh), q3⟩
      · rcases List.mem_cons.1 hx with rfl | hx
        · exact .inr q1
        · exact .inl hx
      · rcases List.mem_cons.1 hx with rfl | hx
        · exact (Array.getElem?_eq_some_iff.1 q2).1
        · exact h1.lt x hx
      · rcases List.mem_cons.1 hx with rfl | hx
        · intro cs f e9
          rw [q2] at e9
          injection e9 with e9
          injection e9 with _ e9 _
          exact absurd e9 (by decide)
        · exact h1.kind x hx
      · have := h.lt bt h.bt_; omega
      · have := h.lt bm h.bm_; omega
      · intro j hj i u hu2
        obtain ⟨b, off, e8, _, hc⟩ := hsl.cells hj
        injection e8 with e8
        injection e8 with e9 e10
        subst e9 e10
        exact hc i u hu2
  obtain ⟨own2, k1, k2, k3, k6, k4, k5⟩ := key
  refine ⟨own2, ⟨?_, m4, k1 _ h.bt_, k1 _ h.bm_, h.ne, fun g hg => Nat.lt_of_lt_of_le (k3 g hg) hF.size, fun e he => ?_, fun g hg => ?_⟩, k2, (Fr.of_below (own := own) hb).trans hF (fun g hg => .inl (by rw [List.mem_singleton.1 hg]; exact h.bm_))⟩
  · exact (hF.block bt (h1.lt bt h.bt_) (by simpa using h.ne)).trans h1.cell
  · have hcell : ∀ p : Addr, p.block ∈ own2 → p.block ≠ bm → w2.cell? p = w'.cell? p := fun p hp hne => hF.cell (k3 _ hp) (by simpa using hne)
    rcases List.mem_append.1 he with he | he
    · exact (h1.ent e he).keep k1 fun p hp _ hne => hcell p (k1 _ hp) hne
    · rw [List.mem_singleton.1 he]
      refine ⟨hi, ht, rfl, k5, hl, hs, fun h0 => ?_⟩
      obtain ⟨b, off, a1, a2, a3, a4, a5⟩ := k4 h0
      exact ⟨b, off, a1, a2, a3, a4, fun j hj i u hu2 => (hcell ⟨b, off + j * 2 + i, none⟩ a2 a4).trans (a5 j hj i u hu2)⟩
  · by_cases hgm : g = bm
    · subst hgm
      exact mapI_noSes m4
    · intro cs f
      rw [hF.block g (k3 g hg) (by simpa using hgm)]
      exact k6 g hg cs f
theorem TabAt.row {b n c k : Nat} {A : Option Addr} {xs : List Value} (h : TabAt w bt bm E own) (hr : w.ownsRow b 56 k (.slice A n c) n xs) : ∀ g, (Value.slice A n c).ownBlock = some g → g ∉ own := fun g hg hm => by
  rcases hr.2 with ⟨e1, _⟩ | ⟨g', cap', cur', b1, _, b3, _⟩
  · injection e1 with e1 _ _
    subst e1
    cases hg
  · injection b1 with b1 _ _
    subst b1
    injection hg with hg
    subst hg
    exact h.kind _ hm _ _ b3
theorem Tab.row {T : List SesP} {b n c k : Nat} {A : Option Addr} {xs : List Value} (h : Tab w bt T own) (hr : w.ownsRow b 56 k (.slice A n c) n xs) : ∀ g, (Value.slice A n c).ownBlock = some g → g ∉ own := by
  obtain ⟨bm, E, h, _⟩ := h
  exact h.row hr
theorem Tab.grown {T : List SesP} {b n c k : Nat} {A : Option Addr} {xs : List Value} (h : Tab w bt T own) (hr : w.ownsRow b 56 k (.slice A n c) n xs) (hg : w.grownBy w' (Value.slice A n c).ownBlock) : Tab w' bt T own := by
  have hrow := h.row hr
  cases ho : (Value.slice A n c).ownBlock with
  | none =>
    rw [ho] at hg
    exact h.below ((Below.refl _ w).grown hg (Nat.le_refl _) (fun j hj => by cases hj))
  | some g =>
    rw [ho] at hg
    exact h.fr (o := [g]) (Fr.of_grown hg (by simp)) (fun x hx hm => by rw [List.mem_singleton.1 hm] at hx; exact hrow g ho hx)
/-- a row of sessions stays where a table turns -/
theorem Tab.keeps {T : List SesP} {b n c k : Nat} {A : Option Addr} {xs : List Value} (h : Tab w bt T own) (hr : w.ownsRow b 56 k (.slice A n c) n xs) (hf : Fr own w w') : w'.ownsRow b 56 k (.slice A n c) n xs := by
  have hrow := h.row hr
  refine ⟨hr.1, hr.2.imp (fun x => x) fun ⟨g, cap, cur, a1, a2, a3, r⟩ => ⟨g, cap, cur, a1, a2, ?_, r⟩⟩
  refine (hf.block g (Array.getElem?_eq_some_iff.1 a3).1 (hrow g ?_)).trans a3
  injection a1 with a1 _ _
  subst a1
  rfl
end
end Go.Proofs.YtfnigjeklcagnaaGreatDoor
namespace Go.Proofs.YtfnigjeklcagnaaGreatDoor
open Go.RowKit Go.MapKept Go.Maps
theorem newTab_any (w : World) : Calls Tryz.prog 25 #[] w fun e w' => (∃ bt own, e = .returned (.pointer (some ⟨bt, 0, none⟩)) ∧ Tab w' bt [] own ∧ ∀ g ∈ own, w.heap.size ≤ g) ∧ Below w.heap.size w w' := by
  refine (newTab w).mono ?_
  rintro e w' ⟨⟨bt, bm, rfl, ⟨h1, h2, h3⟩, h4, h5⟩, hb⟩
  refine ⟨⟨bt, [bt, bm], rfl, ⟨bm, [], ⟨h1, h2, by simp, by simp, h3, fun g hg => ?_, (fun e he => by cases he), fun g hg => ?_⟩, rfl⟩, fun g hg => ?_⟩, hb⟩
  · rcases List.mem_cons.1 hg with rfl | hg
    · exact (Array.getElem?_eq_some_iff.1 h1).1
    · rw [List.mem_singleton.1 hg]; exact h2.lt
  · rcases List.mem_cons.1 hg with rfl | hg
    · intro cs f e9
      rw [h1] at e9
      injection e9 with e9
      injection e9 with _ e9 _
      exact absurd e9 (by decide)
    · rw [List.mem_singleton.1 hg]; exact mapI_noSes h2
  · rcases List.mem_cons.1 hg with rfl | hg
    · exact h4
    · rw [List.mem_singleton.1 hg]; exact h5
theorem tabLen_any (bt : Nat) (T : List SesP) (own : List Nat) (w : World) (h : Tab w bt T own) : Calls Tryz.prog 31 #[.pointer (some ⟨bt, 0, none⟩)] w fun e w' => e = .returned (.int .i64 T.length) ∧ w' = w := by
  obtain ⟨bm, E, h, rfl⟩ := h
  refine (tabLen bt bm _ w ⟨h.cell, h.map, h.ne⟩).mono ?_
  rintro e w' ⟨rfl, rfl⟩
  exact ⟨by simp, rfl⟩
theorem TabAt.look {w : World} {bt bm : Nat} {E : List EntV} {own : List Nat} (h : TabAt w bt bm E own) {i : Int} (hi : wfI i) :
    (∃ e ∈ E, e.1.1 = i ∧ ∀ w' : World, w'.heap[bm]? = w.heap[bm]? → (Instr.lookup 94 (.map (some bm)) (.int .i64 i) true).run Tryz.prog w' = .ok (.tuple #[entV e, .bool true]) w') ∨
    ((∀ e ∈ E, e.1.1 ≠ i) ∧ ∀ w' : World, w'.heap[bm]? = w.heap[bm]? → (Instr.lookup 94 (.map (some bm)) (.int .i64 i) true).run Tryz.prog w' = .ok (.tuple #[.agg #[.int .i64 0, .int .i32 0, .slice none 0 0], .bool false]) w') := by
  rcases h.map.lookup Tryz.underlying94 true zSession hi with ⟨v, hv, hr⟩ | ⟨hn, hr⟩
  · obtain ⟨e, he, ee⟩ := List.mem_map.1 hv
    have e1 : e.1.1 = i := congrArg Prod.fst ee
    have e2 : entV e = v := congrArg Prod.snd ee
    subst e2
    exact .inl ⟨e, he, e1, hr⟩
  · exact .inr ⟨fun e he ee => hn _ (List.mem_map.2 ⟨e, he, rfl⟩) ee, hr⟩
open Classical in
noncomputable def openC (T : List SesP) (s : SesP) : Int := if rightS s then if s.1 ∈ T.map (·.1) then 80 else 0 else 1
open Classical in
noncomputable def openT (T : List SesP) (s : SesP) : List SesP := if rightS s then if s.1 ∈ T.map (·.1) then T else T ++ [s] else T
def TabPost (v : Value) (T : List SesP) (bt : Nat) (own : List Nat) (w : World) (e : Ending) (w' : World) : Prop := e = .returned v ∧ (∃ own', Tab w' bt T own' ∧ ∀ g ∈ own', g ∈ own ∨ w.heap.size ≤ g) ∧ Fr own w w'
open Classical in
set_option maxRecDepth 100000 in
theorem open_bad (bt bm : Nat) (E : List EntV) (own : List Nat) (i tm : Int) (A : Option Addr) (n c : Nat) (l : List IdV) (w : World) (hE : Env w) (h : TabAt w bt bm E own) (hs : SesOk w (i, tm, A, n, c) l 1048576) (hr : ¬ rightS (i, tm, l)) : Calls Tryz.prog 26 #[.pointer (some ⟨bt, 0, none⟩), .agg #[.int .i64 i, .int .i32 tm, .slice A n c]] w fun e w' => e = .returned (.int .i64 1) ∧ Below w.heap.size w w' := by
  have hbt : bt < w.heap.size := h.lt bt h.bt_
  have hbm : bm < w.heap.size := h.lt bm h.bm_
  have k0 : w.cell? ⟨bt, 0, none⟩ = some (.map (some bm)) := by rw [cellH h.cell]; rfl
  have hb0 : Below w.heap.size w (w.alloc (.cells #[.int .i64 i, .int .i32 tm, .slice A n c] 56)) := (Below.refl _ w).alloc (Nat.le_refl _) _
  have z0 : (w.alloc (.cells #[.int .i64 i, .int .i32 tm, .slice A n c] 56)).cell? ⟨w.heap.size, 0, none⟩ = some (.int .i64 i) := by simp
  have z1 : (w.alloc (.cells #[.int .i64 i, .int .i32 tm, .slice A n c] 56)).cell? ⟨w.heap.size, 1, none⟩ = some (.int .i32 tm) := by simp
  have z2 : (w.alloc (.cells #[.int .i64 i, .int .i32 tm, .slice A n c] 56)).cell? ⟨w.heap.size, 2, none⟩ = some (.slice A n c) := by simp
  have cR := right_any i tm A n c l (w.alloc (.cells #[.int .i64 i, .int .i32 tm, .slice A n c] 56)) (hE.later hb0) ⟨hs.1, hs.2.1, hs.2.2.1.belowMore hb0 hb0.size, hs.2.2.2.1, hs.2.2.2.2⟩
  rw [decide_eq_false hr] at cR
  have HB0 := Lib.hid hb0
  clear h hs hE hb0
  go_enter Tryz.func26, Tryz.ntmps26
  go_wp2_with fail
  refine cR.mono ?_
  rintro e w1 ⟨rfl, hb1⟩
  have HB := Lib.hid (HB0.out.trans (hb1.mono HB0.out.size))
  clear hb1
  go_wp2_with fail
  go_ret
  exact ⟨rfl, HB.out⟩
open Classical in
set_option maxRecDepth 100000 in
set_option maxHeartbeats 1000000 in
theorem open_old (bt bm : Nat) (E : List EntV) (own : List Nat) (i tm : Int) (A : Option Addr) (n c : Nat) (l : List IdV) (w : World) (hE : Env w) (h : TabAt w bt bm E own) (hs : SesOk w (i, tm, A, n, c) l 1048576) (hr : rightS (i, tm, l)) (e : EntV) (hl : ∀ w' : World, w'.heap[bm]? = w.heap[bm]? → (Instr.lookup 94 (.map (some bm)) (.int .i64 i) true).run Tryz.prog w' = .ok (.tuple #[entV e, .bool true]) w') : Calls Tryz.prog 26 #[.pointer (some ⟨bt, 0, none⟩), .agg #[.int .i64 i, .int .i32 tm, .slice A n c]] w fun e w' => e = .returned (.int .i64 80) ∧ Below w.heap.size w w' := by
  have hbt : bt < w.heap.size := h.lt bt h.bt_
  have hbm : bm < w.heap.size := h.lt bm h.bm_
  have k0 : w.cell? ⟨bt, 0, none⟩ = some (.map (some bm)) := by rw [cellH h.cell]; rfl
  have hb0 : Below w.heap.size w (w.alloc (.cells #[.int .i64 i, .int .i32 tm, .slice A n c] 56)) := (Below.refl _ w).alloc (Nat.le_refl _) _
  have z0 : (w.alloc (.cells #[.int .i64 i, .int .i32 tm, .slice A n c] 56)).cell? ⟨w.heap.size, 0, none⟩ = some (.int .i64 i) := by simp
  have z1 : (w.alloc (.cells #[.int .i64 i, .int .i32 tm, .slice A n c] 56)).cell? ⟨w.heap.size, 1, none⟩ = some (.int .i32 tm) := by simp
  have z2 : (w.alloc (.cells #[.int .i64 i, .int .i32 tm, .slice A n c] 56)).cell? ⟨w.heap.size, 2, none⟩ = some (.slice A n c) := by simp
  have cR := right_any i tm A n c l (w.alloc (.cells #[.int .i64 i, .int .i32 tm, .slice A n c] 56)) (hE.later hb0) ⟨hs.1, hs.2.1, hs.2.2.1.belowMore hb0 hb0.size, hs.2.2.2.1, hs.2.2.2.2⟩
  rw [decide_eq_true hr] at cR
  obtain ⟨⟨i9, t9, A9, n9, c9⟩, l9⟩ := e
  unfold entV at hl
  simp only at hl
  clear h hs hE
  go_enter Tryz.func26, Tryz.ntmps26
  go_wp2_with fail
  refine cR.mono ?_
  rintro e w1 ⟨rfl, hb1⟩
  have y0 := keep1 z0 hb1
  have y1 := keep1 z1 hb1
  have y2 := keep1 z2 hb1
  have kb := keep1 ((hb0.cell (p := ⟨bt, 0, none⟩) hbt).trans k0) hb1
  have hB := hb0.trans (hb1.mono hb0.size)
  have HB := Lib.hid hB
  have HSO : ∀ w', Below w1.heap.size w1 w' → (Below w1.heap.size w1 w' ∧ w'.cell? ⟨bt, 0, none⟩ = some (.map (some bm)) ∧ w'.cell? ⟨w.heap.size, 0, none⟩ = some (.int .i64 i) ∧ w'.cell? ⟨w.heap.size, 1, none⟩ = some (.int .i32 tm) ∧ w'.cell? ⟨w.heap.size, 2, none⟩ = some (.slice A n c) ∧ (Instr.lookup 94 (.map (some bm)) (.int .i64 i) true).run Tryz.prog w' = .ok (.tuple #[.agg #[.int .i64 i9, .int .i32 t9, .slice A9 n9 c9], .bool true]) w') := fun w' hb =>
    ⟨hb, keep1 kb hb, keep1 y0 hb, keep1 y1 hb, keep1 y2 hb, hl w' ((hb.block bm (Nat.lt_of_lt_of_le hbm hB.size)).trans (hB.block bm hbm))⟩
  clear z0 z1 z2 k0 hb1 hB hb0 hl
  go_wp2_with fail
  go_region_held3 (fun w' => (Below w1.heap.size w1 w' ∧ w'.cell? ⟨bt, 0, none⟩ = some (.map (some bm)) ∧ w'.cell? ⟨w.heap.size, 0, none⟩ = some (.int .i64 i) ∧ w'.cell? ⟨w.heap.size, 1, none⟩ = some (.int .i32 tm) ∧ w'.cell? ⟨w.heap.size, 2, none⟩ = some (.slice A n c) ∧ (Instr.lookup 94 (.map (some bm)) (.int .i64 i) true).run Tryz.prog w' = .ok (.tuple #[.agg #[.int .i64 i9, .int .i32 t9, .slice A9 n9 c9], .bool true]) w'))
    ((first | assumption | exact HSO _ (drew_self _) | exact HSO _ (Below.drew ((Below.refl _ w1).alloc (Nat.le_refl _) _)) | exact HSO _ (Below.alloc (And.left (by assumption)) (And.left (by assumption) : Below w1.heap.size w1 _).size _) | exact HSO _ (Below.setCell (Below.setCell (Below.setCell (And.left (by assumption)) (by omega) _) (by omega) _) (by omega) _)))
    (fail)
  all_goals (
    have HQ := Lib.hid (HB.out.trans ((And.left (by assumption) : Below w1.heap.size w1 _).mono HB.out.size))
    go_wp2_with fail
    go_ret
    exact ⟨rfl, HQ.out⟩)
open Classical in
set_option maxRecDepth 100000 in
set_option maxHeartbeats 2000000 in
theorem open_new (bt bm : Nat) (E : List EntV) (own : List Nat) (i tm : Int) (A : Option Addr) (n c : Nat) (l : List IdV) (w : World) (hE : Env w) (h : TabAt w bt bm E own) (hs : SesOk w (i, tm, A, n, c) l 1048576) (hr : rightS (i, tm, l)) (hnew : ∀ e ∈ E, e.1.1 ≠ i) (hl : ∀ w' : World, w'.heap[bm]? = w.heap[bm]? → (Instr.lookup 94 (.map (some bm)) (.int .i64 i) true).run Tryz.prog w' = .ok (.tuple #[.agg #[.int .i64 0, .int .i32 0, .slice none 0 0], .bool false]) w') : Calls Tryz.prog 26 #[.pointer (some ⟨bt, 0, none⟩), .agg #[.int .i64 i, .int .i32 tm, .slice A n c]] w fun e w' => e = .returned (.int .i64 0) ∧ (∃ own', Tab w' bt (E.map toP ++ [(i, tm, l)]) own' ∧ ∀ g ∈ own', g ∈ own ∨ w.heap.size ≤ g) ∧ Fr own w w' := by
  have hbt : bt < w.heap.size := h.lt bt h.bt_
  have hbm : bm < w.heap.size := h.lt bm h.bm_
  have k0 : w.cell? ⟨bt, 0, none⟩ = some (.map (some bm)) := by rw [cellH h.cell]; rfl
  have hb0 : Below w.heap.size w (w.alloc (.cells #[.int .i64 i, .int .i32 tm, .slice A n c] 56)) := (Below.refl _ w).alloc (Nat.le_refl _) _
  have z0 : (w.alloc (.cells #[.int .i64 i, .int .i32 tm, .slice A n c] 56)).cell? ⟨w.heap.size, 0, none⟩ = some (.int .i64 i) := by simp
  have z1 : (w.alloc (.cells #[.int .i64 i, .int .i32 tm, .slice A n c] 56)).cell? ⟨w.heap.size, 1, none⟩ = some (.int .i32 tm) := by simp
  have z2 : (w.alloc (.cells #[.int .i64 i, .int .i32 tm, .slice A n c] 56)).cell? ⟨w.heap.size, 2, none⟩ = some (.slice A n c) := by simp
  have cR := right_any i tm A n c l (w.alloc (.cells #[.int .i64 i, .int .i32 tm, .slice A n c] 56)) (hE.later hb0) ⟨hs.1, hs.2.1, hs.2.2.1.belowMore hb0 hb0.size, hs.2.2.2.1, hs.2.2.2.2⟩
  rw [decide_eq_true hr] at cR
  have HT := Lib.hid h; have HS := Lib.hid hs; have HNEW := Lib.hid hnew; have HRT := Lib.hid hr
  have hln : l.length = n := hs.2.2.1.len
  have HLN := Lib.hid hln
  clear h hs hE hnew hr hln
  go_enter Tryz.func26, Tryz.ntmps26
  go_wp2_with fail
  refine cR.mono ?_
  rintro e w1 ⟨rfl, hb1⟩
  have y0 := keep1 z0 hb1
  have y1 := keep1 z1 hb1
  have y2 := keep1 z2 hb1
  have kb := keep1 ((hb0.cell (p := ⟨bt, 0, none⟩) hbt).trans k0) hb1
  have hB := hb0.trans (hb1.mono hb0.size)
  have HB := Lib.hid hB
  have HSO : ∀ w', Below w1.heap.size w1 w' → (Below w1.heap.size w1 w' ∧ w'.cell? ⟨bt, 0, none⟩ = some (.map (some bm)) ∧ w'.cell? ⟨w.heap.size, 0, none⟩ = some (.int .i64 i) ∧ w'.cell? ⟨w.heap.size, 1, none⟩ = some (.int .i32 tm) ∧ w'.cell? ⟨w.heap.size, 2, none⟩ = some (.slice A n c) ∧ (Instr.lookup 94 (.map (some bm)) (.int .i64 i) true).run Tryz.prog w' = .ok (.tuple #[.agg #[.int .i64 0, .int .i32 0, .slice none 0 0], .bool false]) w') := fun w' hb =>
    ⟨hb, keep1 kb hb, keep1 y0 hb, keep1 y1 hb, keep1 y2 hb, hl w' ((hb.block bm (Nat.lt_of_lt_of_le hbm hB.size)).trans (hB.block bm hbm))⟩
  clear z0 z1 z2 k0 hb1 hB hb0 hl
  go_wp2_with fail
  go_region_held3 (fun w' => (Below w1.heap.size w1 w' ∧ w'.cell? ⟨bt, 0, none⟩ = some (.map (some bm)) ∧ w'.cell? ⟨w.heap.size, 0, none⟩ = some (.int .i64 i) ∧ w'.cell? ⟨w.heap.size, 1, none⟩ = some (.int .i32 tm) ∧ w'.cell? ⟨w.heap.size, 2, none⟩ = some (.slice A n c) ∧ (Instr.lookup 94 (.map (some bm)) (.int .i64 i) true).run Tryz.prog w' = .ok (.tuple #[.agg #[.int .i64 0, .int .i32 0, .slice none 0 0], .bool false]) w'))
    ((first | assumption | exact HSO _ (drew_self _) | exact HSO _ (Below.drew ((Below.refl _ w1).alloc (Nat.le_refl _) _)) | exact HSO _ (Below.alloc (And.left (by assumption)) (And.left (by assumption) : Below w1.heap.size w1 _).size _)))
    (fail)
  all_goals (
    have hq := (And.left (by assumption) : Below w1.heap.size w1 _)
    obtain ⟨_, x1, x2, x3, x4, _⟩ := HSO _ hq
    have HQ := Lib.hid (HB.out.trans (hq.mono HB.out.size))
    clear HSO hq)
  all_goals (
    go_wp2_with fail
    generalize (w1.alloc (.cells #[.int .i64 0, .int .i32 0, .slice none 0 0] 56)).drew = W2 at *
    go_region_with (first
      | (go_at_call 48; refine (sesOwn_any i tm A n c l _ (HS.out.2.2.1.belowMore HQ.out.drew HQ.out.drew.size) HS.out.2.2.2.1.1 HS.out.2.2.2.2.1).mono ?_; rintro e w3 ⟨⟨A3, c3, rfl, hr3⟩, hb3⟩; have v1 := keep1 (show W2.drew.cell? ⟨bt, 0, none⟩ = _ from x1) hb3; have v2 := keep1 (show W2.drew.cell? ⟨w.heap.size, 0, none⟩ = _ from x2) hb3; have v3 := keep1 (show W2.drew.cell? ⟨w.heap.size, 1, none⟩ = _ from x3) hb3; have v4 := keep1 (show W2.drew.cell? ⟨w.heap.size, 2, none⟩ = _ from x4) hb3; have hB3 := HQ.out.trans ((drew_self W2).trans (hb3.mono (Nat.le_refl _)) |>.mono HQ.out.size); have HB3 := Lib.hid hB3; have HR3 := Lib.hid (hr3.base (b' := w.heap.size) HQ.out.size); obtain ⟨w4, l4, r4, m4, g4, z4, e4⟩ := (HT.out.map.of_heap (hB3.block bm hbm)).update Tryz.underlying94 HS.out.1 (.agg #[.int .i64 i, .int .i32 tm, .slice A3 n c3]); have HF := Lib.hid (HT.out.ins (z := (i, tm, A3, n, c3)) (l := l) HB3.out HS.out.1 HS.out.2.1 HNEW.out (A := A3) (c := c3) (by rw [HLN.out]; exact HR3.out) HRT.out.2.2.2.1 (by rw [HLN.out]; exact HS.out.2.2.2.2.2) (by rw [HLN.out]; exact r4)); clear hB3 m4 g4 e4 hb3 hr3))
    all_goals (
      go_wp2_with fail
      go_ret
      obtain ⟨own2, t1, t2, t3⟩ := HF.out
      exact ⟨rfl, ⟨own2, ⟨bm, _, t1, by rw [List.map_append]; rfl⟩, t2⟩, t3⟩))
theorem open_any (bt : Nat) (T : List SesP) (own : List Nat) (i tm : Int) (A : Option Addr) (n c : Nat) (l : List IdV) (w : World) (hE : Env w) (h : Tab w bt T own) (hs : SesOk w (i, tm, A, n, c) l 1048576) : Calls Tryz.prog 26 #[.pointer (some ⟨bt, 0, none⟩), .agg #[.int .i64 i, .int .i32 tm, .slice A n c]] w (TabPost (.int .i64 (openC T (i, tm, l))) (openT T (i, tm, l)) bt own w) := by
  obtain ⟨bm, E, h, rfl⟩ := h
  unfold openC openT
  by_cases hr : rightS (i, tm, l)
  · rw [if_pos hr, if_pos hr]
    have hmem : ∀ x : Int, x ∈ (E.map toP).map (·.1) ↔ ∃ e ∈ E, e.1.1 = x := fun x => by
      rw [List.map_map, List.mem_map]; rfl
    rcases h.look hs.1 with ⟨e, he, e1, hl⟩ | ⟨hn, hl⟩
    · rw [if_pos ((hmem _).2 ⟨e, he, e1⟩), if_pos ((hmem _).2 ⟨e, he, e1⟩)]
      refine (open_old bt bm E own i tm A n c l w hE h hs hr e hl).mono ?_
      rintro e w' ⟨rfl, hb⟩
      exact ⟨rfl, ⟨own, ⟨bm, E, h.below hb, rfl⟩, fun g hg => .inl hg⟩, Fr.of_below hb⟩
    · have hno : ¬ (i, tm, l).1 ∈ (E.map toP).map (·.1) := fun hm => by
        obtain ⟨e, he, e1⟩ := (hmem _).1 hm
        exact hn e he e1
      rw [if_neg hno, if_neg hno]
      exact open_new bt bm E own i tm A n c l w hE h hs hr hn hl
  · rw [if_neg hr, if_neg hr]
    refine (open_bad bt bm E own i tm A n c l w hE h hs hr).mono ?_
    rintro e w' ⟨rfl, hb⟩
    exact ⟨rfl, ⟨own, ⟨bm, E, h.below hb, rfl⟩, fun g hg => .inl hg⟩, Fr.of_below hb⟩
end Go.Proofs.YtfnigjeklcagnaaGreatDoor
namespace Go.Proofs.YtfnigjeklcagnaaGreatDoor
open Go.RowKit Go.MapKept Go.Maps
open Classical in
noncomputable def closeC (T : List SesP) (i : Int) : Int := if i ∈ T.map (·.1) then 0 else 80
def closeT (T : List SesP) (i : Int) : List SesP := T.filter fun s => decide (s.1 ≠ i)
theorem tab_keys (E : List EntV) (x : Int) : x ∈ (E.map toP).map (·.1) ↔ ∃ e ∈ E, e.1.1 = x := by
  rw [List.map_map, List.mem_map]; rfl
theorem TabAt.del {w w2 : World} {bt bm : Nat} {E : List EntV} {own : List Nat} {i : Int} (h : TabAt w bt bm E own) (hi : wfI i) {ty : TypeId} {r : Value} (hu : (Builtin.delete_ #[94, 2] ty #[.map (some bm), .int .i64 i]).run Tryz.prog w = .ok r w2) :
    TabAt w2 bt bm (E.filter fun e => decide (e.1.1 ≠ i)) own ∧ Fr own w w2 := by
  obtain ⟨w4, l4, r4, m4, g4, z4, e4⟩ := h.map.delete (ty := ty) Tryz.underlying94 hi
  rw [hu] at r4
  have hw : w2 = w4 := by
    simp only [Result.ok.injEq] at r4
    exact r4.2
  subst hw
  have hF : Fr [bm] w w2 := Fr.of_grown g4 (by simp)
  have hl4 : l4 = (E.filter fun e => decide (e.1.1 ≠ i)).map fun e => (e.1.1, entV e) := by
    rw [e4, List.filter_map]; rfl
  rw [hl4] at m4
  refine ⟨⟨?_, m4, h.bt_, h.bm_, h.ne, fun g hg => Nat.lt_of_lt_of_le (h.lt g hg) hF.size, fun e he => ?_, fun g hg => ?_⟩, (Fr.refl own w).trans hF (fun g hg => .inl (by rw [List.mem_singleton.1 hg]; exact h.bm_))⟩
  · exact (hF.block bt (h.lt bt h.bt_) (by simpa using h.ne)).trans h.cell
  · exact (h.ent e (List.mem_filter.1 he).1).keep (fun _ hg => hg) fun p hp _ hne => hF.cell (h.lt _ hp) (by simpa using hne)
  · by_cases hgm : g = bm
    · subst hgm
      exact mapI_noSes m4
    · intro cs f
      rw [hF.block g (h.lt g hg) (by simpa using hgm)]
      exact h.kind g hg cs f
set_option maxRecDepth 100000 in
set_option maxHeartbeats 1000000 in
theorem close_any (bt : Nat) (T : List SesP) (own : List Nat) (i : Int) (hi : wfI i) (w : World) (h : Tab w bt T own) : Calls Tryz.prog 32 #[.pointer (some ⟨bt, 0, none⟩), .int .i64 i] w (TabPost (.int .i64 (closeC T i)) (closeT T i) bt own w) := by
  obtain ⟨bm, E, h, rfl⟩ := h
  have hbt : bt < w.heap.size := h.lt bt h.bt_
  have hbm : bm < w.heap.size := h.lt bm h.bm_
  have k0 : w.cell? ⟨bt, 0, none⟩ = some (.map (some bm)) := by rw [cellH h.cell]; rfl
  unfold closeC closeT
  have HT := Lib.hid h
  rcases h.look hi with ⟨⟨⟨i9, t9, A9, n9, c9⟩, l9⟩, he, e1, hl⟩ | ⟨hn, hl⟩
  · rw [if_pos ((tab_keys E i).2 ⟨_, he, e1⟩)]
    unfold entV at hl
    simp only at hl
    have hb1 : Below w.heap.size w (w.alloc (.cells #[.int .i64 i9, .int .i32 t9, .slice A9 n9 c9] 56)) := (Below.refl _ w).alloc (Nat.le_refl _) _
    have h1 := h.below hb1
    obtain ⟨w4, l4, r4, _⟩ := h1.map.delete (ty := 0) Tryz.underlying94 hi
    obtain ⟨hd1, hd2⟩ := h1.del hi r4
    have HD := Lib.hid hd1; have HF := Lib.hid ((Fr.of_below (own := own) hb1).trans hd2 (fun g hg => .inl hg))
    clear h he e1 hb1 h1 hd1 hd2
    go_enter Tryz.func32, Tryz.ntmps32
    go_wp2_with fail
    go_ret
    exact ⟨rfl, ⟨own, ⟨bm, _, HD.out, by rw [List.filter_map]; rfl⟩, fun g hg => .inl hg⟩, HF.out⟩
  · rw [if_neg (fun hm => by
      obtain ⟨e, he, e1⟩ := (tab_keys E i).1 hm
      exact hn e he e1)]
    have HE := Lib.hid (show (E.map toP).filter (fun s => decide (s.1 ≠ i)) = E.map toP by
      rw [List.filter_eq_self]
      intro x hx
      obtain ⟨e, he, rfl⟩ := List.mem_map.1 hx
      exact decide_eq_true (show e.1.1 ≠ i from hn e he))
    have HB := Lib.hid (fun o => (Below.refl w.heap.size w).alloc (Nat.le_refl _) o)
    clear h hn
    go_enter Tryz.func32, Tryz.ntmps32
    go_wp2_with fail
    go_ret
    exact ⟨rfl, ⟨own, ⟨bm, E, HT.out.below (HB.out _), HE.out.symm⟩, fun g hg => .inl hg⟩, Fr.of_below (HB.out _)⟩
def GetPost (T : List SesP) (i : Int) (w : World) (e : Ending) (w' : World) : Prop := ∃ (p : SesP) (b : Bool) (A : Option Addr) (c : Nat), e = .returned (.tuple #[.agg #[.int .i64 p.1, .int .i32 p.2.1, .slice A p.2.2.length c], .bool b]) ∧ RowId w' w.heap.size A p.2.2.length c p.2.2 ∧ ((b = true ∧ p ∈ T ∧ p.1 = i) ∨ (b = false ∧ i ∉ T.map (·.1) ∧ p = (0, 0, []))) ∧ Below w.heap.size w w'
def GetGo (i9 t9 : Int) (n9 : Nat) (l9 : List IdV) (b : Bool) (w : World) (e : Ending) (w' : World) : Prop := (∃ A c, e = .returned (.tuple #[.agg #[.int .i64 i9, .int .i32 t9, .slice A n9 c], .bool b]) ∧ RowId w' w.heap.size A n9 c l9) ∧ Below w.heap.size w w'
set_option maxRecDepth 100000 in
set_option maxHeartbeats 1000000 in
theorem get_go (bt bm : Nat) (i i9 t9 : Int) (A9 : Option Addr) (n9 c9 : Nat) (l9 : List IdV) (b : Bool) (w : World) (hbt : bt < w.heap.size) (hbm : bm < w.heap.size) (k0 : w.cell? ⟨bt, 0, none⟩ = some (.map (some bm))) (hz : Sl w w.heap.size encId 2 A9 n9 l9) (hA : A9 = none → n9 = 0 ∧ c9 = 0) (hn : n9 ≤ 1048576)
    (hl : ∀ w' : World, w'.heap[bm]? = w.heap[bm]? → (Instr.lookup 94 (.map (some bm)) (.int .i64 i) true).run Tryz.prog w' = .ok (.tuple #[.agg #[.int .i64 i9, .int .i32 t9, .slice A9 n9 c9], .bool b]) w') :
    Calls Tryz.prog 33 #[.pointer (some ⟨bt, 0, none⟩), .int .i64 i] w (GetGo i9 t9 n9 l9 b w) := by
  have r1 := hl (w.alloc (.cells #[.int .i64 0, .int .i32 0, .slice none 0 0] 56)) (Below.heap_alloc _ _ bm hbm)
  have hb1 : Below w.heap.size w (w.alloc (.cells #[.int .i64 0, .int .i32 0, .slice none 0 0] 56)) := (Below.refl _ w).alloc (Nat.le_refl _) _
  have hb0 : Below w.heap.size w ((w.alloc (.cells #[.int .i64 0, .int .i32 0, .slice none 0 0] 56)).alloc (.cells #[.int .i64 i9, .int .i32 t9, .slice A9 n9 c9] 56)) := hb1.alloc hb1.size _
  have h0 : ((w.alloc (.cells #[.int .i64 0, .int .i32 0, .slice none 0 0] 56)).alloc (.cells #[.int .i64 i9, .int .i32 t9, .slice A9 n9 c9] 56)).heap[w.heap.size]? = some (.cells #[.int .i64 0, .int .i32 0, .slice none 0 0] 56 (0, 0)) :=
    ((Below.refl _ _).alloc (Nat.le_refl _) _ |>.block w.heap.size (by simp)).trans (heap_alloc_new w _)
  have HSZ : Hid (((w.alloc (.cells #[.int .i64 0, .int .i32 0, .slice none 0 0] 56)).alloc (.cells #[.int .i64 i9, .int .i32 t9, .slice A9 n9 c9] 56)).heap.size = w.heap.size + 2) := Lib.hid (by simp)
  have HZ := Lib.hid (hz.belowMore hb0 hb0.size); have HB := Lib.hid hb0; have H0 := Lib.hid h0
  clear hz hl hb0 hb1 h0
  go_enter Tryz.func33, Tryz.ntmps33
  go_wp2_with fail
  refine (sesOwn_any i9 t9 A9 n9 c9 l9 _ HZ.out hA hn).mono ?_
  generalize ((w.alloc (.cells #[.int .i64 0, .int .i32 0, .slice none 0 0] 56)).alloc (.cells #[.int .i64 i9, .int .i32 t9, .slice A9 n9 c9] 56)) = W at *
  rintro e w1 ⟨⟨A1, c1, rfl, hr⟩, hb1⟩
  have g0 := (hb1.block w.heap.size (by rw [HSZ.out]; omega)).trans H0.out
  have x0 : w1.cell? ⟨w.heap.size, 0, none⟩ = some (.int .i64 0) := by rw [cellH g0]; rfl
  have x1 : w1.cell? ⟨w.heap.size, 1, none⟩ = some (.int .i32 0) := by rw [cellH g0]; rfl
  have x2 : w1.cell? ⟨w.heap.size, 2, none⟩ = some (.slice none 0 0) := by rw [cellH g0]; rfl
  have e0 : w1.frozen? ⟨w.heap.size, 0, none⟩ = false := by simp [World.frozen?, g0]
  have e1 : w1.frozen? ⟨w.heap.size, 1, none⟩ = false := by simp [World.frozen?, g0]
  have e2 : w1.frozen? ⟨w.heap.size, 2, none⟩ = false := by simp [World.frozen?, g0]
  have G := Lib.hid g0
  have HR := Lib.hid hr; have HB1 := Lib.hid hb1
  clear hr hb1 g0
  go_wp2_with fail
  have hF : Fr [w.heap.size] w1 (((w1.setCell ⟨w.heap.size, 0, none⟩ (.int .i64 i9)).setCell ⟨w.heap.size, 1, none⟩ (.int .i32 t9)).setCell ⟨w.heap.size, 2, none⟩ (.slice A1 n9 c1)) := (((Fr.refl _ w1).set (by simp) 0 _).set (by simp) 1 _).set (by simp) 2 _
  have hC : (((w1.setCell ⟨w.heap.size, 0, none⟩ (.int .i64 i9)).setCell ⟨w.heap.size, 1, none⟩ (.int .i32 t9)).setCell ⟨w.heap.size, 2, none⟩ (.slice A1 n9 c1)).heap[w.heap.size]? = some (.cells #[.int .i64 i9, .int .i32 t9, .slice A1 n9 c1] 56 (0, 0)) :=
    heap_setN (heap_setN (heap_setN G.out _) _) _
  generalize (((w1.setCell ⟨w.heap.size, 0, none⟩ (.int .i64 i9)).setCell ⟨w.heap.size, 1, none⟩ (.int .i32 t9)).setCell ⟨w.heap.size, 2, none⟩ (.slice A1 n9 c1)) = V at *
  have q0 : V.cell? ⟨w.heap.size, 0, none⟩ = some (.int .i64 i9) := by rw [cellH hC]; rfl
  have q1 : V.cell? ⟨w.heap.size, 1, none⟩ = some (.int .i32 t9) := by rw [cellH hC]; rfl
  have q2 : V.cell? ⟨w.heap.size, 2, none⟩ = some (.slice A1 n9 c1) := by rw [cellH hC]; rfl
  have hR : RowId V w.heap.size A1 n9 c1 l9 := RowId.base (b := W.heap.size) (own_fr HR.out hF (fun g hg => by rw [HSZ.out]; simp at hg; omega)) (by rw [HSZ.out]; omega)
  have hB : Below w.heap.size w V := (HB.out.trans (HB1.out.mono HB.out.size)).trans (hF.below (Nat.le_trans HB.out.size HB1.out.size) (fun g hg => by simp at hg; omega))
  (try simp only [Exit.inBlock, Exit.then])
  refine bodyPost_ret ((results_cell_tmp rfl _ _ _).trans ?_) rfl ⟨⟨A1, c1, rfl, hR⟩, hB⟩
  go_simp
theorem get_any (bt : Nat) (T : List SesP) (own : List Nat) (i : Int) (hi : wfI i) (w : World) (h : Tab w bt T own) : Calls Tryz.prog 33 #[.pointer (some ⟨bt, 0, none⟩), .int .i64 i] w (GetPost T i w) := by
  obtain ⟨bm, E, h, rfl⟩ := h
  have hbt : bt < w.heap.size := h.lt bt h.bt_
  have hbm : bm < w.heap.size := h.lt bm h.bm_
  have k0 : w.cell? ⟨bt, 0, none⟩ = some (.map (some bm)) := by rw [cellH h.cell]; rfl
  rcases h.look hi with ⟨⟨⟨i9, t9, A9, n9, c9⟩, l9⟩, he, e1, hl⟩ | ⟨hn, hl⟩
  · have hent := h.ent _ he
    have hl9 : l9.length = n9 := hent.2.2.1
    refine (get_go bt bm i i9 t9 A9 n9 c9 l9 true w hbt hbm k0 (hent.sl h.lt) hent.2.2.2.1.1 (by have := hent.2.2.2.2.1; simp only at this; omega) hl).mono ?_
    rintro e w' ⟨⟨A, c, rfl, hr⟩, hb⟩
    subst hl9
    exact ⟨(i9, t9, l9), true, A, c, rfl, hr, .inl ⟨rfl, List.mem_map.2 ⟨_, he, rfl⟩, e1⟩, hb⟩
  · refine (get_go bt bm i 0 0 none 0 0 [] false w hbt hbm k0 Sl.nil_ (fun _ => ⟨rfl, rfl⟩) (by decide) hl).mono ?_
    rintro e w' ⟨⟨A, c, rfl, hr⟩, hb⟩
    exact ⟨(0, 0, []), false, A, c, rfl, hr, .inr ⟨rfl, fun hm => by
      obtain ⟨e, he, e1⟩ := (tab_keys E i).1 hm
      exact hn e he e1, rfl⟩, hb⟩
end Go.Proofs.YtfnigjeklcagnaaGreatDoor
