/- The walks of acl.list.put and acl.Fix. Condition: texts and lists below 2^30. -/
import Derived.Test.YtibklpbnjpefnaaGreatDoorMap
import Derived.Test.YtibklpbnjpefnaaGreatDoorAclF
import Derived.Test.YtibklpbnjpefnaaGreatDoorAclQ
import Derived.StillTailTactics
import Derived.Deep.RegionHeld3
import Derived.Deep.RegionLaw
import Derived.Deep.AppendLies
import Derived.Maps.AppendAt
namespace Go.Proofs.YtibklpbnjpefnaaGreatDoor
open Go.RowKit Go.Maps

theorem laidOutM : laidOutB Tryz.prog = true := by kernel_rfl
theorem lawAcl : Keyed Tryz.prog 71 := Keyed.of_law (deep_law_laid laidOutM (m := 3) (by omega) (of_decide_eq_true (by kernel_rfl)) (by kernel_rfl) (by rw [Tryz.underlying71]))
def okKey (a : AclV) : Prop := -2147483648 ≤ a.1 ∧ a.1 ≤ 2147483647 ∧ a.2.1.size ≤ 1073741824 ∧ a.2.2.size ≤ 1073741824
theorem keyAcl (a : AclV) (h : okKey a) : ∃ kl, keyOf Tryz.prog 71 (.agg (encAcl a).toArray) = some kl := by
  obtain ⟨p, s, t⟩ := a
  obtain ⟨h1, h2, h3, h4⟩ := h
  simp only [] at h1 h2 h3 h4
  have hk : Tryz.prog.keyType 71 = true := by kernel_rfl
  have c3 : Tryz.prog.cellsOf 71 = 3 := by kernel_rfl
  have c2 : Tryz.prog.cellsOf 69 = 2 := by kernel_rfl
  have c1 : Tryz.prog.cellsOf 9 = 1 := by kernel_rfl
  have c0 : Tryz.prog.cellsOf 21 = 1 := by kernel_rfl
  have u3 := Tryz.underlying71
  have u2 := Tryz.underlying69
  have u1 := Tryz.underlying9
  have u0 := Tryz.underlying21
  have hm1 : s.size ≤ maxLen := by unfold maxLen; omega
  have hm2 : t.size ≤ maxLen := by unfold maxLen; omega
  have hw : (Lit.int .i32 p).wf = true := by simp [Lit.wf, IntKind.min, IntKind.max, IntKind.bits, IntKind.signed]; omega
  have hf : (Value.agg (encAcl (p, s, t)).toArray).formed Tryz.prog 71 = true := by
    simp [Value.formed, u3, encAcl, c3]
  have hl : ∃ ls, Tryz.prog.keyLits (Tryz.prog.types.size + 1) 71 (Value.agg (encAcl (p, s, t)).toArray).cells.toList = some ls := by
    have h2 : 2 ≤ Tryz.prog.types.size := of_decide_eq_true (by kernel_rfl)
    obtain ⟨m, hm⟩ : ∃ m, Tryz.prog.types.size + 1 = m + 3 := ⟨Tryz.prog.types.size - 2, by omega⟩
    rw [hm]
    simp [Program.keyLits, u3, u2, u1, u0, c3, c2, c1, c0, encAcl, Value.cells, hm1, hm2, hw]
    rw [if_pos (by decide)]
    exact ⟨_, rfl⟩
  obtain ⟨ls, hl⟩ := hl
  unfold keyOf
  rw [Tryz.underlying71]
  simp only [hk, hf, hl, Bool.and_self, if_true, Option.map_some]
  exact ⟨_, rfl⟩

/-- the list 'acl.list' at block bo (its map at block bm) holds these entries, each once -/
structure ListIs (w : World) (base bo bm : Nat) (v : Value) (out : List AclV) : Prop where
  cells : w.heap[bo]? = some (.cells #[v, .map (some bm)] 123 (0, 0))
  own : w.ownsRow base 71 3 v out.length (out.flatMap encAcl)
  map : ∃ l : List (Value × Value), MapV w Tryz.prog 71 bm l ∧ l.map (·.1) = out.map (fun a => Value.agg (encAcl a).toArray)
  lo : base ≤ bo ∧ base ≤ bm
theorem grown_of_below2 {a w : World} (h : Below a.heap.size a w) (row : Option Nat) : a.grownBy w row := ⟨h.os, h.tape, h.output, h.size, fun i hi _ => h.block i hi⟩
theorem own_below {w w' : World} {base : Nat} {e : TypeId} {size n : Nat} {v : Value} {xs : List Value} (h : w.ownsRow base e size v n xs) (hb : Below w.heap.size w w') : w'.ownsRow base e size v n xs :=
  h.kept (grown_of_below2 hb none) (by cases hv : v.ownBlock <;> simp)
theorem ListIs.below {w w' : World} {base bo bm : Nat} {v : Value} {out : List AclV} (h : ListIs w base bo bm v out) (hb : Below w.heap.size w w') : ListIs w' base bo bm v out :=
  ⟨(hb.block bo (Array.getElem?_eq_some_iff.1 h.cells).1).trans h.cells, own_below h.own hb, by obtain ⟨l, hm, hl⟩ := h.map; exact ⟨l, hm.below hb hm.lt, hl⟩, h.lo⟩
/-- what 'put' leaves: the list; its row is the old one or a new block; every other block is as it was -/
def PutPost (base bo bm : Nat) (v : Value) (out : List AclV) (w : World) (e : Ending) (w' : World) : Prop := e = .returned (.tuple #[]) ∧ (∃ v', ListIs w' base bo bm v' out ∧ (v'.ownBlock = v.ownBlock ∨ ∃ g, w.heap.size ≤ g ∧ v'.ownBlock = some g)) ∧ Below base w w' ∧
  ∀ g, g < w.heap.size → g ≠ bo → g ≠ bm → v.ownBlock ≠ some g → w'.heap[g]? = w.heap[g]?
theorem setCell_row {w : World} {b : Nat} {C : Array Value} {t : TypeId} {fz : Nat × Nat} (h : w.heap[b]? = some (.cells C t fz)) (j : Nat) (v : Value) : (w.setCell ⟨b, j, none⟩ v).heap[b]? = some (.cells (C.setIfInBounds j v) t fz) := by
  simp [World.setCell, Array.getElem?_modify, h]
theorem grown_setCell (w : World) (p : Addr) (u : Value) : w.grownBy (w.setCell p u) (some p.block) :=
  ⟨rfl, rfl, rfl, by simp [World.setCell], fun i _ hne => Below.heap_setCell w p u i (fun e => hne (by rw [e]))⟩
/-- what the last statement of 'put' leaves -/
theorem put_end {w W w2 w3 : World} {base bo bm gg cap : Nat} {A : Option Addr} {c : Nat} {out : List AclV} {a : AclV} {l : List (Value × Value)} {x : Value} {O : Obj}
    (hB : base ≤ w.heap.size) (hlo : base ≤ bo ∧ base ≤ bm) (hbW : Below w.heap.size w W) (hbo : bo < w.heap.size) (hbm : bm < w.heap.size) (hne : bo ≠ bm)
    (hml : l.map (·.1) = out.map (fun a => Value.agg (encAcl a).toArray)) (hm2 : MapV w2 Tryz.prog 71 bm (l ++ [(.agg (encAcl a).toArray, x)])) (hg2 : W.drew.grownBy w2 (some bm))
    (hf2 : w2.heap[bo]? = some (.cells #[.slice A out.length c, .map (some bm)] 123 (0, 0)))
    (hbl : ∀ g, (Value.slice A out.length c).ownBlock = some g → g < w.heap.size ∧ g ≠ bm ∧ g ≠ bo) (hown0 : w.ownsRow base 71 3 (.slice A out.length c) out.length (out.flatMap encAcl))
    (hown3 : w3.ownsRow base 71 3 (.slice (some ⟨gg, 0, none⟩) (out.length + 1) cap) (out.length + 1) (out.flatMap encAcl ++ encAcl a)) (hgrow : (w2.alloc O).drew.grownBy w3 (Value.slice A out.length c).ownBlock)
    (hat : (Value.slice A out.length c).ownBlock = some gg ∨ gg = w2.heap.size + 1) :
    (∃ v', ListIs (w3.setCell ⟨bo, 0, none⟩ (.slice (some ⟨gg, 0, none⟩) (out.length + 1) cap)) base bo bm v' (out ++ [a]) ∧ (v'.ownBlock = (Value.slice A out.length c).ownBlock ∨ ∃ g, w.heap.size ≤ g ∧ v'.ownBlock = some g)) ∧ Below base w (w3.setCell ⟨bo, 0, none⟩ (.slice (some ⟨gg, 0, none⟩) (out.length + 1) cap)) ∧
      ∀ g, g < w.heap.size → g ≠ bo → g ≠ bm → (Value.slice A out.length c).ownBlock ≠ some g → (w3.setCell ⟨bo, 0, none⟩ (.slice (some ⟨gg, 0, none⟩) (out.length + 1) cap)).heap[g]? = w.heap[g]? := by
  have s1 : w.heap.size ≤ W.heap.size := hbW.size
  have s2 : W.heap.size ≤ w2.heap.size := hg2.size
  have s3 : (w2.alloc O).drew.heap.size = w2.heap.size + 1 := by show (w2.alloc O).heap.size = _; simp
  have hggbo : gg ≠ bo := by
    rcases hat with h | h
    · exact (hbl gg h).2.2
    · omega
  have hggbm : gg ≠ bm := by
    rcases hat with h | h
    · exact (hbl gg h).2.1
    · omega
  have f1 : (w2.alloc O).drew.heap[bo]? = w2.heap[bo]? := Below.heap_alloc w2 O bo (by omega)
  have f3 : w3.heap[bo]? = some (.cells #[.slice A out.length c, .map (some bm)] 123 (0, 0)) :=
    (hgrow.block bo (by omega) (fun e => (hbl bo e.symm).2.2 rfl)).trans (f1.trans hf2)
  have m1 : MapV (w2.alloc O).drew Tryz.prog 71 bm (l ++ [(.agg (encAcl a).toArray, x)]) := hm2.alloc O
  have m3 := m1.kept hgrow (fun e => (hbl bm e.symm).2.1 rfl)
  have hbase2 : Below base w w2 := ((hbW.mono hB).trans (⟨rfl, rfl, rfl, Nat.le_refl _, fun _ _ => rfl⟩ : Below base W W.drew)).grown hg2 (by show base ≤ W.heap.size; omega) (fun k hk => by cases hk; exact hlo.2)
  have hbase3 : Below base w w3 := ((hbase2.alloc (by omega) O).trans (⟨rfl, rfl, rfl, Nat.le_refl _, fun _ _ => rfl⟩ : Below base (w2.alloc O) (w2.alloc O).drew)).grown hgrow (by omega) (fun k hk => by
    rcases hown0.2 with ⟨e, _⟩ | ⟨g', cap, cur, e, hge, _⟩
    · rw [e] at hk; cases hk
    · rw [e] at hk
      have : g' = k := by simpa [Value.ownBlock] using hk
      omega)
  refine ⟨⟨.slice (some ⟨gg, 0, none⟩) (out.length + 1) cap, ⟨?_, ?_, ⟨_, m3.setCell (p := ⟨bo, 0, none⟩) (Ne.symm hne) _, ?_⟩, hlo⟩, ?_⟩, hbase3.setCell (p := ⟨bo, 0, none⟩) hlo.1 _, fun g hg h1 h2 h3 => ?_⟩
  · rw [setCell_row f3]; rfl
  · rw [List.length_append, List.flatMap_append]
    have := hown3.kept (grown_setCell w3 ⟨bo, 0, none⟩ (.slice (some ⟨gg, 0, none⟩) (out.length + 1) cap)) (.inr (by simp [Value.ownBlock]; exact hggbo))
    simpa using this
  · rw [List.map_append, List.map_append, hml]; rfl
  · rcases hat with h | h
    · left; rw [h]; rfl
    · exact .inr ⟨gg, by omega, rfl⟩
  · rw [Below.heap_setCell w3 ⟨bo, 0, none⟩ _ g h1, hgrow.block g (by omega) (fun e => h3 e.symm)]
    exact (Below.heap_alloc w2 O g (by omega)).trans ((hg2.block g (by show g < W.heap.size; omega) (fun e => h2 (by injection e))).trans (hbW.block g hg))
theorem infoAcl : (Tryz.prog.info? 71).map (fun i => (i.zero, i.size, i.bytes)) = some (some (.agg #[.int .i32 0, .string ⟨#[]⟩, .string ⟨#[]⟩]), 3, 40) := by kernel_rfl
theorem aggAcl_inj {a b : AclV} (h : (Value.agg (encAcl a).toArray) = .agg (encAcl b).toArray) : a = b := by
  obtain ⟨p, s, t⟩ := a
  obtain ⟨q, u, v⟩ := b
  simp [encAcl] at h
  obtain ⟨rfl, rfl, rfl⟩ := h
  rfl
theorem zeroInt (w : World) : (zeroValue 3).run Tryz.prog w = .ok (.int .i64 0) w := by kernel_rfl

set_option maxRecDepth 100000 in
set_option maxHeartbeats 2000000 in
theorem put_any (base bo bm : Nat) (v : Value) (out : List AclV) (p : Int) (s t : ByteArray) (w : World) (h : ListIs w base bo bm v out) (hk : okKey (p, s, t)) (hn : out.length ≤ 1073741824) (hB : base ≤ w.heap.size) :
    Calls Tryz.prog 73 #[.pointer (some ⟨bo, 0, none⟩), .agg #[.int .i32 p, .string s, .string t]] w (PutPost base bo bm v (putP out (p, s, t)) w) := by
  obtain ⟨kl, hkey⟩ := keyAcl (p, s, t) hk
  obtain ⟨l, hm, hml⟩ := h.map
  have hbo : bo < w.heap.size := (Array.getElem?_eq_some_iff.1 h.cells).1
  have hbm := hm.lt
  have k0 : w.cell? ⟨bo, 0, none⟩ = some v := by rw [Lib.cell_of_heap h.cells]; rfl
  have k1 : w.cell? ⟨bo, 1, none⟩ = some (.map (some bm)) := by rw [Lib.cell_of_heap h.cells]; rfl
  have hb0 : Below w.heap.size w (w.alloc (.cells #[.int .i32 p, .string s, .string t] 71)) := (Below.refl _ w).alloc (Nat.le_refl _) _
  have hmem : ∀ a : AclV, (∃ x, (Value.agg (encAcl a).toArray, x) ∈ l) ↔ a ∈ out := fun a => by
    constructor
    · rintro ⟨x, hx⟩
      have : (Value.agg (encAcl a).toArray) ∈ l.map (·.1) := List.mem_map.2 ⟨_, hx, rfl⟩
      rw [hml] at this
      obtain ⟨b, hb, e⟩ := List.mem_map.1 this
      rw [← aggAcl_inj e]; exact hb
    · intro ha
      have : (Value.agg (encAcl a).toArray) ∈ l.map (·.1) := by rw [hml]; exact List.mem_map.2 ⟨a, ha, rfl⟩
      obtain ⟨q, hq, e⟩ := List.mem_map.1 this
      exact ⟨q.2, by rw [← e]; exact hq⟩
  rcases hm.lookup lawAcl Tryz.underlying121 true zeroInt hkey with ⟨x, hx, hl⟩ | ⟨hno, hl⟩
  · have hin : out.any (fun b => decide (b = (p, s, t))) = true := List.any_eq_true.2 ⟨(p, s, t), (hmem _).1 ⟨x, hx⟩, by simp⟩
    have HP : Hid (putP out (p, s, t) = out) := Lib.hid (by unfold putP; rw [if_pos hin])
    have HL := Lib.hid (fun q => hl ((w.alloc (.cells #[.int .i32 p, .string s, .string t] 71)).drewN q) (hb0.block bm hbm))
    have hrun := HL.out
    simp only [encAcl, if_true] at hrun
    have H := Lib.hid h
    clear h hl hx hin hmem
    go_enter Tryz.func73, Tryz.ntmps73
    go_wp2
    go_quiet (fail)
    go_wp2
    go_end0
    exact ⟨rfl, ⟨v, by rw [HP.out]; exact H.out.below (drewN_below hb0 nq), .inl rfl⟩, (drewN_below hb0 nq).mono hB, fun g hg _ _ _ => (drewN_below hb0 nq).block g hg⟩
  · have hnin : out.any (fun b => decide (b = (p, s, t))) = false := by
      rw [Bool.eq_false_iff]
      intro hh
      obtain ⟨a, ha, he⟩ := List.any_eq_true.1 hh
      obtain rfl := of_decide_eq_true he
      obtain ⟨x, hx⟩ := (hmem _).2 ha
      exact hno _ hx rfl
    have HP : Hid (putP out (p, s, t) = out ++ [(p, s, t)]) := Lib.hid (by unfold putP; rw [if_neg (by rw [hnin]; simp)])
    have HL := Lib.hid (fun q => hl ((w.alloc (.cells #[.int .i32 p, .string s, .string t] 71)).drewN q) (hb0.block bm hbm))
    have hrun := HL.out
    simp only [encAcl, if_true] at hrun
    have H := Lib.hid h
    have HNO := Lib.hid hno
    obtain ⟨A, c, hv⟩ : ∃ A c, v = .slice A out.length c := by
      rcases h.own.2 with ⟨e, h0⟩ | ⟨g, cap, cur, e, _⟩
      · exact ⟨none, 0, by rw [e, h0]⟩
      · exact ⟨_, _, e⟩
    subst hv
    clear h hl hno hnin hmem
    go_enter Tryz.func73, Tryz.ntmps73
    go_wp2
    go_quiet (fail)
    go_wp2
    have hbW : Below w.heap.size w ((w.alloc (.cells #[.int .i32 p, .string s, .string t] 71)).drewN nq) := drewN_below hb0 nq
    have hsW : ((w.alloc (.cells #[.int .i32 p, .string s, .string t] 71)).drewN nq).heap.size = w.heap.size + 1 := by simp
    have aW : ((w.alloc (.cells #[.int .i32 p, .string s, .string t] 71)).drewN nq).heap[w.heap.size]? = some (.cells #[.int .i32 p, .string s, .string t] 71 (0, 0)) := (MapKept.heap_alloc _ _).1
    generalize (w.alloc (.cells #[.int .i32 p, .string s, .string t] 71)).drewN nq = W at *
    have c0 : W.cell? ⟨bo, 0, none⟩ = some (.slice A out.length c) := (hbW.cell (p := ⟨bo, 0, none⟩) hbo).trans k0
    have c1 : W.cell? ⟨bo, 1, none⟩ = some (.map (some bm)) := (hbW.cell (p := ⟨bo, 1, none⟩) hbo).trans k1
    have b0 : W.cell? ⟨w.heap.size, 0, none⟩ = some (.int .i32 p) := by rw [Lib.cell_of_heap aW]; rfl
    have b1 : W.cell? ⟨w.heap.size, 1, none⟩ = some (.string s) := by rw [Lib.cell_of_heap aW]; rfl
    have b2 : W.cell? ⟨w.heap.size, 2, none⟩ = some (.string t) := by rw [Lib.cell_of_heap aW]; rfl
    have HMW := Lib.hid (hm.below hbW hbm)
    have HSW := Lib.hid hsW
    have HAW := Lib.hid aW
    clear aW hsW hb0 hrun HL hm
    go_still_tail 10, (by kernel_rfl)
    change wpList _ _ _ _ _ W.drew
    obtain ⟨w2, l2, hrun2, hm2, hg2, hz2, hcase⟩ := MapV.update (val := .int .i64 (out.length : Int)) (show MapV W.drew _ _ _ _ from HMW.out) lawAcl Tryz.underlying121 hkey
    simp only [encAcl] at hrun2
    have hl2 : l2 = l ++ [(.agg (encAcl (p, s, t)).toArray, .int .i64 (out.length : Int))] := by
      rcases hcase with ⟨_, h⟩ | ⟨j, old, hj, _⟩
      · exact h
      · exact absurd rfl (HNO.out _ (List.mem_of_getElem? hj))
    have hne : bo ≠ bm := by
      rintro rfl
      obtain ⟨es, ck, hh, _⟩ := HMW.out
      rw [hbW.block _ hbo, H.out.cells] at hh
      cases hh
    have hownW : W.drew.ownsRow base 71 3 (.slice A out.length c) out.length (out.flatMap encAcl) := (own_below H.out.own hbW : W.ownsRow _ _ _ _ _ _)
    have hbl : ∀ g, (Value.slice A out.length c).ownBlock = some g → g < w.heap.size ∧ g ≠ bm ∧ g ≠ bo := by
      intro g hg
      rcases H.out.own.2 with ⟨e, _⟩ | ⟨g', cap, cur, e, hge, hh, _⟩
      · rw [e] at hg; cases hg
      · rw [e] at hg
        have : g' = g := by simpa [Value.ownBlock] using hg
        subst this
        refine ⟨(Array.getElem?_eq_some_iff.1 hh).1, ?_, ?_⟩
        · rintro rfl
          obtain ⟨es, ck, h2, _⟩ := HMW.out
          rw [hbW.block _ hbm, hh] at h2
          cases h2
        · rintro rfl
          rw [H.out.cells] at hh
          cases hh
    have hown2 := hownW.kept hg2 (.inr (fun e => (hbl bm e).2.1 rfl))
    have hcell2 : ∀ (g j : Nat), g < W.heap.size → g ≠ bm → w2.cell? ⟨g, j, none⟩ = W.cell? ⟨g, j, none⟩ := fun g j hg hn => World.cell?_of_block (hg2.block g hg (fun e => hn (by injection e)))
    have hso : W.heap.size = w.heap.size + 1 := HSW.out
    have c0' : w2.cell? ⟨bo, 0, none⟩ = some (.slice A out.length c) := (hcell2 bo 0 (by omega) hne).trans c0
    have b0' : w2.cell? ⟨w.heap.size, 0, none⟩ = some (.int .i32 p) := (hcell2 _ 0 (by omega) (by omega)).trans b0
    have b1' : w2.cell? ⟨w.heap.size, 1, none⟩ = some (.string s) := (hcell2 _ 1 (by omega) (by omega)).trans b1
    have b2' : w2.cell? ⟨w.heap.size, 2, none⟩ = some (.string t) := (hcell2 _ 2 (by omega) (by omega)).trans b2
    have hf2 : w2.heap[bo]? = some (.cells #[.slice A out.length c, .map (some bm)] 123 (0, 0)) := (hg2.block bo (by show bo < W.heap.size; omega) (fun e => hne (by injection e))).trans ((hbW.block bo hbo).trans H.out.cells)
    have f0' : w2.frozen? ⟨bo, 0, none⟩ = false := Lib.frozen_of_heap hf2 0
    have HC := Lib.hid hcase; have HL2 := Lib.hid hl2; have HF2 := Lib.hid hf2; have HZ2 := Lib.hid hz2; have HM2 := Lib.hid hm2; have HG2 := Lib.hid hg2; have HBL := Lib.hid hbl; have HNE := Lib.hid hne
    have HSO := Lib.hid hso
    clear hcase hl2 hf2 hz2 hm2 hg2 hbl hne hcell2 hso c0 c1 b0 b1 b2 k0 k1
    go_wp2
    obtain ⟨i0, hi0, hz0, hz1, hz2⟩ := info_parts infoAcl
    have hbs : base ≤ w2.heap.size := by have := HZ2.out; have h2 := HSO.out; have h3 : W.drew.heap.size = W.heap.size := rfl; omega
    have hn1 : out.length + 1 ≤ maxLen := by unfold maxLen; omega
    have hn2 : (out.length + 1) * 40 ≤ 140737488355328 := by omega
    have ag : (Value.slice A out.length c).ownBlock ≠ some bo := fun e => (HBL.out bo e).2.2 rfl
    have an : (Value.slice A out.length c).ownBlock ≠ some w.heap.size := fun e => by have := (HBL.out _ e).1; omega
    have lbo : bo < w2.heap.size := World.block_lt_of_cell? w2 _ c0'
    have lno : w.heap.size < w2.heap.size := World.block_lt_of_cell? w2 _ b0'
    have cAl : (w2.alloc (.cells #[.int .i32 p, .string s, .string t] 71)).drew.cell? ⟨bo, 0, none⟩ = some (.slice A out.length c) := by
      show (w2.alloc (.cells #[.int .i32 p, .string s, .string t] 71)).cell? ⟨bo, 0, none⟩ = _
      rw [World.cell?_alloc_past _ _ _ lbo]; exact c0'
    have fAl : (w2.alloc (.cells #[.int .i32 p, .string s, .string t] 71)).drew.frozen? ⟨bo, 0, none⟩ = false := by
      show (w2.alloc (.cells #[.int .i32 p, .string s, .string t] 71)).frozen? ⟨bo, 0, none⟩ = _
      rw [World.frozen?_alloc_past _ _ _ lbo]; exact f0'
    go_region_law ((refine step_append_lies _ (by rfl) _ _ _ (by rfl) base 71 i0 _ 3 40 Tryz.underlying22 hi0 hz0 hz1 hz2 rfl (by omega) (.slice A out.length c) out.length (out.flatMap encAcl) (by rfl) ((hown2.alloc _).drew) ⟨w2.heap.size, 0, none⟩ 1 1 [.int .i32 p, .string s, .string t] (by rfl) (by rfl) (World.news_of_block (cs := #[.int .i32 p, .string s, .string t]) (t := 71) (fr := (0, 0)) (heap_alloc_new w2 _)) (by simp [Value.oneCell']) (by omega) hn1 hn2 (by simp; omega) (w2.heap.size + 1) (by simp) ?_; intro gg cap w3 hown3 hgrow hat hlt; have c3 := (hgrow.cell_far (a := ⟨bo, 0, none⟩) (by simp; omega) (Ne.symm ag)).trans cAl; have f3 := (hgrow.frozen_far (a := ⟨bo, 0, none⟩) (by simp; omega) (Ne.symm ag)).trans fAl))
    all_goals
      go_end0
      have hfin := put_end hB H.out.lo hbW hbo hbm HNE.out hml (by rw [← HL2.out]; exact HM2.out) HG2.out HF2.out HBL.out H.out.own hown3 hgrow hat
      exact ⟨rfl, by rw [HP.out]; exact hfin.1, hfin.2⟩
end Go.Proofs.YtibklpbnjpefnaaGreatDoor
