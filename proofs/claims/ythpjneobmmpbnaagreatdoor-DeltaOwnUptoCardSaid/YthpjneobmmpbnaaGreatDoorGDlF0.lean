/- The walks of the document's own and Right of a delta. Condition: bulk at most 2^20. -/
import Derived.Test.YthpjneobmmpbnaaGreatDoorGRfC
import Derived.Test.YthpjneobmmpbnaaGreatDoorGRfD
import Derived.Test.YthpjneobmmpbnaaGreatDoorGHeld
import Derived.Deep.CutBlock
import Derived.Test.YthpjneobmmpbnaaGreatDoorGRefS
import Derived.Test.YthpjneobmmpbnaaGreatDoorGRf3
namespace Go.Proofs.YthpjneobmmpbnaaGreatDoor
open Go.RowKit Go.MapKept Go.Maps
/-! ### plain -/
theorem ownE_odd {z : Int} {v : TxF} {k : Nat} (h : ownE z v k = 0) : oddB z v k = false := by
  unfold ownE at h
  split at h
  · cases h
  split at h
  · cases h
  split at h
  · cases h
  · rename_i h2; simpa using h2
theorem spare_no {z : Int} {v : TxF} {k : Nat} (h : ownE z v k = 0) : spareB v k = false := by
  have := ownE_odd h
  unfold oddB at this
  simp only [Bool.or_eq_false_iff] at this
  exact this.1.2
theorem stepsD_le {d : DlT} (h1 : d.t.subs.length ≤ 1048576) (h2 : d.t.v.paths.length ≤ 1048576) : (stepsD d).length ≤ 1048576 := by
  unfold stepsD
  split
  · exact Nat.zero_le _
  refine Nat.le_trans (List.length_filter_le _ _) ?_
  unfold stepsL
  split
  · exact h1
  split
  · rw [List.length_map]; exact h2
  split
  · exact Nat.zero_le _
  · exact (by decide : 1 ≤ 1048576)
end Go.Proofs.YthpjneobmmpbnaaGreatDoor
namespace Go.Proofs.YthpjneobmmpbnaaGreatDoor
open Go.RowKit Go.MapKept Go.Maps
/-- the parent of a path; nothing of what is none -/
def parE (s : ByteArray) : ByteArray := if validP s && !decide (s = sSlash) then parP s else ⟨#[]⟩
/-- the paths that a step touches -/
def tKey (t : TxT) : List ByteArray := if t.v.n.ty = 1 ∨ t.v.n.ty = 2 then [t.v.n.path, parE t.v.n.path] else [t.v.n.path]
def tKeys (l : List TxT) : List ByteArray := l.flatMap tKey
def addK (acc : List ByteArray) (p : ByteArray) : List ByteArray := if acc.any (fun x => decide (x = p)) then acc else acc ++ [p]
theorem any_mem (l : List ByteArray) (p : ByteArray) : l.any (fun x => decide (x = p)) = true ↔ p ∈ l := by
  rw [List.any_eq_true]
  exact ⟨fun ⟨x, hx, e⟩ => of_decide_eq_true e ▸ hx, fun h => ⟨p, h, by simp⟩⟩
def keysOf (l : List ByteArray) : List ByteArray := l.foldl addK []
noncomputable def touchD (d : DlT) : List ByteArray := sortS (keysOf (tKeys (stepsD d)))
theorem tKeys_snoc {l : List TxT} {k : Nat} (hk : k < l.length) : tKeys (l.take (k + 1)) = tKeys (l.take k) ++ tKey l[k]! := by
  unfold tKeys; rw [takeS l hk, List.flatMap_append, List.flatMap_singleton]
theorem keysOf_snoc (l : List ByteArray) (p : ByteArray) : keysOf (l ++ [p]) = addK (keysOf l) p := by unfold keysOf; rw [List.foldl_append]; rfl
theorem addK_le (l : List ByteArray) (p : ByteArray) : (addK l p).length ≤ l.length + 1 := by
  unfold addK; split
  · omega
  · rw [List.length_append]; exact Nat.le_refl _
theorem keysOf_le : ∀ l : List ByteArray, (keysOf l).length ≤ l.length := by
  intro l
  suffices h : ∀ (l acc : List ByteArray), (l.foldl addK acc).length ≤ acc.length + l.length by
    have := h l []; simpa [keysOf] using this
  intro l
  induction l with
  | nil => intro acc; exact Nat.le_refl _
  | cons p l ih =>
    intro acc
    have h1 := ih (addK acc p); have h2 := addK_le acc p
    simp only [List.foldl_cons, List.length_cons]; omega
theorem tKeys_le (l : List TxT) : (tKeys l).length ≤ 2 * l.length := by
  unfold tKeys
  induction l with
  | nil => exact Nat.le_refl _
  | cons t l ih =>
    have : (tKey t).length ≤ 2 := by unfold tKey; split <;> simp
    simp only [List.flatMap_cons, List.length_append, List.length_cons]; omega
theorem parE_size (s : ByteArray) : (parE s).size ≤ s.size := by
  unfold parE; split
  · unfold parP; simp [ByteArray.size_extract]; omega
  · exact Nat.zero_le _
theorem path_steps {d : DlT} (h : DlSm 1048576 d) : ∀ t ∈ stepsD d, t.v.n.path.size ≤ 1048576 := by
  intro t ht
  unfold stepsD at ht
  split at ht
  · cases ht
  have ht := (List.mem_filter.1 ht).1
  have htop := h.2.top
  unfold stepsL at ht
  split at ht
  · obtain ⟨j, hj, rfl⟩ := List.getElem_of_mem ht
    have := (h.2.subAt (j := j) hj).top.2.1
    rwa [getElem!_pos d.t.subs j hj] at this
  split at ht
  · obtain ⟨p, hp, rfl⟩ := List.mem_map.1 ht
    obtain ⟨j, hj, rfl⟩ := List.getElem_of_mem hp
    have := htop.2.2.2.2.2.2.2.2.2 j hj
    rwa [getElem!_pos d.t.v.paths j hj] at this
  split at ht
  · cases ht
  · obtain rfl := List.mem_singleton.1 ht
    exact htop.2.1
/-- a map of these keys, of no values -/
def KeyM (w : World) (b : Nat) (K : List ByteArray) : Prop := ∃ l : List (ByteArray × Value), MapS w b l ∧ l.map (·.1) = K
theorem KeyM.add {w : World} {b : Nat} {K : List ByteArray} (h : KeyM w b K) {p : ByteArray} (hp : p.size ≤ 1048576) (v : Value) : ∃ w', (Instr.mapUpdate 85 (.map (some b)) (.string p) v).run Tryz.prog w = .ok () w' ∧ KeyM w' b (addK K p) ∧ w.grownBy w' (some b) ∧ w'.heap.size = w.heap.size := by
  obtain ⟨l, hm, rfl⟩ := h
  obtain ⟨w', l', h1, h2, h3, h4, h5⟩ := MapK.update hm Tryz.underlying85 (i := p) (Nat.le_trans hp (by decide)) v
  refine ⟨w', h1, ⟨l', h2, ?_⟩, h3, h4⟩
  rcases h5 with ⟨hn, rfl⟩ | ⟨j, old, hj, rfl⟩
  · have : p ∉ l.map (·.1) := fun hx => by obtain ⟨x, hx, e⟩ := List.mem_map.1 hx; exact hn x hx e
    unfold addK
    rw [if_neg (fun h => this ((any_mem _ _).1 h)), List.map_append]; rfl
  · have : p ∈ l.map (·.1) := List.mem_map.2 ⟨_, List.mem_of_getElem? hj, rfl⟩
    unfold addK
    rw [if_pos ((any_mem _ _).2 this), List.map_set]
    refine List.ext_getElem? fun i => ?_
    rw [List.getElem?_set]
    split
    · rename_i hij
      subst hij
      rw [List.getElem?_map, hj]
      have := (List.getElem?_eq_some_iff.1 hj).1
      simp [this]
    · rfl
theorem KeyM.of_heap {w w' : World} {b : Nat} {K : List ByteArray} (h : KeyM w b K) (hh : w'.heap[b]? = w.heap[b]?) : KeyM w' b K := by
  obtain ⟨l, hm, e⟩ := h
  exact ⟨l, MapK.of_heap hm hh, e⟩
theorem KeyM.lt {w : World} {b : Nat} {K : List ByteArray} (h : KeyM w b K) : b < w.heap.size := by
  obtain ⟨l, hm, e⟩ := h
  exact MapK.lt hm
/-- the loop's state -/
structure TcR (b : Nat) (W : World) (xs : List TxT) (k : Nat) (wr : World) : Prop where
  f : Fr [b] W wr
  m : KeyM wr b (keysOf (tKeys (xs.take k)))
set_option linter.unusedSimpArgs false in
set_option maxRecDepth 100000 in
set_option maxHeartbeats 20000000 in
theorem touched_any (h : DlH) (d : DlT) (w : World) (R : Nat → Prop) (hd : DlAt w R h d) (hE : Env w) (hsm : DlSm 1048576 d) : Calls Tryz.prog 26 #[dlV h] w (SortSP w (touchD d)) := by
  have htop := hsm.2.top
  have HSI := Lib.hid (fun (V : World) (hV : Below w.heap.size w V) => steps_any h d V (fun _ => True) ⟨hd.1, TxAt.tru hd.2 hV⟩ (hE.below (Nat.le_refl _) hV) hsm)
  have HNM := Lib.hid (stepsD_le htop.2.2.2.2.2.2.1 htop.2.2.2.2.2.1)
  have HPZ := Lib.hid (path_steps hsm)
  have HE := Lib.hid hE
  clear htop hd hE hsm
  have hb0 : Below w.heap.size w (w.alloc (.cells #[.int .i64 h.se, .int .i32 h.xi, .int .i64 h.zx, .int .i64 h.ti, .int .i32 h.t.n.ty, .string h.t.n.path, slV h.t.d, slV h.t.a, .int .i64 h.t.n.ow, .int .i32 h.t.n.ve, .int .i32 h.t.n.cr, .bool h.t.n.qh, .int .i64 h.t.n.qc, .int .i64 h.t.n.qb, .int .i64 h.t.n.si, .int .i32 h.t.n.st, slV h.t.i, slV h.t.p, .int .i32 h.t.n.co, slV h.t.s] 35)) := (Below.refl _ w).alloc (Nat.le_refl _) _
  have HG0 := Lib.hid (heap_s0 w (.cells #[.int .i64 h.se, .int .i32 h.xi, .int .i64 h.zx, .int .i64 h.ti, .int .i32 h.t.n.ty, .string h.t.n.path, slV h.t.d, slV h.t.a, .int .i64 h.t.n.ow, .int .i32 h.t.n.ve, .int .i32 h.t.n.cr, .bool h.t.n.qh, .int .i64 h.t.n.qc, .int .i64 h.t.n.qb, .int .i64 h.t.n.si, .int .i32 h.t.n.st, slV h.t.i, slV h.t.p, .int .i32 h.t.n.co, slV h.t.s] 35))
  have HZ0 := Lib.hid (sz1 w (.cells #[.int .i64 h.se, .int .i32 h.xi, .int .i64 h.zx, .int .i64 h.ti, .int .i32 h.t.n.ty, .string h.t.n.path, slV h.t.d, slV h.t.a, .int .i64 h.t.n.ow, .int .i32 h.t.n.ve, .int .i32 h.t.n.cr, .bool h.t.n.qh, .int .i64 h.t.n.qc, .int .i64 h.t.n.qb, .int .i64 h.t.n.si, .int .i32 h.t.n.st, slV h.t.i, slV h.t.p, .int .i32 h.t.n.co, slV h.t.s] 35))
  have HB := Lib.hid hb0
  have hmm := @run_makeMap Tryz.prog
  clear hb0
  go_enter Tryz.func26, Tryz.ntmps26
  go_upto_region 1 with fail
  generalize w.alloc (.cells #[.int .i64 h.se, .int .i32 h.xi, .int .i64 h.zx, .int .i64 h.ti, .int .i32 h.t.n.ty, .string h.t.n.path, slV h.t.d, slV h.t.a, .int .i64 h.t.n.ow, .int .i32 h.t.n.ve, .int .i32 h.t.n.cr, .bool h.t.n.qh, .int .i64 h.t.n.qc, .int .i64 h.t.n.qb, .int .i64 h.t.n.si, .int .i32 h.t.n.st, slV h.t.i, slV h.t.p, .int .i32 h.t.n.co, slV h.t.s] 35) = W at *
  go_upto_region 2 with fail
  have hb1 : Below W.heap.size W (W.alloc (.map #[] 0)) := (Below.refl _ W).alloc (Nat.le_refl _) _
  have HM0 := Lib.hid (show KeyM (W.alloc (.map #[] 0)) W.heap.size [] from ⟨[], MapK.made W, rfl⟩)
  have HZ1 := Lib.hid (sz1 W (.map #[] 0))
  have HB1 := Lib.hid (HB.out.trans (hb1.mono HB.out.size))
  have g0 : (W.alloc (.map #[] 0)).heap[w.heap.size]? = _ := (hb1.block _ (by have := HZ0.out; omega)).trans HG0.out
  clear hb1 hmm HG0
  generalize W.alloc (.map #[] 0) = W1 at *
  have hsi := HSI.out W1 HB1.out
  go_wp2_with (first
    | (apply wpList_loadRow 35 35; exact rfl; exact rfl; exact rfl; (first | assumption | (refine heap_under ?_; assumption) | (exact heap_s0 _ _) | (exact heap_s1 _ _ _) | (exact heap_under (heap_s0 _ _))); exact undDl; exact rfl; exact infDl)
    | fail)
  refine hsi.mono ?_
  rintro e w2 ⟨⟨A, c, rfl, hls⟩, hb2⟩
  have HB2 := Lib.hid (HB1.out.trans (hb2.mono HB1.out.size))
  have HM2 := Lib.hid (HM0.out.of_heap (hb2.block _ HM0.out.lt))
  obtain ⟨Hs, hrow, hHl, hHt⟩ := hls.r
  have HS := Lib.hid (own_slr hrow (fun _ => rfl) hHl)
  have HHT := Lib.hid hHt
  clear hsi hb2 g0 hls hrow hHl hHt HSI HM0
  have hnm := HNM.out
  go_wp2_with fail
  go_loopw [5, 6, 7, 12] (fun _ _ _ i wr => ∃ k : Nat, i = .int .i64 ↑k ∧ k ≤ (stepsD d).length ∧ TcR W.heap.size w2 (stepsD d) k wr) (fun _ _ _ i _ => (stepsD d).length - (RowKit.intOf i).toNat)
  case atStart => exact ⟨0, rfl, Nat.zero_le _, ⟨Fr.refl _ _, HM2.out⟩⟩
  case round =>
  obtain ⟨k, rfl, hk, hR⟩ := hrel
  have HR := Lib.hid hR
  clear hR
  by_cases hlt : k < (stepsD d).length
  · obtain ⟨b2, off, ea, hbR, hca⟩ := HS.out.2.2 (Nat.lt_of_le_of_lt (Nat.zero_le _) hlt)
    have ea : A = some ⟨b2, off, none⟩ := ea
    subst ea
    have hbR : W1.heap.size ≤ b2 := hbR
    have y6 : wr.rangeAt b2 (off + k * 16) (encTx Hs[k]!) := fun i u hu => by
      have h1 := hca k hlt i u hu
      exact (HR.out.f.cell (p := ⟨b2, off + k * 16 + i, none⟩) (World.block_lt_of_cell? w2 _ h1) (by have := HZ1.out; simp; omega)).trans h1
    have HJN := Lib.hid (HHT.out k hlt).loc.1
    have HKL := Lib.hid hlt
    have HLT := Lib.hid hlt
    have hpz : Hs[k]!.n.path.size ≤ 1048576 := by
      rw [← HJN.out]
      exact HPZ.out _ (by rw [getElem!_pos _ k hlt]; exact List.getElem_mem hlt)
    have hki : (k : Int) < ((stepsD d).length : Int) := by omega
    have hk0 : (0 : Int) ≤ (k : Int) := by omega
    clear hca hbR
    generalize Hs[k]! = hj at *
    have hba := (Below.refl _ wr).alloc (Nat.le_refl _) (.cells #[.int .i32 hj.n.ty, .string hj.n.path, slV hj.d, slV hj.a, .int .i64 hj.n.ow, .int .i32 hj.n.ve, .int .i32 hj.n.cr, .bool hj.n.qh, .int .i64 hj.n.qc, .int .i64 hj.n.qb, .int .i64 hj.n.si, .int .i32 hj.n.st, slV hj.i, slV hj.p, .int .i32 hj.n.co, slV hj.s] 33)
    have HFA := Lib.hid (HR.out.f.trans (Fr.of_below (own := []) hba) (fun g hg => by simp at hg))
    have hbl := HR.out.m.lt
    obtain ⟨w5, r5, m5, g5, z5⟩ := KeyM.add (HR.out.m.of_heap (hba.block _ hbl)) (p := hj.n.path) hpz (.agg #[])
    have HM5 := Lib.hid m5
    have HF5 := Lib.hid (HFA.out.trans (Fr.of_grown (own := [W.heap.size]) g5 (by simp)) (fun g hg => .inl hg))
    have HFB := Lib.hid (fun (V : World) (hV : Fr [W.heap.size] w2 V) => HB2.out.trans (hV.below HB2.out.size (fun g hg => by have := HZ0.out; simp at hg; omega)))
    have gj : w5.heap[wr.heap.size]? = some (.cells #[.int .i32 hj.n.ty, .string hj.n.path, slV hj.d, slV hj.a, .int .i64 hj.n.ow, .int .i32 hj.n.ve, .int .i32 hj.n.cr, .bool hj.n.qh, .int .i64 hj.n.qc, .int .i64 hj.n.qb, .int .i64 hj.n.si, .int .i32 hj.n.st, slV hj.i, slV hj.p, .int .i32 hj.n.co, slV hj.s] 33 (0, 0)) := (g5.block wr.heap.size (by rw [sz1]; exact Nat.lt_succ_self _) (by intro e; injection e with e; omega)).trans (heap_s0 wr _)
    have x50 : w5.cell? ⟨wr.heap.size, 0, none⟩ = some (.int .i32 hj.n.ty) := by rw [cellH gj]; rfl
    have x51 : w5.cell? ⟨wr.heap.size, 1, none⟩ = some (.string hj.n.path) := by rw [cellH gj]; rfl
    clear hba m5 g5 z5 gj hbl
    by_cases hty : hj.n.ty = 1
    · have hb1 : (hj.n.ty == 1) = true := by rw [hty]; rfl
      have hb2 : (hj.n.ty == 2) = false := by rw [hty]; rfl
      have HK2 := Lib.hid (show tKey (stepsD d)[k]! = [hj.n.path, parE hj.n.path] by unfold tKey; rw [HJN.out, hty]; rfl)
      have HPA := Lib.hid (parent_any hj.n.path (Nat.lt_of_le_of_lt hpz (by decide)) w5 (HE.out.later (HFB.out w5 HF5.out)))
      clear hty
      go_wp2_with (first
        | (apply wpList_loadMid 33; exact rfl; exact rfl; exact rfl; exact (by assumption); exact undTx; exact rfl; exact infTx)
        | (apply wpList_storeTop 33 33; exact rfl; exact rfl; exact rfl; (first | (with_reducible rfl) | (exact sz1 _ _) | (exact sz2 _ _ _)); exact rfl; exact infTx; exact rfl; (first | exact oneTx _ | simp [Value.oneCell']))
        | (apply wpList_loadRow 33 33; exact rfl; exact rfl; exact rfl; (first | assumption | (refine heap_under ?_; assumption) | (exact heap_s0 _ _) | (exact heap_s1 _ _ _) | (exact heap_under (heap_s0 _ _))); exact undTx; exact rfl; exact infTx)
        | fail)
      refine HPA.out.mono ?_
      rintro e w6 ⟨rfl, hb6⟩
      have HB6 := Lib.hid hb6
      have HF6 := Lib.hid (HF5.out.trans (Fr.of_below (own := []) hb6) (fun g hg => by simp at hg))
      obtain ⟨w7, r7, m7, g7, z7⟩ := KeyM.add (HM5.out.of_heap (hb6.block _ HM5.out.lt)) (p := parE hj.n.path) (Nat.le_trans (parE_size _) hpz) (.agg #[])
      have HM7 := Lib.hid m7
      have HF7 := Lib.hid (HF6.out.trans (Fr.of_grown (own := [W.heap.size]) g7 (by simp)) (fun g hg => .inl hg))
      change (Instr.mapUpdate 85 (.map (some W.heap.size)) (.string (if validP hj.n.path && !decide (hj.n.path = sSlash) then parP hj.n.path else ⟨#[]⟩)) (.agg #[])).run Tryz.prog w6 = .ok () w7 at r7
      have HKN := Lib.hid (show keysOf (tKeys ((stepsD d).take (k + 1))) = addK (addK (keysOf (tKeys ((stepsD d).take k))) hj.n.path) (parE hj.n.path) by rw [tKeys_snoc HKL.out, HK2.out, show tKeys ((stepsD d).take k) ++ [hj.n.path, parE hj.n.path] = (tKeys ((stepsD d).take k) ++ [hj.n.path]) ++ [parE hj.n.path] by simp, keysOf_snoc, keysOf_snoc])
      generalize (if validP hj.n.path && !decide (hj.n.path = sSlash) then parP hj.n.path else ⟨#[]⟩ : ByteArray) = pp at r7 ⊢
      generalize (if validP hj.n.path && !decide (hj.n.path = sSlash) then 0 else 30 : Int) = ee at *
      clear hb6 m7 g7 z7 r5 x50 x51 y6
      go_wp2_with fail
      go_roundw
      case rel => exact ⟨k + 1, by go_num, by have := HLT.out; omega, ⟨HF7.out, by rw [HKN.out]; exact HM7.out⟩⟩
      case measure => have := HLT.out; simp [RowKit.intOf]; omega

    by_cases hty2 : hj.n.ty = 2
    · have hty := hty2
      clear hty2
      have hb1 : (hj.n.ty == 1) = false := by rw [hty]; rfl
      have hb2 : (hj.n.ty == 2) = true := by rw [hty]; rfl
      have HK2 := Lib.hid (show tKey (stepsD d)[k]! = [hj.n.path, parE hj.n.path] by unfold tKey; rw [HJN.out, hty]; rfl)
      have HPA := Lib.hid (parent_any hj.n.path (Nat.lt_of_le_of_lt hpz (by decide)) w5 (HE.out.later (HFB.out w5 HF5.out)))
      clear hty
      go_wp2_with (first
        | (apply wpList_loadMid 33; exact rfl; exact rfl; exact rfl; exact (by assumption); exact undTx; exact rfl; exact infTx)
        | (apply wpList_storeTop 33 33; exact rfl; exact rfl; exact rfl; (first | (with_reducible rfl) | (exact sz1 _ _) | (exact sz2 _ _ _)); exact rfl; exact infTx; exact rfl; (first | exact oneTx _ | simp [Value.oneCell']))
        | (apply wpList_loadRow 33 33; exact rfl; exact rfl; exact rfl; (first | assumption | (refine heap_under ?_; assumption) | (exact heap_s0 _ _) | (exact heap_s1 _ _ _) | (exact heap_under (heap_s0 _ _))); exact undTx; exact rfl; exact infTx)
        | fail)
      refine HPA.out.mono ?_
      rintro e w6 ⟨rfl, hb6⟩
      have HB6 := Lib.hid hb6
      have HF6 := Lib.hid (HF5.out.trans (Fr.of_below (own := []) hb6) (fun g hg => by simp at hg))
      obtain ⟨w7, r7, m7, g7, z7⟩ := KeyM.add (HM5.out.of_heap (hb6.block _ HM5.out.lt)) (p := parE hj.n.path) (Nat.le_trans (parE_size _) hpz) (.agg #[])
      have HM7 := Lib.hid m7
      have HF7 := Lib.hid (HF6.out.trans (Fr.of_grown (own := [W.heap.size]) g7 (by simp)) (fun g hg => .inl hg))
      change (Instr.mapUpdate 85 (.map (some W.heap.size)) (.string (if validP hj.n.path && !decide (hj.n.path = sSlash) then parP hj.n.path else ⟨#[]⟩)) (.agg #[])).run Tryz.prog w6 = .ok () w7 at r7
      have HKN := Lib.hid (show keysOf (tKeys ((stepsD d).take (k + 1))) = addK (addK (keysOf (tKeys ((stepsD d).take k))) hj.n.path) (parE hj.n.path) by rw [tKeys_snoc HKL.out, HK2.out, show tKeys ((stepsD d).take k) ++ [hj.n.path, parE hj.n.path] = (tKeys ((stepsD d).take k) ++ [hj.n.path]) ++ [parE hj.n.path] by simp, keysOf_snoc, keysOf_snoc])
      generalize (if validP hj.n.path && !decide (hj.n.path = sSlash) then parP hj.n.path else ⟨#[]⟩ : ByteArray) = pp at r7 ⊢
      generalize (if validP hj.n.path && !decide (hj.n.path = sSlash) then 0 else 30 : Int) = ee at *
      clear hb6 m7 g7 z7 r5 x50 x51 y6
      go_wp2_with fail
      go_roundw
      case rel => exact ⟨k + 1, by go_num, by have := HLT.out; omega, ⟨HF7.out, by rw [HKN.out]; exact HM7.out⟩⟩
      case measure => have := HLT.out; simp [RowKit.intOf]; omega

    have hb1 : (hj.n.ty == 1) = false := beq_eq_false_iff_ne.2 hty
    have hb2 : (hj.n.ty == 2) = false := beq_eq_false_iff_ne.2 hty2
    have HKN := Lib.hid (show keysOf (tKeys ((stepsD d).take (k + 1))) = addK (keysOf (tKeys ((stepsD d).take k))) hj.n.path by rw [tKeys_snoc HKL.out, show tKey (stepsD d)[k]! = [hj.n.path] by unfold tKey; rw [HJN.out, if_neg (by intro h; rcases h with h | h; exact hty h; exact hty2 h)], keysOf_snoc])
    clear hty hty2
    go_wp2_with (first
      | (apply wpList_loadMid 33; exact rfl; exact rfl; exact rfl; exact (by assumption); exact undTx; exact rfl; exact infTx)
      | (apply wpList_storeTop 33 33; exact rfl; exact rfl; exact rfl; (first | (with_reducible rfl) | (exact sz1 _ _) | (exact sz2 _ _ _)); exact rfl; exact infTx; exact rfl; (first | exact oneTx _ | simp [Value.oneCell']))
      | (apply wpList_loadRow 33 33; exact rfl; exact rfl; exact rfl; (first | assumption | (refine heap_under ?_; assumption) | (exact heap_s0 _ _) | (exact heap_s1 _ _ _) | (exact heap_under (heap_s0 _ _))); exact undTx; exact rfl; exact infTx)
      | fail)
    go_roundw
    case rel => exact ⟨k + 1, by go_num, by have := HLT.out; omega, ⟨HF5.out, by rw [HKN.out]; exact HM5.out⟩⟩
    case measure => have := HLT.out; simp [RowKit.intOf]; omega
  obtain rfl : k = (stepsD d).length := by omega
  have hki : ¬ (((stepsD d).length : Int) < ((stepsD d).length : Int)) := by omega
  obtain ⟨l, hml, hel⟩ := HR.out.m
  rw [List.take_length] at hel
  have HSO := Lib.hid (sortedS_any W.heap.size l wr hml (by have h1 := congrArg List.length hel; have h2 := keysOf_le (tKeys (stepsD d)); have h3 := tKeys_le (stepsD d); rw [List.length_map] at h1; omega))
  rw [hel] at HSO
  have HFB := Lib.hid (HB2.out.trans (HR.out.f.below HB2.out.size (fun g hg => by have := HZ0.out; simp at hg; omega)))
  clear hml hel
  go_wp2_with fail
  refine (keysS_any (some W.heap.size) wr).mono ?_
  rintro e w3 ⟨rfl, rfl⟩
  go_wp2_with fail
  refine HSO.out.mono ?_
  rintro e w4 ⟨A4, c4, rfl, hrow, hb4⟩
  have HRW := Lib.hid hrow; have HB4 := Lib.hid hb4
  clear hrow hb4
  go_wp2_with fail
  go_ret
  have hba := (Below.refl _ wr).alloc (Nat.le_refl _) (.cells #[.map (some W.heap.size)] 85)
  exact ⟨A4, c4, rfl, own_mono HRW.out (Nat.le_trans HFB.out.size hba.size), HFB.out.trans ((hba.mono HFB.out.size).trans (HB4.out.mono (Nat.le_trans HFB.out.size hba.size)))⟩
end Go.Proofs.YthpjneobmmpbnaaGreatDoor
namespace Go.Proofs.YthpjneobmmpbnaaGreatDoor
open Go.RowKit
/-! ### the order of texts -/
theorem cmp_lt : ∀ a b : List UInt8, Lib.compareBytes a b < 0 ↔ a < b
  | [], [] => by simp [Lib.compareBytes]
  | [], _ :: _ => by simp [Lib.compareBytes]
  | _ :: _, [] => by simp [Lib.compareBytes]
  | x :: a, y :: b => by
    unfold Lib.compareBytes
    rw [List.cons_lt_cons_iff]
    by_cases h1 : x < y
    · simp [h1]
    · by_cases h2 : y < x
      · rw [if_neg h1, if_pos h2]
        have : x ≠ y := fun e => by subst e; exact h1 h2
        simp [h1, this]
      · have : x = y := UInt8.le_antisymm (UInt8.not_lt.1 h2) (UInt8.not_lt.1 h1)
        rw [if_neg h1, if_neg h2, cmp_lt a b]
        simp [this]
theorem cmp_swap : ∀ a b : List UInt8, Lib.compareBytes a b = - Lib.compareBytes b a
  | [], [] => rfl
  | [], _ :: _ => rfl
  | _ :: _, [] => rfl
  | x :: a, y :: b => by
    unfold Lib.compareBytes
    by_cases h1 : x < y
    · rw [if_pos h1, if_neg (UInt8.lt_asymm h1), if_pos h1]
    · by_cases h2 : y < x
      · rw [if_neg h1, if_pos h2, if_pos h2]; rfl
      · rw [if_neg h1, if_neg h2, if_neg h2, if_neg h1, cmp_swap a b]
theorem cmp_zero (a b : List UInt8) (h : Lib.compareBytes a b = 0) : a = b := by
  have h1 : ¬ a < b := fun h1 => by have := (cmp_lt a b).2 h1; omega
  have h2 : ¬ b < a := fun h1 => by have := (cmp_lt b a).2 h1; have := cmp_swap a b; omega
  exact List.le_antisymm (List.not_lt.1 h2) (List.not_lt.1 h1)
theorem cmpBs_gt (a b : ByteArray) : 0 < cmpB a b ↔ b.data.toList < a.data.toList := by
  rw [← cmp_lt]
  have := cmp_swap a.data.toList b.data.toList
  unfold cmpB; omega
theorem bs_ext {a b : ByteArray} (h : a.data.toList = b.data.toList) : a = b := by
  cases a; cases b
  simp only [ByteArray.mk.injEq]
  exact Array.toList_inj.1 h
/-! ### the document's put -/
def putR : List ByteArray → ByteArray → List ByteArray
  | [], p => [p]
  | x :: l, p => if x = p then x :: l else if 0 < cmpB x p then p :: x :: l else x :: putR l p
abbrev ltB (a b : ByteArray) : Prop := a.data.toList < b.data.toList
theorem mem_putR : ∀ (l : List ByteArray) (p x : ByteArray), x ∈ putR l p ↔ x ∈ l ∨ x = p
  | [], p, x => by simp [putR]
  | y :: l, p, x => by
    unfold putR
    split
    · rename_i h; subst h; simp; intro h; exact .inl h
    · split
      · simp; constructor
        · rintro (h | h | h) <;> simp [h]
        · rintro ((h | h) | h) <;> simp [h]
      · simp [mem_putR l p x, or_assoc]
theorem putR_up : ∀ (l : List ByteArray) (p : ByteArray), l.Pairwise ltB → (putR l p).Pairwise ltB
  | [], p, _ => by simp [putR]
  | y :: l, p, h => by
    have hy : ∀ {z}, z ∈ l → ltB y z := fun hz => List.rel_of_pairwise_cons h hz
    have hl := h.of_cons
    unfold putR
    split
    · exact h
    · rename_i hne
      split
      · rename_i hgt
        have hgt := (cmpBs_gt y p).1 hgt
        refine List.pairwise_cons.2 ⟨fun z hz => ?_, h⟩
        rcases List.mem_cons.1 hz with rfl | hz
        · exact hgt
        · exact List.lt_trans hgt (hy hz)
      · rename_i hgt
        refine List.pairwise_cons.2 ⟨fun z hz => ?_, putR_up l p hl⟩
        rcases (mem_putR l p z).1 hz with hz | rfl
        · exact hy hz
        · refine (cmp_lt _ _).1 ?_
          have h0 : cmpB y z ≠ 0 := fun h0 => hne (bs_ext (cmp_zero _ _ h0))
          show cmpB y z < 0
          omega
theorem putR_le : ∀ (l : List ByteArray) (p : ByteArray), (putR l p).length ≤ l.length + 1
  | [], p => by simp [putR]
  | y :: l, p => by
    unfold putR
    split
    · simp
    · split
      · simp
      · have := putR_le l p; simp; omega
/-- what the document's Touched makes of a list of paths -/
def touchR (l : List ByteArray) : List ByteArray := l.foldl putR []
theorem fold_up : ∀ (l acc : List ByteArray), acc.Pairwise ltB → (l.foldl putR acc).Pairwise ltB
  | [], _, h => h
  | p :: l, acc, h => fold_up l _ (putR_up acc p h)
theorem touchR_up (l : List ByteArray) : (touchR l).Pairwise ltB := fold_up l [] List.Pairwise.nil
theorem fold_mem : ∀ (l acc : List ByteArray) (x : ByteArray), x ∈ l.foldl putR acc ↔ x ∈ acc ∨ x ∈ l
  | [], acc, x => by simp
  | p :: l, acc, x => by rw [List.foldl_cons, fold_mem l _ x, mem_putR, List.mem_cons, or_assoc]
theorem mem_touchR (l : List ByteArray) (x : ByteArray) : x ∈ touchR l ↔ x ∈ l := by unfold touchR; rw [fold_mem]; simp
theorem fold_len : ∀ (l acc : List ByteArray), (l.foldl putR acc).length ≤ acc.length + l.length
  | [], acc => Nat.le_refl _
  | p :: l, acc => by have := fold_len l (putR acc p); have := putR_le acc p; simp only [List.foldl_cons, List.length_cons]; omega
theorem touchR_le (l : List ByteArray) : (touchR l).length ≤ l.length := by have := fold_len l []; simpa [touchR] using this
/-- a rising list is told by what is in it -/
theorem up_ext : ∀ (l m : List ByteArray), l.Pairwise ltB → m.Pairwise ltB → (∀ x, x ∈ l ↔ x ∈ m) → l = m
  | [], [], _, _, _ => rfl
  | [], y :: m, _, _, h => absurd ((h y).2 (List.mem_cons_self ..)) (by simp)
  | x :: l, [], _, _, h => absurd ((h x).1 (List.mem_cons_self ..)) (by simp)
  | x :: l, y :: m, h1, h2, h => by
    have hx := fun {z} hz => List.rel_of_pairwise_cons (a' := z) h1 hz
    have hy := fun {z} hz => List.rel_of_pairwise_cons (a' := z) h2 hz
    have e : x = y := by
      rcases List.mem_cons.1 ((h x).1 (List.mem_cons_self ..)) with e | e
      · exact e
      rcases List.mem_cons.1 ((h y).2 (List.mem_cons_self ..)) with e2 | e2
      · exact e2.symm
      · exact absurd (hx e2) (List.lt_asymm (hy e))
    subst e
    rw [up_ext l m h1.of_cons h2.of_cons fun z => ?_]
    constructor
    · intro hz
      rcases List.mem_cons.1 ((h z).1 (List.mem_cons_of_mem _ hz)) with e | e
      · subst e; exact absurd (hx hz) (List.lt_irrefl _)
      · exact e
    · intro hz
      rcases List.mem_cons.1 ((h z).2 (List.mem_cons_of_mem _ hz)) with e | e
      · subst e; exact absurd (hy hz) (List.lt_irrefl _)
      · exact e
theorem addK_mem (acc : List ByteArray) (p x : ByteArray) : x ∈ addK acc p ↔ x ∈ acc ∨ x = p := by
  unfold addK
  split
  · rename_i h
    have := (any_mem acc p).1 h
    exact ⟨fun h => .inl h, fun h => h.elim id (fun e => e ▸ this)⟩
  · rw [List.mem_append, List.mem_singleton]
theorem addK_nodup {acc : List ByteArray} (h : acc.Nodup) (p : ByteArray) : (addK acc p).Nodup := by
  unfold addK
  split
  · exact h
  · rename_i hn
    have hn : p ∉ acc := fun hx => hn ((any_mem acc p).2 hx)
    rw [List.nodup_append]
    exact ⟨h, by simp, fun a ha b hb e => hn (by rw [List.mem_singleton] at hb; subst hb; subst e; exact ha)⟩
theorem keys_mem_go : ∀ (l acc : List ByteArray) (x : ByteArray), x ∈ l.foldl addK acc ↔ x ∈ acc ∨ x ∈ l
  | [], acc, x => by simp
  | p :: l, acc, x => by rw [List.foldl_cons, keys_mem_go l _ x, addK_mem, List.mem_cons, or_assoc]
theorem keys_nodup_go : ∀ (l acc : List ByteArray), acc.Nodup → (l.foldl addK acc).Nodup
  | [], _, h => h
  | p :: l, _, h => keys_nodup_go l _ (addK_nodup h p)
theorem mem_keysOf (l : List ByteArray) (x : ByteArray) : x ∈ keysOf l ↔ x ∈ l := by unfold keysOf; rw [keys_mem_go]; simp
theorem keysOf_nodup (l : List ByteArray) : (keysOf l).Nodup := keys_nodup_go l [] List.nodup_nil
theorem sortS_up {l : List ByteArray} (h : l.Nodup) : (sortS l).Pairwise ltB := by
  have h1 : (sortS l).Pairwise (fun x y => leS x y = true) := List.pairwise_mergeSort (fun a b c h1 h2 => by
      simp only [decide_eq_true_eq] at *; exact List.le_trans h1 h2) (fun a b => by
      simp only [Bool.or_eq_true, decide_eq_true_eq]; exact List.le_total _ _) l
  have h2 : (sortS l).Nodup := (sortS_perm l).nodup_iff.2 h
  refine (h1.and h2).imp fun {a b} ⟨h3, h4⟩ => ?_
  have h3 := of_decide_eq_true h3
  exact Classical.byContradiction fun hn => h4 (bs_ext (List.le_antisymm h3 (List.not_lt.1 hn)))
theorem touch_eq (d : DlT) : touchD d = touchR (tKeys (stepsD d)) := by
  unfold touchD
  refine up_ext _ _ (sortS_up (keysOf_nodup _)) (touchR_up _) fun x => ?_
  rw [(sortS_perm _).mem_iff, mem_keysOf, mem_touchR]
end Go.Proofs.YthpjneobmmpbnaaGreatDoor
