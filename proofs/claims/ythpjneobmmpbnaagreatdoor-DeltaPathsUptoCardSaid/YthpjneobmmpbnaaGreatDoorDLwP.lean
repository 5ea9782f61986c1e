/- The walk of DeltaPaths. Condition: a delta's lists have at most 2^20. -/
import Derived.Test.YthpjneobmmpbnaaGreatDoorDLwT
namespace Go.Proofs.YthpjneobmmpbnaaGreatDoor
open Go.RowKit Go.MapKept Go.Maps
theorem named_own {z : Int} {v : TxF} {k : Nat} (h : ownE z v k = 0) : namedB v = false := by
  unfold ownE at h
  split at h
  · cases h
  · rename_i h2; simpa using h2
theorem bad_path {s : ByteArray} (h : badB s = false) : (validP s && !decide (s = sSlash)) = true := by
  unfold badB at h
  simp only [Bool.or_eq_false_iff, Bool.not_eq_false'] at h
  rw [h.1, h.2]; rfl
theorem own_path {z : Int} {v : TxF} {k : Nat} (h : ownE z v k = 0) (ht : v.n.ty = 1 ∨ v.n.ty = 2) : (validP v.n.path && !decide (v.n.path = sSlash)) = true := by
  have h1 := named_own h
  unfold namedB at h1
  rw [if_pos ht] at h1
  exact bad_path h1
theorem steps_named {d : DlT} (h : rightE d = 0) : ∀ t ∈ stepsD d, (t.v.n.ty = 1 ∨ t.v.n.ty = 2) → (validP t.v.n.path && !decide (t.v.n.path = sSlash)) = true := by
  intro t ht hty
  rw [stepsD_ok h] at ht
  have ht := (List.mem_filter.1 ht).1
  obtain ⟨hk, ho, hp⟩ := right_parts h
  have hsub : subsE d.zx d.t.subs = 0 := by
    unfold rightE at h
    split at h
    · cases h
    split at h
    · cases h
    split at h
    · rename_i h2; exact absurd h h2
    · exact h
  unfold stepsL at ht
  split at ht
  · exact own_path (subs_own hsub t ht).2 hty
  split at ht
  · rename_i h14 h11
    obtain ⟨p, hp, rfl⟩ := List.mem_map.1 ht
    have h1 := named_own ho
    unfold namedB at h1
    rw [if_neg (by omega), if_neg (by rw [h11]; decide), if_pos h11] at h1
    have h2 : badB p = false := by
      have := List.any_eq_false.1 h1 p hp
      simpa using this
    exact bad_path h2
  split at ht
  · cases ht
  · obtain rfl := List.mem_singleton.1 ht
    exact own_path ho hty
/-- a map of these keys, each with the value 1 -/
def KeyV (w : World) (b : Nat) (K : List ByteArray) : Prop := ∃ l : List (ByteArray × Value), MapS w b l ∧ l.map (·.1) = K ∧ ∀ x ∈ l, x.2 = .int .i64 1
theorem KeyV.of_heap {w w' : World} {b : Nat} {K : List ByteArray} (h : KeyV w b K) (hh : w'.heap[b]? = w.heap[b]?) : KeyV w' b K := by
  obtain ⟨l, hm, e⟩ := h
  exact ⟨l, MapK.of_heap hm hh, e⟩
theorem KeyV.lt {w : World} {b : Nat} {K : List ByteArray} (h : KeyV w b K) : b < w.heap.size := by
  obtain ⟨l, hm, e⟩ := h
  exact MapK.lt hm
theorem KeyV.add {w : World} {b : Nat} {K : List ByteArray} (h : KeyV w b K) {p : ByteArray} (hp : p.size ≤ 1048576) : ∃ w', (Instr.mapUpdate 61 (.map (some b)) (.string p) (.int .i64 1)).run Tryz.prog w = .ok () w' ∧ KeyV w' b (addK K p) ∧ w.grownBy w' (some b) ∧ w'.heap.size = w.heap.size := by
  obtain ⟨l, hm, rfl, hv⟩ := h
  obtain ⟨w', l', h1, h2, h3, h4, h5⟩ := MapK.update hm Tryz.underlying61 (i := p) (Nat.le_trans hp (by decide)) (.int .i64 1)
  refine ⟨w', h1, ⟨l', h2, ?_, ?_⟩, h3, h4⟩
  · rcases h5 with ⟨hn, rfl⟩ | ⟨j, old, hj, rfl⟩
    · have : p ∉ l.map (·.1) := fun hx => by obtain ⟨x, hx, e⟩ := List.mem_map.1 hx; exact hn x hx e
      unfold addK
      rw [if_neg (fun h => this ((any_mem _ _).1 h)), List.map_append]; rfl
    · have : p ∈ l.map (·.1) := List.mem_map.2 ⟨_, List.mem_of_getElem? hj, rfl⟩
      unfold addK
      rw [if_pos ((any_mem _ _).2 this), List.map_set]
      refine List.ext_getElem? fun i => ?_
      rw [List.getElem?_set]
      split
      · rename_i hij
        subst hij
        rw [List.getElem?_map, hj]
        have := (List.getElem?_eq_some_iff.1 hj).1
        simp [this]
      · rfl
  · rcases h5 with ⟨hn, rfl⟩ | ⟨j, old, hj, rfl⟩
    · intro x hx
      rcases List.mem_append.1 hx with hx | hx
      · exact hv x hx
      · rw [List.mem_singleton.1 hx]
    · intro x hx
      rcases List.mem_or_eq_of_mem_set hx with hx | hx
      · exact hv x hx
      · rw [hx]
theorem KeyV.get {w : World} {b : Nat} {K : List ByteArray} (h : KeyV w b K) {p : ByteArray} (hp : p.size ≤ 1048576) (hm : p ∈ K) (w' : World) (hw : w'.heap[b]? = w.heap[b]?) : (Instr.lookup 61 (.map (some b)) (.string p) false).run Tryz.prog w' = .ok (.int .i64 1) w' := by
  obtain ⟨l, hl, rfl, hv⟩ := h
  rcases MapK.lookup hl Tryz.underlying61 false (z := .int .i64 0) (fun w => by kernel_rfl) (i := p) (Nat.le_trans hp (by decide)) with ⟨v, hmem, hr⟩ | ⟨hno, -⟩
  · have h1 : v = .int .i64 1 := hv (p, v) hmem
    subst h1
    exact hr w' hw
  · obtain ⟨x, hx, e⟩ := List.mem_map.1 hm
    exact absurd e (hno x hx)
theorem KeyV.len {w : World} {b : Nat} {K : List ByteArray} (h : KeyV w b K) : (Builtin.len_ #[61] 3 #[.map (some b)]).run Tryz.prog w = .ok (.int .i64 (K.length : Int)) w := by
  obtain ⟨l, ⟨es, clock, hb, -, hl, -⟩, rfl, -⟩ := h
  have hsz : es.size = l.length := by
    have := congrArg List.length hl
    simpa using this
  rw [run_len_map w 61 3 b es clock (by kernel_rfl) hb, hsz, List.length_map]
  rfl
theorem ret_ten {w w' : World} {x y : Bool} (hb : Below w.heap.size w w') (h : x = y) : RetB w y (.returned (.bool x)) w' := RetB.mk hb h
set_option linter.unusedSimpArgs false in
set_option maxRecDepth 100000 in
set_option maxHeartbeats 20000000 in
theorem deltaPaths_any (h : DlH) (d : DlT) (w : World) (R : Nat → Prop) (hd : DlAt w R h d) (hE : Env w) (hsm : DlSm 1048576 d) : Calls Tryz.prog 8 #[dlV h] w (RetB w true) := by
  have hb1 : Below w.heap.size w (w.alloc (.cells #[.int .i64 h.se, .int .i32 h.xi, .int .i64 h.zx, .int .i64 h.ti, .int .i32 h.t.n.ty, .string h.t.n.path, slV h.t.d, slV h.t.a, .int .i64 h.t.n.ow, .int .i32 h.t.n.ve, .int .i32 h.t.n.cr, .bool h.t.n.qh, .int .i64 h.t.n.qc, .int .i64 h.t.n.qb, .int .i64 h.t.n.si, .int .i32 h.t.n.st, slV h.t.i, slV h.t.p, .int .i32 h.t.n.co, slV h.t.s] 35)) := (Below.refl _ w).alloc (Nat.le_refl _) _
  have HB1 := Lib.hid hb1
  have HE := Lib.hid hE
  have g0 := heap_s0 w (.cells #[.int .i64 h.se, .int .i32 h.xi, .int .i64 h.zx, .int .i64 h.ti, .int .i32 h.t.n.ty, .string h.t.n.path, slV h.t.d, slV h.t.a, .int .i64 h.t.n.ow, .int .i32 h.t.n.ve, .int .i32 h.t.n.cr, .bool h.t.n.qh, .int .i64 h.t.n.qc, .int .i64 h.t.n.qb, .int .i64 h.t.n.si, .int .i32 h.t.n.st, slV h.t.i, slV h.t.p, .int .i32 h.t.n.co, slV h.t.s] 35)
  have HZ := Lib.hid (sz1 w (.cells #[.int .i64 h.se, .int .i32 h.xi, .int .i64 h.zx, .int .i64 h.ti, .int .i32 h.t.n.ty, .string h.t.n.path, slV h.t.d, slV h.t.a, .int .i64 h.t.n.ow, .int .i32 h.t.n.ve, .int .i32 h.t.n.cr, .bool h.t.n.qh, .int .i64 h.t.n.qc, .int .i64 h.t.n.qb, .int .i64 h.t.n.si, .int .i32 h.t.n.st, slV h.t.i, slV h.t.p, .int .i32 h.t.n.co, slV h.t.s] 35))
  have HSM := Lib.hid hsm
  have HDW := Lib.hid (fun (V : World) (hV : Below w.heap.size w V) => (show DlAt V (fun _ => True) h d from ⟨hd.1, TxAt.tru hd.2 hV⟩))
  have HAL := Lib.hid (alive13_any (w.alloc (.cells #[.int .i64 h.se, .int .i32 h.xi, .int .i64 h.zx, .int .i64 h.ti, .int .i32 h.t.n.ty, .string h.t.n.path, slV h.t.d, slV h.t.a, .int .i64 h.t.n.ow, .int .i32 h.t.n.ve, .int .i32 h.t.n.cr, .bool h.t.n.qh, .int .i64 h.t.n.qc, .int .i64 h.t.n.qb, .int .i64 h.t.n.si, .int .i32 h.t.n.st, slV h.t.i, slV h.t.p, .int .i32 h.t.n.co, slV h.t.s] 35)) (hE.below (Nat.le_refl _) hb1))
  clear hb1 hd hE hsm
  go_enter Tryz.func8, Tryz.ntmps8
  go_upto_region 1 with fail
  change Code.wp _ _ _ _ (w.alloc (.cells #[.int .i64 h.se, .int .i32 h.xi, .int .i64 h.zx, .int .i64 h.ti, .int .i32 h.t.n.ty, .string h.t.n.path, slV h.t.d, slV h.t.a, .int .i64 h.t.n.ow, .int .i32 h.t.n.ve, .int .i32 h.t.n.cr, .bool h.t.n.qh, .int .i64 h.t.n.qc, .int .i64 h.t.n.qb, .int .i64 h.t.n.si, .int .i32 h.t.n.st, slV h.t.i, slV h.t.p, .int .i32 h.t.n.co, slV h.t.s] 35))
  generalize w.alloc (.cells #[.int .i64 h.se, .int .i32 h.xi, .int .i64 h.zx, .int .i64 h.ti, .int .i32 h.t.n.ty, .string h.t.n.path, slV h.t.d, slV h.t.a, .int .i64 h.t.n.ow, .int .i32 h.t.n.ve, .int .i32 h.t.n.cr, .bool h.t.n.qh, .int .i64 h.t.n.qc, .int .i64 h.t.n.qb, .int .i64 h.t.n.si, .int .i32 h.t.n.st, slV h.t.i, slV h.t.p, .int .i32 h.t.n.co, slV h.t.s] 35) = W at *
  go_wp2_with fail
  refine HAL.out.mono ?_
  rintro e w1 ⟨rfl, hb2⟩
  have HB2 := Lib.hid (HB1.out.trans (hb2.mono HB1.out.size))
  have g1 := (hb2.block w.heap.size (by have := HZ.out; omega)).trans g0
  clear hb2 g0 HAL HB1
  have HBG := Lib.hid (bigDl_any d h w1 _ (HDW.out _ HB2.out) HSM.out)
  go_wp2_with (first | (apply wpList_loadRow 35 35; exact rfl; exact rfl; exact rfl; assumption; exact undDl; exact rfl; exact infDl) | fail)
  refine HBG.out.mono ?_
  rintro e w2 ⟨⟨b, rfl⟩, hb3⟩
  have HB3 := Lib.hid (HB2.out.trans (hb3.mono HB2.out.size))
  have g2 := (hb3.block w.heap.size (Array.getElem?_eq_some_iff.1 g1).1).trans g1
  clear hb3 g1 HBG HB2
  cases b
  case true =>
    go_wp2_with fail
    go_ret
    exact RetB.mk HB3.out rfl
  go_upto_region 5 with fail
  have HSO := Lib.hid (fun (V9 : World) (hV : Below w2.drew.heap.size w2.drew V9) => (show (fun V => V.rangeAt (w.heap.size) 0 [.int .i64 h.se, .int .i32 h.xi, .int .i64 h.zx, .int .i64 h.ti, .int .i32 h.t.n.ty, .string h.t.n.path, slV h.t.d, slV h.t.a, .int .i64 h.t.n.ow, .int .i32 h.t.n.ve, .int .i32 h.t.n.cr, .bool h.t.n.qh, .int .i64 h.t.n.qc, .int .i64 h.t.n.qb, .int .i64 h.t.n.si, .int .i32 h.t.n.st, slV h.t.i, slV h.t.p, .int .i32 h.t.n.co, slV h.t.s]) V9 from rangeAt_heapC (pre := []) (mid := [.int .i64 h.se, .int .i32 h.xi, .int .i64 h.zx, .int .i64 h.ti, .int .i32 h.t.n.ty, .string h.t.n.path, slV h.t.d, slV h.t.a, .int .i64 h.t.n.ow, .int .i32 h.t.n.ve, .int .i32 h.t.n.cr, .bool h.t.n.qh, .int .i64 h.t.n.qc, .int .i64 h.t.n.qb, .int .i64 h.t.n.si, .int .i32 h.t.n.st, slV h.t.i, slV h.t.p, .int .i32 h.t.n.co, slV h.t.s]) (post := []) ((hV.block _ (by have h8 := (Array.getElem?_eq_some_iff.1 g2).1; have h9 := (drew_self w2).size; omega)).trans (((drew_self w2).block _ (Array.getElem?_eq_some_iff.1 g2).1).trans g2)) rfl rfl))
  have HB0 := Lib.hid (HB3.out.trans ((drew_self w2).mono HB3.out.size))
  refine wp_region_M (S := fun V => V.rangeAt (w.heap.size) 0 [.int .i64 h.se, .int .i32 h.xi, .int .i64 h.zx, .int .i64 h.ti, .int .i32 h.t.n.ty, .string h.t.n.path, slV h.t.d, slV h.t.a, .int .i64 h.t.n.ow, .int .i32 h.t.n.ve, .int .i32 h.t.n.cr, .bool h.t.n.qh, .int .i64 h.t.n.qc, .int .i64 h.t.n.qb, .int .i64 h.t.n.si, .int .i32 h.t.n.st, slV h.t.i, slV h.t.p, .int .i32 h.t.n.co, slV h.t.s]) 5 (by kernel_rfl) (HSO.out _ (Below.refl _ _)) (fun hHeld => ?_)
  clear g2
  generalize w2.drew = W0 at *
  refine wpAnyM_take (i := 0) (v := .agg #[.int .i64 h.se, .int .i32 h.xi, .int .i64 h.zx, .int .i64 h.ti, .int .i32 h.t.n.ty, .string h.t.n.path, slV h.t.d, slV h.t.a, .int .i64 h.t.n.ow, .int .i32 h.t.n.ve, .int .i32 h.t.n.cr, .bool h.t.n.qh, .int .i64 h.t.n.qc, .int .i64 h.t.n.qb, .int .i64 h.t.n.si, .int .i32 h.t.n.st, slV h.t.i, slV h.t.p, .int .i32 h.t.n.co, slV h.t.s]) rfl (by kernel_rfl) (fun _ _ _ h => h) (yieldsIf_load_mid (by rfl) 35 _ rfl (w.heap.size) 0 rfl [.int .i64 h.se, .int .i32 h.xi, .int .i64 h.zx, .int .i64 h.ti, .int .i32 h.t.n.ty, .string h.t.n.path, slV h.t.d, slV h.t.a, .int .i64 h.t.n.ow, .int .i32 h.t.n.ve, .int .i32 h.t.n.cr, .bool h.t.n.qh, .int .i64 h.t.n.qc, .int .i64 h.t.n.qb, .int .i64 h.t.n.si, .int .i32 h.t.n.st, slV h.t.i, slV h.t.p, .int .i32 h.t.n.co, slV h.t.s] _ (fun _ h => h) undDl rfl infDl) (by assumption) ?_
  (try simp only [List.getElem_toArray, List.getElem_cons_succ, List.getElem_cons_zero, Act.put, List.setIfInBounds_toArray, List.set_cons_zero, List.set_cons_succ])
  refine wpAnyM_take (i := 2) (v := .agg #[.int .i64 h.se, .int .i32 h.xi, .int .i64 h.zx, .int .i64 h.ti, .int .i32 h.t.n.ty, .string h.t.n.path, slV h.t.d, slV h.t.a, .int .i64 h.t.n.ow, .int .i32 h.t.n.ve, .int .i32 h.t.n.cr, .bool h.t.n.qh, .int .i64 h.t.n.qc, .int .i64 h.t.n.qb, .int .i64 h.t.n.si, .int .i32 h.t.n.st, slV h.t.i, slV h.t.p, .int .i32 h.t.n.co, slV h.t.s]) rfl (by kernel_rfl) (fun _ _ _ h => h) (yieldsIf_load_mid (by rfl) 35 _ rfl (w.heap.size) 0 rfl [.int .i64 h.se, .int .i32 h.xi, .int .i64 h.zx, .int .i64 h.ti, .int .i32 h.t.n.ty, .string h.t.n.path, slV h.t.d, slV h.t.a, .int .i64 h.t.n.ow, .int .i32 h.t.n.ve, .int .i32 h.t.n.cr, .bool h.t.n.qh, .int .i64 h.t.n.qc, .int .i64 h.t.n.qb, .int .i64 h.t.n.si, .int .i32 h.t.n.st, slV h.t.i, slV h.t.p, .int .i32 h.t.n.co, slV h.t.s] _ (fun _ h => h) undDl rfl infDl) (by assumption) ?_
  (try simp only [List.getElem_toArray, List.getElem_cons_succ, List.getElem_cons_zero, Act.put, List.setIfInBounds_toArray, List.set_cons_zero, List.set_cons_succ])
  refine wpAnyM_one (i := 1) rfl (by kernel_rfl) (fun K hK => ?_)
  go_simp
  refine (steps_any h d W0 _ (HDW.out _ HB0.out) (HE.out.below (Nat.le_refl _) HB0.out) HSM.out).mono ?_
  rintro e W1 ⟨⟨A1, c1, rfl, hq⟩, hb⟩
  dsimp only
  have HB1 := Lib.hid (HB0.out.trans (hb.mono HB0.out.size))
  replace HSO := Lib.hid (fun (V9 : World) (hV : Below W1.heap.size W1 V9) => HSO.out V9 (hb.trans (hV.mono hb.size)))
  have HT1 := Lib.hid (fun (V9 : World) (hV : Below W1.heap.size W1 V9) => hq.txl.below hV)
  clear hq
  replace hHeld := HSO.out _ (Below.refl _ _)
  refine hK.out _ _ hHeld ?_
  clear hK K hb
  (try simp only [List.getElem_toArray, List.getElem_cons_succ, List.getElem_cons_zero, Act.put, List.setIfInBounds_toArray, List.set_cons_zero, List.set_cons_succ])
  refine wpAnyM_one (i := 3) rfl (by kernel_rfl) (fun K hK => ?_)
  go_simp
  refine (touched_any h d W1 _ (HDW.out _ HB1.out) (HE.out.below (Nat.le_refl _) HB1.out) HSM.out).mono ?_
  rintro e W2 ⟨A2, c2, rfl, hq, hb⟩
  dsimp only
  have HB2 := Lib.hid (HB1.out.trans (hb.mono HB1.out.size))
  replace HSO := Lib.hid (fun (V9 : World) (hV : Below W2.heap.size W2 V9) => HSO.out V9 (hb.trans (hV.mono hb.size)))
  replace HT1 := Lib.hid (HT1.out _ hb)
  have HT2 := Lib.hid (show Sl W2 W2.heap.size encStr 1 A2 (touchD d).length (touchD d) from Sl.of_own (fun _ => rfl) hq rfl)
  clear hq
  replace hHeld := HSO.out _ (Below.refl _ _)
  refine hK.out _ _ hHeld ?_
  clear hK K hb
  (try simp only [List.getElem_toArray, List.getElem_cons_succ, List.getElem_cons_zero, Act.put, List.setIfInBounds_toArray, List.set_cons_zero, List.set_cons_succ])
  refine wpAnyM_take (i := 4) (v := .slice A1 (stepsD d).length c1) rfl (by kernel_rfl) (fun _ _ _ h => h) (Or.inl ⟨by rfl, by intro w hSw; clear hSw; go_simp⟩) (by assumption) ?_
  (try simp only [List.getElem_toArray, List.getElem_cons_succ, List.getElem_cons_zero, Act.put, List.setIfInBounds_toArray, List.set_cons_zero, List.set_cons_succ])
  refine wpAnyM_tail (n := 5) (by kernel_rfl) ?_
  simp only [List.drop_succ_cons, List.drop_zero]
  have g3 := hHeld
  have HRI := Lib.hid (right13_any h d W2 _ (HDW.out _ HB2.out) (HE.out.below (Nat.le_refl _) HB2.out) HSM.out)
  clear hHeld HSO
  have HNS := Lib.hid (stepsD_le HSM.out.2.top.2.2.2.2.2.2.1 HSM.out.2.top.2.2.2.2.2.1)
  have HPZ := Lib.hid (path_steps HSM.out)
  go_wp2_with (first | (apply wpList_loadMid 35; exact rfl; exact rfl; exact rfl; exact (by assumption); exact undDl; exact rfl; exact infDl) | fail)
  refine HRI.out.mono ?_
  rintro e w3 ⟨rfl, hb5⟩
  have HB5 := Lib.hid (HB2.out.trans (hb5.mono HB2.out.size))
  replace HT1 := Lib.hid (HT1.out.below hb5)
  replace HT2 := Lib.hid (HT2.out.belowMore hb5 hb5.size)
  clear hb5 g3 HRI
  by_cases hr0 : rightE d = 0
  case neg =>
    have hs0 : (stepsD d).length = 0 := by rw [stepsD_no hr0]; rfl
    have ht0 : (touchD d).length = 0 := by rw [touch_eq, stepsD_no hr0]; rfl
    rw [hs0, ht0]
    generalize rightE d = x at *
    have d1 : (x != 0) = true := bne_iff_ne.2 hr0
    clear hr0 hs0 ht0
    go_wp2_with fail
    go_ret
    exact RetB.mk HB5.out rfl
  have HSN := Lib.hid (steps_named hr0)
  rw [hr0]
  clear hr0
  have HTE := Lib.hid (show touchD d = sortS (keysOf (tKeys (stepsD d))) from rfl)
  have HKN := Lib.hid (show (keysOf (tKeys (stepsD d))).length = (touchD d).length by rw [HTE.out, (sortS_perm _).length_eq])
  have HUP := Lib.hid (show (touchD d).Pairwise ltB by rw [HTE.out]; exact sortS_up (keysOf_nodup _))
  have HMK := Lib.hid (show ∀ x ∈ touchD d, x ∈ keysOf (tKeys (stepsD d)) by intro x hx; rw [HTE.out] at hx; exact (sortS_perm _).mem_iff.1 hx)
  have HTL := Lib.hid (touch_le HSM.out)
  generalize touchD d = ms at *
  generalize hXS : stepsD d = xs at *
  clear hXS
  obtain ⟨Hs, hrow, hHt⟩ := HT1.out
  have HRW := Lib.hid hrow; have HHT := Lib.hid hHt
  clear hrow hHt
  have hmm := @run_makeMap Tryz.prog
  have hb6 : Below w3.heap.size w3 (w3.alloc (.map #[] 0)) := (Below.refl _ w3).alloc (Nat.le_refl _) _
  have HM0 := Lib.hid (show KeyV (w3.alloc (.map #[] 0)) w3.heap.size [] from ⟨[], MapK.made w3, rfl, fun x hx => by cases hx⟩)
  have HF0 := Lib.hid (show Fr [w3.heap.size] w3 (w3.alloc (.map #[] 0)) from ⟨hb6.os, hb6.tape, hb6.output, hb6.size, fun g hg _ => hb6.block g hg⟩)
  clear hb6
  have hns := HNS.out
  go_upto_region 9 with fail
  generalize w3.alloc (.map #[] 0) = w4 at *
  clear hmm
  go_wp2_with fail
  go_loopw [6, 7, 8] (fun i _ _ wr => ∃ k : Nat, i = .int .i64 ↑k ∧ k ≤ xs.length ∧ Fr [w3.heap.size] w3 wr ∧ KeyV wr w3.heap.size (keysOf (tKeys (xs.take k)))) (fun i _ _ _ => xs.length - (RowKit.intOf i).toNat)
  case atStart => exact ⟨0, rfl, Nat.zero_le _, HF0.out, HM0.out⟩
  case round =>
    obtain ⟨k, rfl, hk, hf, hkv⟩ := hrel
    have HF := Lib.hid hf; have HKV := Lib.hid hkv
    clear hkv
    by_cases hlt : k < xs.length
    · have hlt2 : (k : Int) < (xs.length : Int) := by omega
      have hk0 : (0 : Int) ≤ (k : Int) := by omega
      obtain ⟨b2, off, ea, -, hca⟩ := HRW.out.2.2 (Nat.lt_of_le_of_lt (Nat.zero_le _) hlt)
      have ea : A1 = some ⟨b2, off, none⟩ := ea
      subst ea
      have HC := Lib.hid (fun (V9 : World) (hV : Fr [w3.heap.size] w3 V9) => (show V9.rangeAt b2 (off + k * 16) (encTx Hs[k]!) from fun i u hu => by
        have h1 := hca k hlt i u hu
        have h2 := World.block_lt_of_cell? w3 _ h1
        exact (hV.cell (p := ⟨b2, off + k * 16 + i, none⟩) h2 (by simp; exact Nat.ne_of_lt h2)).trans h1))
      have hm : xs[k]! ∈ xs := by rw [getElem!_pos xs k hlt]; exact List.getElem_mem hlt
      have HJN := Lib.hid (HHT.out k hlt).loc.1
      have HLT := Lib.hid hlt
      have hpz : Hs[k]!.n.path.size ≤ 1048576 := by rw [← HJN.out]; exact HPZ.out _ hm
      have HNM := Lib.hid (show (Hs[k]!.n.ty = 1 ∨ Hs[k]!.n.ty = 2) → (validP Hs[k]!.n.path && !decide (Hs[k]!.n.path = sSlash)) = true by rw [← HJN.out]; exact HSN.out _ hm)
      have HSC := Lib.hid (tKeys_snoc (l := xs) hlt)
      have HTY := Lib.hid (show tKey xs[k]! = if Hs[k]!.n.ty = 1 ∨ Hs[k]!.n.ty = 2 then [Hs[k]!.n.path, parE Hs[k]!.n.path] else [Hs[k]!.n.path] by unfold tKey; rw [HJN.out])
      have y1 : wr.cell? ⟨b2, off + k * 16 + 1, none⟩ = some (.string Hs[k]!.n.path) := HC.out wr hf 1 _ rfl
      obtain ⟨w5, r5, m5, g5, z5⟩ := KeyV.add HKV.out (p := Hs[k]!.n.path) hpz
      have HF5 := Lib.hid (hf.trans (Fr.of_grown (own := [w3.heap.size]) g5 (by simp)) (fun g hg => .inl hg))
      have HM5 := Lib.hid m5
      have y2 : w5.cell? ⟨b2, off + k * 16, none⟩ = some (.int .i32 Hs[k]!.n.ty) := HC.out w5 HF5.out 0 _ rfl
      have y3 : w5.cell? ⟨b2, off + k * 16 + 1, none⟩ = some (.string Hs[k]!.n.path) := HC.out w5 HF5.out 1 _ rfl
      have HPZK := Lib.hid hpz
      clear hca hf g5 m5 z5 hm hpz HC
      generalize Hs[k]! = hj at *
      by_cases hty : hj.n.ty = 1 ∨ hj.n.ty = 2
      · have hvp := HNM.out hty
        have HBW := Lib.hid (HB5.out.trans (HF5.out.below HB5.out.size (fun g hg => by rw [List.mem_singleton.1 hg]; exact HB5.out.size)))
        have HPA := Lib.hid (parent_any hj.n.path (Nat.lt_of_le_of_lt HPZK.out (by decide)) w5 (HE.out.below (Nat.le_refl _) HBW.out))
        have HPE := Lib.hid (show (if validP hj.n.path && !decide (hj.n.path = sSlash) then parP hj.n.path else ⟨#[]⟩) = parE hj.n.path from rfl)
        have HPI := Lib.hid (show (if validP hj.n.path && !decide (hj.n.path = sSlash) then (0 : Int) else 30) = 0 from if_pos hvp)
        have HK2 := Lib.hid (show keysOf (tKeys (xs.take (k + 1))) = addK (addK (keysOf (tKeys (xs.take k))) hj.n.path) (parE hj.n.path) by
          rw [HSC.out, HTY.out, if_pos hty, show tKeys (xs.take k) ++ [hj.n.path, parE hj.n.path] = (tKeys (xs.take k) ++ [hj.n.path]) ++ [parE hj.n.path] by simp, keysOf_snoc, keysOf_snoc])
        have HFIN := Lib.hid (fun (V9 : World) (hb : Below w5.heap.size w5 V9) => (show ∃ w7, (Instr.mapUpdate 61 (.map (some w3.heap.size)) (.string (parE hj.n.path)) (.int .i64 1)).run Tryz.prog V9 = .ok () w7 ∧ Fr [w3.heap.size] w3 w7 ∧ KeyV w7 w3.heap.size (keysOf (tKeys (xs.take (k + 1)))) by
          obtain ⟨w7, r7, m7, g7, z7⟩ := KeyV.add (HM5.out.of_heap (hb.block _ HM5.out.lt)) (p := parE hj.n.path) (Nat.le_trans (parE_size _) HPZK.out)
          exact ⟨w7, r7, (HF5.out.trans (Fr.of_below (own := []) hb) (fun g hg => by simp at hg)).trans (Fr.of_grown (own := [w3.heap.size]) g7 (by simp)) (fun g hg => .inl hg), by rw [HK2.out]; exact m7⟩))
        clear hvp HNM
        rcases hty with hty | hty
        · have b1 : (hj.n.ty == 1) = true := by rw [hty]; rfl
          clear hty
          go_wp2_with fail
          refine HPA.out.mono ?_
          rintro e w6 ⟨rfl, hb7⟩
          rw [HPE.out, HPI.out]
          obtain ⟨w7, r7, f7, k7⟩ := HFIN.out w6 hb7
          have HF7 := Lib.hid f7; have HK7 := Lib.hid k7
          clear f7 k7 hb7 r5 y1 y2 y3 HPA HFIN HPE HPI
          go_wp2_with fail
          go_roundw
          case rel => exact ⟨k + 1, by go_num, HLT.out, HF7.out, HK7.out⟩
          case measure => have := HLT.out; simp [RowKit.intOf]; omega
        · have b1 : (hj.n.ty == 1) = false := by rw [hty]; rfl
          have b2' : (hj.n.ty == 2) = true := by rw [hty]; rfl
          clear hty
          go_wp2_with fail
          refine HPA.out.mono ?_
          rintro e w6 ⟨rfl, hb7⟩
          rw [HPE.out, HPI.out]
          obtain ⟨w7, r7, f7, k7⟩ := HFIN.out w6 hb7
          have HF7 := Lib.hid f7; have HK7 := Lib.hid k7
          clear f7 k7 hb7 r5 y1 y2 y3 HPA HFIN HPE HPI
          go_wp2_with fail
          go_roundw
          case rel => exact ⟨k + 1, by go_num, HLT.out, HF7.out, HK7.out⟩
          case measure => have := HLT.out; simp [RowKit.intOf]; omega
      · have b1 : (hj.n.ty == 1) = false := beq_eq_false_iff_ne.2 fun e => hty (.inl e)
        have b2' : (hj.n.ty == 2) = false := beq_eq_false_iff_ne.2 fun e => hty (.inr e)
        have HK2 := Lib.hid (show keysOf (tKeys (xs.take (k + 1))) = addK (keysOf (tKeys (xs.take k))) hj.n.path by rw [HSC.out, HTY.out, if_neg hty, keysOf_snoc])
        clear hty HNM
        go_wp2_with fail
        go_roundw
        case rel => exact ⟨k + 1, by go_num, HLT.out, HF5.out, by rw [HK2.out]; exact HM5.out⟩
        case measure => have := HLT.out; simp [RowKit.intOf]; omega
    obtain rfl : k = xs.length := by omega
    have hlt2 : ¬ ((xs.length : Int) < (xs.length : Int)) := by omega
    rw [List.take_length] at HKV
    have HBW := Lib.hid (HB5.out.trans (HF.out.below HB5.out.size (fun g hg => by rw [List.mem_singleton.1 hg]; exact HB5.out.size)))
    have HS2 := Lib.hid (show Sl wr w3.heap.size encStr 1 A2 ms.length ms from HT2.out.keep fun p hp => HF.out.cell hp (by simp; omega))
    have htl := HTL.out
    clear hf
    go_wp2_with fail
    go_loopw [9] (fun i wx => ∃ k q : Nat, i = .int .i64 ↑k ∧ k ≤ ms.length ∧ wx = wr.drewN q) (fun i _ => ms.length - (RowKit.intOf i).toNat)
    case atStart => exact ⟨0, 0, rfl, Nat.zero_le _, rfl⟩
    case round =>
    obtain ⟨k, q, rfl, hk, rfl⟩ := hrel
    have HLN := Lib.hid (KeyV.len (KeyV.of_heap (w' := wr.drewN q) HKV.out rfl))
    have HGT := Lib.hid (fun (p : ByteArray) (hp : p ∈ ms) (hz : p.size ≤ 1048576) (V9 : World) (hV : V9.heap[w3.heap.size]? = (wr.drewN q).heap[w3.heap.size]?) => KeyV.get (KeyV.of_heap (w' := wr.drewN q) HKV.out rfl) hz (HMK.out p hp) V9 hV)
    have HSV := Lib.hid (show Sl (wr.drewN q) w3.heap.size encStr 1 A2 ms.length ms from HS2.out)
    generalize hV : wr.drewN q = V at *
    have HVE := Lib.hid hV
    clear hV
    by_cases hlt : k < ms.length
    · have hlt2 : (k : Int) < (ms.length : Int) := by omega
      have hk0 : (0 : Int) ≤ (k : Int) := by omega
      obtain ⟨b2, off, ea, -, hca⟩ := HSV.out.2 (Nat.lt_of_le_of_lt (Nat.zero_le _) hlt)
      subst ea
      have x0 : V.cell? ⟨b2, off + k, none⟩ = some (.string ms[k]!) := by have := hca k hlt 0 (.string ms[k]!) rfl; simpa using this
      have hmm : ms[k]! ∈ ms := by rw [getElem!_pos ms k hlt]; exact List.getElem_mem hlt
      have hmz : ms[k]!.size ≤ 1048576 := by
        have h1 := (mem_keysOf _ _).1 (HMK.out _ hmm)
        exact tKeys_size (fun t ht => HPZ.out t ht) _ h1
      have hlk : ∀ q9 : Nat, (Instr.lookup 61 (.map (some w3.heap.size)) (.string ms[k]!) false).run Tryz.prog (V.drewN q9) = .ok (.int .i64 1) (V.drewN q9) := fun q9 => HGT.out _ hmm hmz _ rfl
      have hlk0 : (Instr.lookup 61 (.map (some w3.heap.size)) (.string ms[k]!) false).run Tryz.prog V = .ok (.int .i64 1) V := HGT.out _ hmm hmz _ rfl
      have HLT := Lib.hid hlt
      rcases Nat.eq_zero_or_pos k with hk1 | hk1
      · subst hk1
        rw [Nat.add_zero] at x0
        clear hca hmm hmz HGT
        generalize ms[0]! = x at *
        go_wp2_with fail
        go_quiet (fail)
        go_wp2_with fail
        go_roundw
        case rel => exact ⟨1, q + nq, by go_num, HLT.out, by rw [← HVE.out]; simp only [World.drewN_drewN]⟩
        case measure => have := HLT.out; simp [RowKit.intOf]; omega
      · obtain ⟨j, rfl⟩ : ∃ j, k = j + 1 := ⟨k - 1, by omega⟩
        have hj : j < ms.length := by omega
        have x1 : V.cell? ⟨b2, off + j, none⟩ = some (.string ms[j]!) := by have := hca j hj 0 (.string ms[j]!) rfl; simpa using this
        have hup : cmpB ms[j]! ms[j + 1]! < 0 := by
          have := List.pairwise_iff_getElem.1 HUP.out j (j + 1) hj HLT.out (Nat.lt_succ_self j)
          rw [getElem!_pos ms j hj, getElem!_pos ms (j + 1) HLT.out]
          exact (cmp_lt _ _).2 this
        have hup : ¬ (Lib.compareBytes ms[j]!.data.toList ms[j + 1]!.data.toList ≥ 0) := by have h9 : Lib.compareBytes ms[j]!.data.toList ms[j + 1]!.data.toList < 0 := hup; omega
        have hOR := fun q9 : Nat => (order_any ms[j]! ms[j + 1]! (V.drewN q9)).mono (R' := fun e w' => e = .returned (.int .i64 (Lib.compareBytes ms[j]!.data.toList ms[j + 1]!.data.toList)) ∧ ∃ n, w' = V.drewN n) fun e w' ⟨h1, h2⟩ => ⟨h1, q9, h2⟩
        have HOR := Lib.hid hOR
        clear hOR
        have ej : ((j + 1 : Nat) : Int) = (j : Int) + 1 := by omega
        rw [ej] at hlt2 hk0 ⊢
        have hgt : (j : Int) + 1 > 0 := by omega
        have hw1 : IntKind.i64.wrap (j : Int) = (j : Int) := IntWalk.i64_in _ (by omega)
        have hj0 : (0 : Int) ≤ (j : Int) := by omega
        have hj1 : (j : Int) < (ms.length : Int) := by omega
        have hnat : ((j : Int) + 1).toNat = j + 1 := by omega
        have hb2 : (0 : Int) ≤ (j : Int) + 1 ∧ (j : Int) + 1 < (ms.length : Int) := ⟨hk0, hlt2⟩
        clear hca hmm hmz HGT ej
        generalize ms[j]! = y at *
        generalize ms[j + 1]! = x at *
        go_wp2_with fail
        go_quiet (exact HOR.out _)
        go_wp2_with fail
        go_roundw
        case rel => exact ⟨j + 1 + 1, q + nq, by go_num, HLT.out, by rw [← HVE.out]; simp only [World.drewN_drewN]⟩
        case measure => have := HLT.out; simp [RowKit.intOf]; omega
    obtain rfl : k = ms.length := by omega
    have hlt2 : ¬ ((ms.length : Int) < (ms.length : Int)) := by omega
    have hln := HLN.out
    rw [HKN.out] at hln
    have HEND := Lib.hid (show Below w.heap.size w V from HBW.out.trans (by rw [← HVE.out]; exact (drewN_self wr q).mono HBW.out.size))
    go_wp2_with fail
    go_ret
    exact RetB.mk HEND.out rfl
end Go.Proofs.YthpjneobmmpbnaaGreatDoor
