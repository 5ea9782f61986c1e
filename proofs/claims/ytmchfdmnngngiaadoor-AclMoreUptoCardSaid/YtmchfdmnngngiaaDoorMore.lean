/- The walk of arborlaw06.AclMore. -/
import Derived.Test.YtmchfdmnngngiaaDoorApp7
import Derived.Test.YtmchfdmnngngiaaDoorKeptP
namespace Go.Proofs.YtmchfdmnngngiaaDoor
open Go.RowKit
theorem keepB {B : Nat} {w w' : World} {a : Addr} {v v0 : Value} {W : World} (hW : W.cell? a = some v0) (hB : W.heap.size ≤ B) (h : w.cell? a = some v) (hb : Below B w w') : w'.cell? a = some v :=
  (hb.cell (Nat.lt_of_lt_of_le (World.block_lt_of_cell? W _ hW) hB)).trans h
theorem sKeepB5 {W w w' : World} {a0 a1 a2 a3 a4 : Addr} {v0 v1 v2 v3 v4 : Value} (hb : Below W.heap.size w w') (h0 : Below W.heap.size W W ∧ W.cell? a0 = some v0 ∧ W.cell? a1 = some v1 ∧ W.cell? a2 = some v2 ∧ W.cell? a3 = some v3 ∧ W.cell? a4 = some v4)
    (h : Below W.heap.size W w ∧ w.cell? a0 = some v0 ∧ w.cell? a1 = some v1 ∧ w.cell? a2 = some v2 ∧ w.cell? a3 = some v3 ∧ w.cell? a4 = some v4) :
    Below W.heap.size W w' ∧ w'.cell? a0 = some v0 ∧ w'.cell? a1 = some v1 ∧ w'.cell? a2 = some v2 ∧ w'.cell? a3 = some v3 ∧ w'.cell? a4 = some v4 :=
  ⟨h.1.trans hb, keepB h0.2.1 (Nat.le_refl _) h.2.1 hb, keepB h0.2.2.1 (Nat.le_refl _) h.2.2.1 hb, keepB h0.2.2.2.1 (Nat.le_refl _) h.2.2.2.1 hb, keepB h0.2.2.2.2.1 (Nat.le_refl _) h.2.2.2.2.1 hb, keepB h0.2.2.2.2.2 (Nat.le_refl _) h.2.2.2.2.2 hb⟩
theorem small_oneA {a : AclV} (h : a.2.1.size ≤ 1048576 ∧ a.2.2.size ≤ 1048576) : SmallA [a] 1 := fun j hj => by
  have : j = 0 := by omega
  subst this
  exact ⟨Nat.le_trans h.1 (by decide), Nat.le_trans h.2 (by decide)⟩
theorem small_oneI {a : IdV} (h : a.1.size ≤ 1048576 ∧ a.2.size ≤ 1048576) : SmallI [a] 1 := fun j hj => by
  have : j = 0 := by omega
  subst this
  exact ⟨Nat.le_trans h.1 (by decide), Nat.le_trans h.2 (by decide)⟩
def sX : ByteArray := ⟨#[120]⟩
theorem ArgI.le24 {w : World} {A : Option Addr} {n c : Nat} {l : List IdV} (h : ArgI w A n c l) : n ≤ 1048576 := h.2.2.1
theorem ArgA.le24 {w : World} {A : Option Addr} {n c : Nat} {l : List AclV} (h : ArgA w A n c l) : n ≤ 1048576 := h.2.2.1
set_option maxRecDepth 100000 in
set_option maxHeartbeats 4000000 in
theorem aclMore_any (A0 : Option Addr) (n0 c0 : Nat) (l0 : List AclV) (p : Int) (A2 : Option Addr) (n2 c2 : Nat) (l2 : List IdV) (p3 : Int) (s3 t3 s4 t4 : ByteArray) (w : World) (hE : Env w) (o0 : ArgA w A0 n0 c0 l0) (o2 : ArgI w A2 n2 c2 l2)
    (o3 : s3.size ≤ 1048576 ∧ t3.size ≤ 1048576) (o4 : s4.size ≤ 1048576 ∧ t4.size ≤ 1048576) :
    Calls Tryd.prog 8 #[.slice A0 n0 c0, .int .i32 p, .slice A2 n2 c2, .agg #[.int .i32 p3, .string s3, .string t3], .agg #[.string s4, .string t4]] w (RetB w true) := by
  have hb0 : Below w.heap.size w ((w.alloc (.cells #[.int .i32 p3, .string s3, .string t3] 42)).alloc (.cells #[.string s4, .string t4] 27)) := ((Below.refl _ w).alloc (Nat.le_refl _) _).alloc (by simp) _
  obtain ⟨m0, HM0⟩ : ∃ m, Hid (mayP l0 p l2 = m) := ⟨_, Lib.hid rfl⟩
  have cNil : ∀ W, Below w.heap.size w W → Calls Tryd.prog 12 #[.slice none 0 0, .int .i32 p, .slice A2 n2 c2] W (RetB W true) := fun W hb =>
    may_any none 0 0 [] _ _ _ _ _ _ (hE.later hb) Sl.nil_ (by decide) (o2.below hb).1 o2.n_le (fun j hj => absurd hj (by omega)) o2.small
  have cL : ∀ W, Below w.heap.size w W → Calls Tryd.prog 12 #[.slice A0 n0 c0, .int .i32 p, .slice A2 n2 c2] W (RetB W m0) := fun W hb => by
    rw [← HM0.out]; exact may_any _ _ _ _ _ _ _ _ _ _ (hE.later hb) (o0.below hb).1 o0.n_le (o2.below hb).1 o2.n_le o0.small o2.small
  have cSup : ∀ W A c, Below w.heap.size w W → Sl W W.heap.size encId 2 A (n2 + 1) (l2 ++ [(sSuper, sX)]) → Calls Tryd.prog 12 #[.slice A0 n0 c0, .int .i32 p, .slice A (n2 + 1) c] W (RetB W true) := fun W A c hb hs => by
    rw [← mayP_super l0 p l2 sX]
    exact may_any _ _ _ _ _ _ _ _ _ _ (hE.later hb) (o0.below hb).1 o0.n_le hs (by have := o2.le24; omega) o0.small (small_appI o2.1.len o2.small (small_oneI (by decide)))
  have cId : m0 = true → ∀ W A c, Below w.heap.size w W → Sl W W.heap.size encId 2 A (n2 + 1) (l2 ++ [(s4, t4)]) → Calls Tryd.prog 12 #[.slice A0 n0 c0, .int .i32 p, .slice A (n2 + 1) c] W (RetB W true) := fun hm W A c hb hs => by
    rw [← mayP_more l0 p l2 (s4, t4) (HM0.out.trans hm)]
    exact may_any _ _ _ _ _ _ _ _ _ _ (hE.later hb) (o0.below hb).1 o0.n_le hs (by have := o2.le24; omega) o0.small (small_appI o2.1.len o2.small (small_oneI o4))
  have cSnoc : m0 = true → l0 ≠ [] → ∀ W A c, Below w.heap.size w W → Sl W W.heap.size encAcl 3 A (n0 + 1) (l0 ++ [(p3, s3, t3)]) → Calls Tryd.prog 12 #[.slice A (n0 + 1) c, .int .i32 p, .slice A2 n2 c2] W (RetB W true) := fun hm hne W A c hb hs => by
    rw [show true = mayP (l0 ++ [(p3, s3, t3)]) p l2 from by rw [mayP_app l0 _ p l2 hne (by simp), HM0.out, hm]; rfl]
    exact may_any _ _ _ _ _ _ _ _ _ _ (hE.later hb) hs (by have := o0.le24; omega) (o2.below hb).1 o2.n_le (small_app o0.1.len o0.small (small_oneA o3)) o2.small
  have cCons : m0 = true → l0 ≠ [] → ∀ W A c, Below w.heap.size w W → Sl W W.heap.size encAcl 3 A (1 + n0) ([(p3, s3, t3)] ++ l0) → Calls Tryd.prog 12 #[.slice A (1 + n0) c, .int .i32 p, .slice A2 n2 c2] W (RetB W true) := fun hm hne W A c hb hs => by
    rw [show true = mayP ([(p3, s3, t3)] ++ l0) p l2 from by rw [mayP_app _ l0 p l2 (by simp) hne, HM0.out, hm]; simp]
    exact may_any _ _ _ _ _ _ _ _ _ _ (hE.later hb) hs (by have := o0.le24; omega) (o2.below hb).1 o2.n_le (small_app rfl (small_oneA o3) o0.small) o2.small
  have HE := Lib.hid hE; clear hE
  have HId := Lib.hid cId; clear cId
  have HSnoc := Lib.hid cSnoc; clear cSnoc
  have HCons := Lib.hid cCons; clear cCons
  have H0 := Lib.hid o0; clear o0
  have H2 := Lib.hid o2; clear o2
  clear o3 o4
  have hN : ((n0 : Int) == 0) = decide (n0 = 0) := by by_cases h : n0 = 0 <;> simp [h]
  have HNE : Hid (n0 ≠ 0 → l0 ≠ []) := Lib.hid (fun h e => h (by rw [← H0.out.1.len, e]; rfl))
  go_enter Tryd.func8, Tryd.ntmps8
  go_wp2_with fail
  go_at_call 11
  have hS : Below ((w.alloc (.cells #[.int .i32 p3, .string s3, .string t3] 42)).alloc (.cells #[.string s4, .string t4] 27)).heap.size ((w.alloc (.cells #[.int .i32 p3, .string s3, .string t3] 42)).alloc (.cells #[.string s4, .string t4] 27)) ((w.alloc (.cells #[.int .i32 p3, .string s3, .string t3] 42)).alloc (.cells #[.string s4, .string t4] 27)) ∧
    ((w.alloc (.cells #[.int .i32 p3, .string s3, .string t3] 42)).alloc (.cells #[.string s4, .string t4] 27)).cell? ⟨w.heap.size, 0, none⟩ = some (.int .i32 p3) ∧
    ((w.alloc (.cells #[.int .i32 p3, .string s3, .string t3] 42)).alloc (.cells #[.string s4, .string t4] 27)).cell? ⟨w.heap.size, 1, none⟩ = some (.string s3) ∧
    ((w.alloc (.cells #[.int .i32 p3, .string s3, .string t3] 42)).alloc (.cells #[.string s4, .string t4] 27)).cell? ⟨w.heap.size, 2, none⟩ = some (.string t3) ∧
    ((w.alloc (.cells #[.int .i32 p3, .string s3, .string t3] 42)).alloc (.cells #[.string s4, .string t4] 27)).cell? ⟨w.heap.size + 1, 0, none⟩ = some (.string s4) ∧
    ((w.alloc (.cells #[.int .i32 p3, .string s3, .string t3] 42)).alloc (.cells #[.string s4, .string t4] 27)).cell? ⟨w.heap.size + 1, 1, none⟩ = some (.string t4) := by
    refine ⟨Below.refl _ _, ?_, ?_, ?_, ?_, ?_⟩ <;> simp
  generalize ((w.alloc (.cells #[.int .i32 p3, .string s3, .string t3] 42)).alloc (.cells #[.string s4, .string t4] 27)) = W at *
  have HW := Lib.hid hb0; clear hb0
  have HSW := Lib.hid hS; clear hS
  refine (live_any _ (HE.out.later HW.out)).mono ?_
  rintro e w1 ⟨rfl, hb⟩
  have HS := Lib.hid (sKeep5 hb HSW.out); clear hb
  go_wp2_with fail
  go_at_call 12
  refine (cNil _ (HW.out.trans (HS.out.1.mono HW.out.size))).mono ?_
  rintro e w2 ⟨rfl, hb⟩
  have HX := Lib.hid (sKeep5 hb HS.out); clear HS hb
  go_wp2_with fail
  go_at_call 15
  have h2 := H2.out.below (HW.out.trans (HX.out.1.mono HW.out.size))
  refine (ownIds_any A2 n2 c2 l2 _ h2.1 (Nat.le_trans h2.2.2.1 (by decide)) h2.2.1).mono ?_
  rintro e w3 ⟨⟨A3, c3, rfl, hv3⟩, hb⟩
  have HV := Lib.hid (own_drop hv3 (HX.out.1.size)); clear hv3
  have HS := Lib.hid (sKeep5 hb HX.out); clear HX hb
  have HN := Lib.hid (show n2 + 1 ≤ 16777216 from by have := h2.le24; omega)
  have HN0 := Lib.hid (show 1 + n0 ≤ 16777216 from by have := H0.out.le24; omega)
  clear h2
  go_wp2_with (at_builtin; refine wpList_appIG (by first | rfl | simp [Region.wanted, yielded]) _ _ rfl W.heap.size A3 n2 c3 l2 rfl (HV.out.alloc _) _ 1 1 [(sSuper, sX)] rfl (sl_id (by simp; rfl) (by simp; rfl)) (fun e => by cases e) HN.out (by have := HS.out.1.size; simp only [World.size_alloc]; omega) ?hk)
  case hk =>
    intro A4 c4 w4 hv4 hb4
    have HA := Lib.hid (sKeep5 ((Below.refl w3.heap.size w3).alloc (Nat.le_refl _) (.cells #[.string ⟨#[115, 117, 112, 101, 114]⟩, .string ⟨#[120]⟩] 27)) HS.out)
    have HX := Lib.hid (sKeepB5 hb4 HSW.out HA.out)
    have HV4 := Lib.hid (Sl.of_own (zs := l2 ++ [(sSuper, sX)]) (enc := encId) (k := 2) (fun _ => rfl) (by rw [List.flatMap_append, List.flatMap_singleton]; exact hv4) (by rw [List.length_append, H2.out.1.len]; rfl : (l2 ++ [(sSuper, sX)]).length = n2 + 1))
    clear HA hv4 hb4 HV HS
    go_wp2_with fail
    go_at_call 12
    refine (cSup _ _ _ (HW.out.trans (HX.out.1.mono HW.out.size)) HV4.out).mono ?_
    rintro e w5 ⟨rfl, hb⟩
    have HS := Lib.hid (sKeep5 hb HX.out); clear HX hb HV4
    go_wp2_with fail
    go_at_call 12
    refine (cL _ (HW.out.trans (HS.out.1.mono HW.out.size))).mono ?_
    rintro e w6 ⟨rfl, hb⟩
    have HX := Lib.hid (sKeep5 hb HS.out); clear HS hb
    cases m0 with
    | false =>
      go_wp2_with fail
      go_ret
      exact RetB.mk (HW.out.trans (HX.out.1.mono HW.out.size)) rfl
    | true =>
      have HI := Lib.hid (HId.out rfl)
      have HSn := Lib.hid (fun h : n0 ≠ 0 => HSnoc.out rfl (HNE.out h))
      have HCo := Lib.hid (fun h : n0 ≠ 0 => HCons.out rfl (HNE.out h))
      clear HId HSnoc HCons HNE
      have HNS := Lib.hid (show n0 + 1 ≤ 16777216 from by have := HN0.out; omega)
      by_cases h0 : n0 = 0
      · rw [decide_eq_true h0] at hN
        clear h0 HSn HCo
        go_upto_region 7 with fail
        have HS := HX.out
        refine wp_region_held_drew (S := (fun w' => Below W.heap.size W w' ∧ w'.cell? ⟨w.heap.size, 0, none⟩ = some (.int .i32 p3) ∧ w'.cell? ⟨w.heap.size, 1, none⟩ = some (.string s3) ∧ w'.cell? ⟨w.heap.size, 2, none⟩ = some (.string t3) ∧ w'.cell? ⟨w.heap.size + 1, 0, none⟩ = some (.string s4) ∧ w'.cell? ⟨w.heap.size + 1, 1, none⟩ = some (.string t4))) (by kernel_rfl) ?_ (fun hHeld => ?_)
        · (try dsimp only); exact sKeep5 (drew_self _) (by assumption)
        refine wpAnyH_take (i := 0) (oi := { dst := some 33, op := Op.move (Operand.tmp 0), type := 22, pos := "law.go:170", after := #[], guard := none }) (v := ?_) rfl (by kernel_rfl) (by kernel_rfl) (by kernel_rfl) (fun _ _ _ h => h) (Or.inl ⟨by rfl, ?_⟩) (by assumption) ?_
        rotate_left
        · (intro w0 hSw; (try dsimp only at hSw); go_simp; try (with_reducible rfl))
        try simp only [Act.put, List.setIfInBounds_toArray, List.set_cons_zero, List.set_cons_succ]
        refine wpAnyH_take (i := 1) (oi := { dst := some 34, op := Op.move (Operand.tmp 1), type := 21, pos := "law.go:170", after := #[], guard := none }) (v := ?_) rfl (by kernel_rfl) (by kernel_rfl) (by kernel_rfl) (fun _ _ _ h => h) (Or.inl ⟨by rfl, ?_⟩) (by assumption) ?_
        rotate_left
        · (intro w0 hSw; (try dsimp only at hSw); go_simp; try (with_reducible rfl))
        try simp only [Act.put, List.setIfInBounds_toArray, List.set_cons_zero, List.set_cons_succ]
        refine wpAnyH_take (i := 2) (oi := { dst := some 35, op := Op.move (Operand.tmp 2), type := 23, pos := "law.go:170", after := #[], guard := none }) (v := ?_) rfl (by kernel_rfl) (by kernel_rfl) (by kernel_rfl) (fun _ _ _ h => h) (Or.inl ⟨by rfl, ?_⟩) (by assumption) ?_
        rotate_left
        · (intro w0 hSw; (try dsimp only at hSw); go_simp; try (with_reducible rfl))
        try simp only [Act.put, List.setIfInBounds_toArray, List.set_cons_zero, List.set_cons_succ]
        refine wpAnyH_take (i := 4) (oi := { dst := some 37, op := Op.load 27 (Operand.tmp 9), type := 27, pos := "law.go:170", after := #[], guard := none }) (v := ?_) rfl (by kernel_rfl) (by kernel_rfl) (by kernel_rfl) (fun _ _ _ h => h) (Or.inl ⟨by rfl, ?_⟩) (by assumption) ?_
        rotate_left
        · (intro w0 hSw; (try dsimp only at hSw); go_simp; try (with_reducible rfl))
        try simp only [Act.put, List.setIfInBounds_toArray, List.set_cons_zero, List.set_cons_succ]
        refine wpAnyH_ready (rs := [3, 5]) (by kernel_rfl) (by simp) ?_
        refine AllReadyH.cons (o := { dst := some 36, op := Op.call { callee := Callee.value (Operand.func 15), args := #[Operand.tmp 35], argTypes := #[23] }, type := 23, pos := "law.go:170", after := #[{ on := 2, ground := Ground.data }], guard := none }) rfl (fun K hK => ?_) ?_
        ·
          go_simp; go_at_call 15; have h2 := H2.out.below (HW.out.trans ((sBelow (by assumption)).mono HW.out.size)); refine (ownIds_any A2 n2 c2 l2 _ h2.1 (Nat.le_trans h2.2.2.1 (by decide)) h2.2.1).mono ?_; rintro e w7 ⟨⟨A7, c7, rfl, hv7⟩, hb⟩; have HV := Lib.hid (own_drop hv7 (sBelow (by assumption)).size); clear hv7 h2; go_wp2_with fail
          refine hK.out _ _ ?_ (fun hHeld => ?_)
          · (try dsimp only); (first | assumption | exact sKeep5 (by assumption) (by assumption) | exact sKeepB5 (by assumption) HSW.out (by assumption) | exact sKeep5 ((Below.refl _ _).alloc (Nat.le_refl _) _) (by assumption))
          clear hK K
          try simp only [Act.put, List.setIfInBounds_toArray, List.set_cons_zero, List.set_cons_succ]
          refine wpAnyH_ready (rs := [5]) (by kernel_rfl) (by simp) ?_
          refine AllReadyH.cons (o := { dst := some 38, op := Op.buildSlice 23 1 #[(0, Operand.tmp 37)], type := 23, pos := "law.go:170", after := #[{ on := 4, ground := Ground.data }], guard := none }) rfl (fun K hK => ?_) ?_
          ·
            go_simp
            refine hK.out _ _ ?_ (fun hHeld => ?_)
            · (try dsimp only); (first | assumption | exact sKeep5 (by assumption) (by assumption) | exact sKeepB5 (by assumption) HSW.out (by assumption) | exact sKeep5 ((Below.refl _ _).alloc (Nat.le_refl _) _) (by assumption))
            clear hK K
            try simp only [Act.put, List.setIfInBounds_toArray, List.set_cons_zero, List.set_cons_succ]
            refine wpAnyH_ready (rs := [6]) (by kernel_rfl) (by simp) ?_
            refine AllReadyH.cons (o := { dst := some 39, op := Op.call { callee := Callee.builtin Builtin.append, args := #[Operand.tmp 36, Operand.tmp 38], argTypes := #[23, 23] }, type := 23, pos := "law.go:170", after := #[{ on := 3, ground := Ground.data }, { on := 5, ground := Ground.data }, { on := 3, ground := Ground.chain }], guard := none }) rfl (fun K hK => ?_) ?_
            ·
              (with_reducible refine step_appIx 36 38 ?_ W.heap.size A7 n2 c7 l2 ?_ ?_ (some ⟨?_, 0, none⟩) 1 1 [(s4, t4)] ?_ ?_ ?_ HN.out ?_ ?_); rfl; rfl; (first | exact HV.out | exact HV.out.alloc _); rotate_left; rfl; (refine sl_id ?_ ?_ <;> (first | (simp; done) | (refine keep1 ?_ hb; simp; done))); (intro e; cases e); exact (sBelow (by assumption)).size; intro A8 c8 w8 hv8 hb; have HV8 := Lib.hid (Sl.of_own (zs := l2 ++ [(s4, t4)]) (enc := encId) (k := 2) (fun _ => rfl) hv8 (by rw [List.length_append, H2.out.1.len]; rfl)); clear hv8
              refine hK.out _ _ ?_ (fun hHeld => ?_)
              · (try dsimp only); (first | assumption | exact sKeep5 (by assumption) (by assumption) | exact sKeepB5 (by assumption) HSW.out (by assumption) | exact sKeep5 ((Below.refl _ _).alloc (Nat.le_refl _) _) (by assumption))
              clear hK K
              try simp only [Act.put, List.setIfInBounds_toArray, List.set_cons_zero, List.set_cons_succ]
              refine wpAnyH_ready (rs := [7]) (by kernel_rfl) (by simp) ?_
              refine AllReadyH.cons (o := { dst := some 40, op := Op.call { callee := Callee.value (Operand.func 12), args := #[Operand.tmp 33, Operand.tmp 34, Operand.tmp 39], argTypes := #[22, 21, 23] }, type := 4, pos := "law.go:170", after := #[{ on := 0, ground := Ground.data }, { on := 1, ground := Ground.data }, { on := 6, ground := Ground.data }, { on := 6, ground := Ground.chain }], guard := none }) rfl (fun K hK => ?_) ?_
              ·
                go_simp; go_at_call 12; (with_reducible refine (HI.out _ _ _ ?_ HV8.out).mono ?_); exact HW.out.trans ((sBelow (by assumption)).mono HW.out.size); rintro e w12 ⟨rfl, hb⟩; go_wp2_with fail
                refine hK.out _ _ ?_ (fun hHeld => ?_)
                · (try dsimp only); (first | assumption | exact sKeep5 (by assumption) (by assumption) | exact sKeepB5 (by assumption) HSW.out (by assumption) | exact sKeep5 ((Below.refl _ _).alloc (Nat.le_refl _) _) (by assumption))
                clear hK K
                try simp only [Act.put, List.setIfInBounds_toArray, List.set_cons_zero, List.set_cons_succ]
                refine wpAnyH_take (i := 8) (oi := { dst := some 41, op := Op.move (Operand.tmp 40), type := 4, pos := "law.go:170", after := #[{ on := 7, ground := Ground.data }, { on := 7, ground := Ground.chain }], guard := none }) (v := ?_) rfl (by kernel_rfl) (by kernel_rfl) (by kernel_rfl) (fun _ _ _ h => h) (Or.inl ⟨by rfl, ?_⟩) (by assumption) ?_
                rotate_left
                · (intro w0 hSw; (try dsimp only at hSw); go_simp; try (with_reducible rfl))
                try simp only [Act.put, List.setIfInBounds_toArray, List.set_cons_zero, List.set_cons_succ]
                refine wpAnyH_take (i := 9) (oi := { dst := some 42, op := Op.move (Operand.tmp 0), type := 22, pos := "law.go:170", after := #[{ on := 8, ground := Ground.guard }], guard := some (8, true) }) (v := ?_) rfl (by kernel_rfl) (by kernel_rfl) (by kernel_rfl) (fun _ _ _ h => h) (Or.inl ⟨by rfl, ?_⟩) (by assumption) ?_
                rotate_left
                · (intro w0 hSw; (try dsimp only at hSw); go_simp; try (with_reducible rfl))
                try simp only [Act.put, List.setIfInBounds_toArray, List.set_cons_zero, List.set_cons_succ]
                refine wpAnyH_ready (rs := [10]) (by kernel_rfl) (by simp) ?_
                refine AllReadyH.cons (o := { dst := some 43, op := Op.call { callee := Callee.builtin Builtin.len, args := #[Operand.tmp 42], argTypes := #[22] }, type := 3, pos := "law.go:170", after := #[{ on := 9, ground := Ground.data }, { on := 8, ground := Ground.guard }], guard := some (8, true) }) rfl (fun K hK => ?_) ?_
                ·
                  go_simp
                  refine hK.out _ _ ?_ (fun hHeld => ?_)
                  · (try dsimp only); (first | assumption | exact sKeep5 (by assumption) (by assumption) | exact sKeepB5 (by assumption) HSW.out (by assumption) | exact sKeep5 ((Below.refl _ _).alloc (Nat.le_refl _) _) (by assumption))
                  clear hK K
                  try simp only [Act.put, List.setIfInBounds_toArray, List.set_cons_zero, List.set_cons_succ]
                  refine wpAnyH_take (i := 11) (oi := { dst := some 44, op := Op.binOp BinOp.eql 3 (Operand.tmp 43) (Operand.const (Value.int IntKind.i64 0)) 3, type := 4, pos := "law.go:170", after := #[{ on := 10, ground := Ground.data }, { on := 8, ground := Ground.guard }], guard := some (8, true) }) (v := ?_) rfl (by kernel_rfl) (by kernel_rfl) (by kernel_rfl) (fun _ _ _ h => h) (Or.inl ⟨by rfl, ?_⟩) (by assumption) ?_
                  rotate_left
                  · (intro w0 hSw; (try dsimp only at hSw); go_simp; try (with_reducible rfl))
                  try simp only [Act.put, List.setIfInBounds_toArray, List.set_cons_zero, List.set_cons_succ]
                  refine wpAnyH_take (i := 12) (oi := { dst := some 45, op := Op.move (Operand.tmp 44), type := 4, pos := "law.go:170", after := #[{ on := 11, ground := Ground.data }, { on := 8, ground := Ground.chain }, { on := 8, ground := Ground.guard }], guard := some (8, true) }) (v := ?_) rfl (by kernel_rfl) (by kernel_rfl) (by kernel_rfl) (fun _ _ _ h => h) (Or.inl ⟨by rfl, ?_⟩) (by assumption) ?_
                  rotate_left
                  · (intro w0 hSw; (try dsimp only at hSw); go_simp; try (with_reducible rfl))
                  try simp only [Act.put, List.setIfInBounds_toArray, List.set_cons_zero, List.set_cons_succ]
                  refine wpAnyH_take (i := 13) (oi := { dst := some 46, op := Op.move (Operand.tmp 0), type := 22, pos := "law.go:170", after := #[{ on := 12, ground := Ground.guard }], guard := some (12, false) }) (v := undef) rfl (by kernel_rfl) (by kernel_rfl) (by kernel_rfl) (fun _ _ _ h => h) (Or.inr ⟨by rfl, rfl⟩) (by assumption) ?_
                  try simp only [Act.put, List.setIfInBounds_toArray, List.set_cons_zero, List.set_cons_succ]
                  refine wpAnyH_take (i := 14) (oi := { dst := some 47, op := Op.call { callee := Callee.value (Operand.func 14), args := #[Operand.tmp 46], argTypes := #[22] }, type := 22, pos := "law.go:170", after := #[{ on := 13, ground := Ground.data }, { on := 12, ground := Ground.chain }, { on := 12, ground := Ground.guard }], guard := some (12, false) }) (v := undef) rfl (by kernel_rfl) (by kernel_rfl) (by kernel_rfl) (fun _ _ _ h => h) (Or.inr ⟨by rfl, rfl⟩) (by assumption) ?_
                  try simp only [Act.put, List.setIfInBounds_toArray, List.set_cons_zero, List.set_cons_succ]
                  refine wpAnyH_take (i := 15) (oi := { dst := some 48, op := Op.load 42 (Operand.tmp 8), type := 42, pos := "law.go:170", after := #[{ on := 12, ground := Ground.guard }], guard := some (12, false) }) (v := undef) rfl (by kernel_rfl) (by kernel_rfl) (by kernel_rfl) (fun _ _ _ h => h) (Or.inr ⟨by rfl, rfl⟩) (by assumption) ?_
                  try simp only [Act.put, List.setIfInBounds_toArray, List.set_cons_zero, List.set_cons_succ]
                  refine wpAnyH_take (i := 16) (oi := { dst := some 49, op := Op.buildSlice 22 1 #[(0, Operand.tmp 48)], type := 22, pos := "law.go:170", after := #[{ on := 15, ground := Ground.data }, { on := 12, ground := Ground.guard }], guard := some (12, false) }) (v := undef) rfl (by kernel_rfl) (by kernel_rfl) (by kernel_rfl) (fun _ _ _ h => h) (Or.inr ⟨by rfl, rfl⟩) (by assumption) ?_
                  try simp only [Act.put, List.setIfInBounds_toArray, List.set_cons_zero, List.set_cons_succ]
                  refine wpAnyH_take (i := 17) (oi := { dst := some 50, op := Op.call { callee := Callee.builtin Builtin.append, args := #[Operand.tmp 47, Operand.tmp 49], argTypes := #[22, 22] }, type := 22, pos := "law.go:170", after := #[{ on := 14, ground := Ground.data }, { on := 16, ground := Ground.data }, { on := 14, ground := Ground.chain }, { on := 12, ground := Ground.guard }], guard := some (12, false) }) (v := undef) rfl (by kernel_rfl) (by kernel_rfl) (by kernel_rfl) (fun _ _ _ h => h) (Or.inr ⟨by rfl, rfl⟩) (by assumption) ?_
                  try simp only [Act.put, List.setIfInBounds_toArray, List.set_cons_zero, List.set_cons_succ]
                  refine wpAnyH_take (i := 18) (oi := { dst := some 51, op := Op.move (Operand.tmp 1), type := 21, pos := "law.go:170", after := #[{ on := 12, ground := Ground.guard }], guard := some (12, false) }) (v := undef) rfl (by kernel_rfl) (by kernel_rfl) (by kernel_rfl) (fun _ _ _ h => h) (Or.inr ⟨by rfl, rfl⟩) (by assumption) ?_
                  try simp only [Act.put, List.setIfInBounds_toArray, List.set_cons_zero, List.set_cons_succ]
                  refine wpAnyH_take (i := 19) (oi := { dst := some 52, op := Op.move (Operand.tmp 2), type := 23, pos := "law.go:170", after := #[{ on := 12, ground := Ground.guard }], guard := some (12, false) }) (v := undef) rfl (by kernel_rfl) (by kernel_rfl) (by kernel_rfl) (fun _ _ _ h => h) (Or.inr ⟨by rfl, rfl⟩) (by assumption) ?_
                  try simp only [Act.put, List.setIfInBounds_toArray, List.set_cons_zero, List.set_cons_succ]
                  refine wpAnyH_take (i := 20) (oi := { dst := some 53, op := Op.call { callee := Callee.value (Operand.func 12), args := #[Operand.tmp 50, Operand.tmp 51, Operand.tmp 52], argTypes := #[22, 21, 23] }, type := 4, pos := "law.go:170", after := #[{ on := 17, ground := Ground.data }, { on := 18, ground := Ground.data }, { on := 19, ground := Ground.data }, { on := 17, ground := Ground.chain }, { on := 12, ground := Ground.guard }], guard := some (12, false) }) (v := undef) rfl (by kernel_rfl) (by kernel_rfl) (by kernel_rfl) (fun _ _ _ h => h) (Or.inr ⟨by rfl, rfl⟩) (by assumption) ?_
                  try simp only [Act.put, List.setIfInBounds_toArray, List.set_cons_zero, List.set_cons_succ]
                  refine wpAnyH_take (i := 21) (oi := { dst := some 54, op := Op.move (Operand.tmp 53), type := 4, pos := "law.go:170", after := #[{ on := 20, ground := Ground.data }, { on := 20, ground := Ground.chain }, { on := 12, ground := Ground.guard }], guard := some (12, false) }) (v := undef) rfl (by kernel_rfl) (by kernel_rfl) (by kernel_rfl) (fun _ _ _ h => h) (Or.inr ⟨by rfl, rfl⟩) (by assumption) ?_
                  try simp only [Act.put, List.setIfInBounds_toArray, List.set_cons_zero, List.set_cons_succ]
                  refine wpAnyH_take (i := 22) (oi := { dst := some 55, op := Op.load 42 (Operand.tmp 8), type := 42, pos := "law.go:170", after := #[{ on := 21, ground := Ground.guard }], guard := some (21, true) }) (v := undef) rfl (by kernel_rfl) (by kernel_rfl) (by kernel_rfl) (fun _ _ _ h => h) (Or.inr ⟨by rfl, rfl⟩) (by assumption) ?_
                  try simp only [Act.put, List.setIfInBounds_toArray, List.set_cons_zero, List.set_cons_succ]
                  refine wpAnyH_take (i := 23) (oi := { dst := some 56, op := Op.buildSlice 22 1 #[(0, Operand.tmp 55)], type := 22, pos := "law.go:170", after := #[{ on := 22, ground := Ground.data }, { on := 21, ground := Ground.guard }], guard := some (21, true) }) (v := undef) rfl (by kernel_rfl) (by kernel_rfl) (by kernel_rfl) (fun _ _ _ h => h) (Or.inr ⟨by rfl, rfl⟩) (by assumption) ?_
                  try simp only [Act.put, List.setIfInBounds_toArray, List.set_cons_zero, List.set_cons_succ]
                  refine wpAnyH_take (i := 24) (oi := { dst := some 57, op := Op.move (Operand.tmp 0), type := 22, pos := "law.go:170", after := #[{ on := 21, ground := Ground.guard }], guard := some (21, true) }) (v := undef) rfl (by kernel_rfl) (by kernel_rfl) (by kernel_rfl) (fun _ _ _ h => h) (Or.inr ⟨by rfl, rfl⟩) (by assumption) ?_
                  try simp only [Act.put, List.setIfInBounds_toArray, List.set_cons_zero, List.set_cons_succ]
                  refine wpAnyH_take (i := 25) (oi := { dst := some 58, op := Op.call { callee := Callee.builtin Builtin.append, args := #[Operand.tmp 56, Operand.tmp 57], argTypes := #[22, 22] }, type := 22, pos := "law.go:170", after := #[{ on := 23, ground := Ground.data }, { on := 24, ground := Ground.data }, { on := 21, ground := Ground.chain }, { on := 21, ground := Ground.guard }], guard := some (21, true) }) (v := undef) rfl (by kernel_rfl) (by kernel_rfl) (by kernel_rfl) (fun _ _ _ h => h) (Or.inr ⟨by rfl, rfl⟩) (by assumption) ?_
                  try simp only [Act.put, List.setIfInBounds_toArray, List.set_cons_zero, List.set_cons_succ]
                  refine wpAnyH_take (i := 26) (oi := { dst := some 59, op := Op.move (Operand.tmp 1), type := 21, pos := "law.go:170", after := #[{ on := 21, ground := Ground.guard }], guard := some (21, true) }) (v := undef) rfl (by kernel_rfl) (by kernel_rfl) (by kernel_rfl) (fun _ _ _ h => h) (Or.inr ⟨by rfl, rfl⟩) (by assumption) ?_
                  try simp only [Act.put, List.setIfInBounds_toArray, List.set_cons_zero, List.set_cons_succ]
                  refine wpAnyH_take (i := 27) (oi := { dst := some 60, op := Op.move (Operand.tmp 2), type := 23, pos := "law.go:170", after := #[{ on := 21, ground := Ground.guard }], guard := some (21, true) }) (v := undef) rfl (by kernel_rfl) (by kernel_rfl) (by kernel_rfl) (fun _ _ _ h => h) (Or.inr ⟨by rfl, rfl⟩) (by assumption) ?_
                  try simp only [Act.put, List.setIfInBounds_toArray, List.set_cons_zero, List.set_cons_succ]
                  refine wpAnyH_take (i := 28) (oi := { dst := some 61, op := Op.call { callee := Callee.value (Operand.func 12), args := #[Operand.tmp 58, Operand.tmp 59, Operand.tmp 60], argTypes := #[22, 21, 23] }, type := 4, pos := "law.go:170", after := #[{ on := 25, ground := Ground.data }, { on := 26, ground := Ground.data }, { on := 27, ground := Ground.data }, { on := 25, ground := Ground.chain }, { on := 21, ground := Ground.guard }], guard := some (21, true) }) (v := undef) rfl (by kernel_rfl) (by kernel_rfl) (by kernel_rfl) (fun _ _ _ h => h) (Or.inr ⟨by rfl, rfl⟩) (by assumption) ?_
                  try simp only [Act.put, List.setIfInBounds_toArray, List.set_cons_zero, List.set_cons_succ]
                  refine wpAnyH_take (i := 29) (oi := { dst := some 62, op := Op.pick (Operand.tmp 54) (Operand.tmp 61) (Operand.const (Value.bool false)), type := 4, pos := "law.go:170", after := #[{ on := 21, ground := Ground.data }, { on := 28, ground := Ground.data }, { on := 12, ground := Ground.guard }], guard := some (12, false) }) (v := undef) rfl (by kernel_rfl) (by kernel_rfl) (by kernel_rfl) (fun _ _ _ h => h) (Or.inr ⟨by rfl, rfl⟩) (by assumption) ?_
                  try simp only [Act.put, List.setIfInBounds_toArray, List.set_cons_zero, List.set_cons_succ]
                  refine wpAnyH_take (i := 30) (oi := { dst := some 63, op := Op.pick (Operand.tmp 45) (Operand.const (Value.bool true)) (Operand.tmp 62), type := 4, pos := "law.go:170", after := #[{ on := 12, ground := Ground.data }, { on := 29, ground := Ground.data }, { on := 8, ground := Ground.guard }], guard := some (8, true) }) (v := ?_) rfl (by kernel_rfl) (by kernel_rfl) (by kernel_rfl) (fun _ _ _ h => h) (Or.inl ⟨by rfl, ?_⟩) (by assumption) ?_
                  rotate_left
                  · (intro w0 hSw; (try dsimp only at hSw); go_simp; try (with_reducible rfl))
                  try simp only [Act.put, List.setIfInBounds_toArray, List.set_cons_zero, List.set_cons_succ]
                  refine wpAnyH_take (i := 31) (oi := { dst := some 64, op := Op.pick (Operand.tmp 41) (Operand.tmp 63) (Operand.const (Value.bool false)), type := 4, pos := "law.go:170", after := #[{ on := 8, ground := Ground.data }, { on := 30, ground := Ground.data }], guard := none }) (v := ?_) rfl (by kernel_rfl) (by kernel_rfl) (by kernel_rfl) (fun _ _ _ h => h) (Or.inl ⟨by rfl, ?_⟩) (by assumption) ?_
                  rotate_left
                  · (intro w0 hSw; (try dsimp only at hSw); go_simp; try (with_reducible rfl))
                  try simp only [Act.put, List.setIfInBounds_toArray, List.set_cons_zero, List.set_cons_succ]
                  refine wpAnyH_take (i := 32) (oi := { dst := some 10, op := Op.assign (Operand.tmp 64), type := 4, pos := "law.go:170", after := #[{ on := 31, ground := Ground.data }, { on := 28, ground := Ground.chain }, { on := 0, ground := Ground.phase }, { on := 1, ground := Ground.phase }, { on := 2, ground := Ground.phase }, { on := 3, ground := Ground.phase }, { on := 4, ground := Ground.phase }, { on := 5, ground := Ground.phase }, { on := 6, ground := Ground.phase }, { on := 7, ground := Ground.phase }, { on := 8, ground := Ground.phase }, { on := 9, ground := Ground.phase }, { on := 10, ground := Ground.phase }, { on := 11, ground := Ground.phase }, { on := 12, ground := Ground.phase }, { on := 13, ground := Ground.phase }, { on := 14, ground := Ground.phase }, { on := 15, ground := Ground.phase }, { on := 16, ground := Ground.phase }, { on := 17, ground := Ground.phase }, { on := 18, ground := Ground.phase }, { on := 19, ground := Ground.phase }, { on := 20, ground := Ground.phase }, { on := 21, ground := Ground.phase }, { on := 22, ground := Ground.phase }, { on := 23, ground := Ground.phase }, { on := 24, ground := Ground.phase }, { on := 25, ground := Ground.phase }, { on := 26, ground := Ground.phase }, { on := 27, ground := Ground.phase }, { on := 28, ground := Ground.phase }, { on := 29, ground := Ground.phase }, { on := 30, ground := Ground.phase }, { on := 31, ground := Ground.phase }], guard := none }) (v := ?_) rfl (by kernel_rfl) (by kernel_rfl) (by kernel_rfl) (fun _ _ _ h => h) (Or.inl ⟨by rfl, ?_⟩) (by assumption) ?_
                  rotate_left
                  · (intro w0 hSw; (try dsimp only at hSw); go_simp; try (with_reducible rfl))
                  try simp only [Act.put, List.setIfInBounds_toArray, List.set_cons_zero, List.set_cons_succ]
                  refine wpAnyH_done (by kernel_rfl) ?_ _
                  go_wp2_with fail
                  go_ret
                  exact RetB.mk (HW.out.trans ((sBelow (by assumption)).mono HW.out.size)) (by first | rfl | (simp; done))
                exact AllReadyH.nil
              exact AllReadyH.nil
            exact AllReadyH.nil
          exact AllReadyH.nil
        refine AllReadyH.cons (o := { dst := some 38, op := Op.buildSlice 23 1 #[(0, Operand.tmp 37)], type := 23, pos := "law.go:170", after := #[{ on := 4, ground := Ground.data }], guard := none }) rfl (fun K hK => ?_) ?_
        ·
          go_simp
          refine hK.out _ _ ?_ (fun hHeld => ?_)
          · (try dsimp only); (first | assumption | exact sKeep5 (by assumption) (by assumption) | exact sKeepB5 (by assumption) HSW.out (by assumption) | exact sKeep5 ((Below.refl _ _).alloc (Nat.le_refl _) _) (by assumption))
          clear hK K
          try simp only [Act.put, List.setIfInBounds_toArray, List.set_cons_zero, List.set_cons_succ]
          refine wpAnyH_ready (rs := [3]) (by kernel_rfl) (by simp) ?_
          refine AllReadyH.cons (o := { dst := some 36, op := Op.call { callee := Callee.value (Operand.func 15), args := #[Operand.tmp 35], argTypes := #[23] }, type := 23, pos := "law.go:170", after := #[{ on := 2, ground := Ground.data }], guard := none }) rfl (fun K hK => ?_) ?_
          ·
            go_simp; go_at_call 15; have h2 := H2.out.below (HW.out.trans ((sBelow (by assumption)).mono HW.out.size)); refine (ownIds_any A2 n2 c2 l2 _ h2.1 (Nat.le_trans h2.2.2.1 (by decide)) h2.2.1).mono ?_; rintro e w7 ⟨⟨A7, c7, rfl, hv7⟩, hb⟩; have HV := Lib.hid (own_drop hv7 (sBelow (by assumption)).size); clear hv7 h2; go_wp2_with fail
            refine hK.out _ _ ?_ (fun hHeld => ?_)
            · (try dsimp only); (first | assumption | exact sKeep5 (by assumption) (by assumption) | exact sKeepB5 (by assumption) HSW.out (by assumption) | exact sKeep5 ((Below.refl _ _).alloc (Nat.le_refl _) _) (by assumption))
            clear hK K
            try simp only [Act.put, List.setIfInBounds_toArray, List.set_cons_zero, List.set_cons_succ]
            refine wpAnyH_ready (rs := [6]) (by kernel_rfl) (by simp) ?_
            refine AllReadyH.cons (o := { dst := some 39, op := Op.call { callee := Callee.builtin Builtin.append, args := #[Operand.tmp 36, Operand.tmp 38], argTypes := #[23, 23] }, type := 23, pos := "law.go:170", after := #[{ on := 3, ground := Ground.data }, { on := 5, ground := Ground.data }, { on := 3, ground := Ground.chain }], guard := none }) rfl (fun K hK => ?_) ?_
            ·
              (with_reducible refine step_appIx 36 38 ?_ W.heap.size A7 n2 c7 l2 ?_ ?_ (some ⟨?_, 0, none⟩) 1 1 [(s4, t4)] ?_ ?_ ?_ HN.out ?_ ?_); rfl; rfl; (first | exact HV.out | exact HV.out.alloc _); rotate_left; rfl; (refine sl_id ?_ ?_ <;> (first | (simp; done) | (refine keep1 ?_ hb; simp; done))); (intro e; cases e); exact (sBelow (by assumption)).size; intro A8 c8 w8 hv8 hb; have HV8 := Lib.hid (Sl.of_own (zs := l2 ++ [(s4, t4)]) (enc := encId) (k := 2) (fun _ => rfl) hv8 (by rw [List.length_append, H2.out.1.len]; rfl)); clear hv8
              refine hK.out _ _ ?_ (fun hHeld => ?_)
              · (try dsimp only); (first | assumption | exact sKeep5 (by assumption) (by assumption) | exact sKeepB5 (by assumption) HSW.out (by assumption) | exact sKeep5 ((Below.refl _ _).alloc (Nat.le_refl _) _) (by assumption))
              clear hK K
              try simp only [Act.put, List.setIfInBounds_toArray, List.set_cons_zero, List.set_cons_succ]
              refine wpAnyH_ready (rs := [7]) (by kernel_rfl) (by simp) ?_
              refine AllReadyH.cons (o := { dst := some 40, op := Op.call { callee := Callee.value (Operand.func 12), args := #[Operand.tmp 33, Operand.tmp 34, Operand.tmp 39], argTypes := #[22, 21, 23] }, type := 4, pos := "law.go:170", after := #[{ on := 0, ground := Ground.data }, { on := 1, ground := Ground.data }, { on := 6, ground := Ground.data }, { on := 6, ground := Ground.chain }], guard := none }) rfl (fun K hK => ?_) ?_
              ·
                go_simp; go_at_call 12; (with_reducible refine (HI.out _ _ _ ?_ HV8.out).mono ?_); exact HW.out.trans ((sBelow (by assumption)).mono HW.out.size); rintro e w12 ⟨rfl, hb⟩; go_wp2_with fail
                refine hK.out _ _ ?_ (fun hHeld => ?_)
                · (try dsimp only); (first | assumption | exact sKeep5 (by assumption) (by assumption) | exact sKeepB5 (by assumption) HSW.out (by assumption) | exact sKeep5 ((Below.refl _ _).alloc (Nat.le_refl _) _) (by assumption))
                clear hK K
                try simp only [Act.put, List.setIfInBounds_toArray, List.set_cons_zero, List.set_cons_succ]
                refine wpAnyH_take (i := 8) (oi := { dst := some 41, op := Op.move (Operand.tmp 40), type := 4, pos := "law.go:170", after := #[{ on := 7, ground := Ground.data }, { on := 7, ground := Ground.chain }], guard := none }) (v := ?_) rfl (by kernel_rfl) (by kernel_rfl) (by kernel_rfl) (fun _ _ _ h => h) (Or.inl ⟨by rfl, ?_⟩) (by assumption) ?_
                rotate_left
                · (intro w0 hSw; (try dsimp only at hSw); go_simp; try (with_reducible rfl))
                try simp only [Act.put, List.setIfInBounds_toArray, List.set_cons_zero, List.set_cons_succ]
                refine wpAnyH_take (i := 9) (oi := { dst := some 42, op := Op.move (Operand.tmp 0), type := 22, pos := "law.go:170", after := #[{ on := 8, ground := Ground.guard }], guard := some (8, true) }) (v := ?_) rfl (by kernel_rfl) (by kernel_rfl) (by kernel_rfl) (fun _ _ _ h => h) (Or.inl ⟨by rfl, ?_⟩) (by assumption) ?_
                rotate_left
                · (intro w0 hSw; (try dsimp only at hSw); go_simp; try (with_reducible rfl))
                try simp only [Act.put, List.setIfInBounds_toArray, List.set_cons_zero, List.set_cons_succ]
                refine wpAnyH_ready (rs := [10]) (by kernel_rfl) (by simp) ?_
                refine AllReadyH.cons (o := { dst := some 43, op := Op.call { callee := Callee.builtin Builtin.len, args := #[Operand.tmp 42], argTypes := #[22] }, type := 3, pos := "law.go:170", after := #[{ on := 9, ground := Ground.data }, { on := 8, ground := Ground.guard }], guard := some (8, true) }) rfl (fun K hK => ?_) ?_
                ·
                  go_simp
                  refine hK.out _ _ ?_ (fun hHeld => ?_)
                  · (try dsimp only); (first | assumption | exact sKeep5 (by assumption) (by assumption) | exact sKeepB5 (by assumption) HSW.out (by assumption) | exact sKeep5 ((Below.refl _ _).alloc (Nat.le_refl _) _) (by assumption))
                  clear hK K
                  try simp only [Act.put, List.setIfInBounds_toArray, List.set_cons_zero, List.set_cons_succ]
                  refine wpAnyH_take (i := 11) (oi := { dst := some 44, op := Op.binOp BinOp.eql 3 (Operand.tmp 43) (Operand.const (Value.int IntKind.i64 0)) 3, type := 4, pos := "law.go:170", after := #[{ on := 10, ground := Ground.data }, { on := 8, ground := Ground.guard }], guard := some (8, true) }) (v := ?_) rfl (by kernel_rfl) (by kernel_rfl) (by kernel_rfl) (fun _ _ _ h => h) (Or.inl ⟨by rfl, ?_⟩) (by assumption) ?_
                  rotate_left
                  · (intro w0 hSw; (try dsimp only at hSw); go_simp; try (with_reducible rfl))
                  try simp only [Act.put, List.setIfInBounds_toArray, List.set_cons_zero, List.set_cons_succ]
                  refine wpAnyH_take (i := 12) (oi := { dst := some 45, op := Op.move (Operand.tmp 44), type := 4, pos := "law.go:170", after := #[{ on := 11, ground := Ground.data }, { on := 8, ground := Ground.chain }, { on := 8, ground := Ground.guard }], guard := some (8, true) }) (v := ?_) rfl (by kernel_rfl) (by kernel_rfl) (by kernel_rfl) (fun _ _ _ h => h) (Or.inl ⟨by rfl, ?_⟩) (by assumption) ?_
                  rotate_left
                  · (intro w0 hSw; (try dsimp only at hSw); go_simp; try (with_reducible rfl))
                  try simp only [Act.put, List.setIfInBounds_toArray, List.set_cons_zero, List.set_cons_succ]
                  refine wpAnyH_take (i := 13) (oi := { dst := some 46, op := Op.move (Operand.tmp 0), type := 22, pos := "law.go:170", after := #[{ on := 12, ground := Ground.guard }], guard := some (12, false) }) (v := undef) rfl (by kernel_rfl) (by kernel_rfl) (by kernel_rfl) (fun _ _ _ h => h) (Or.inr ⟨by rfl, rfl⟩) (by assumption) ?_
                  try simp only [Act.put, List.setIfInBounds_toArray, List.set_cons_zero, List.set_cons_succ]
                  refine wpAnyH_take (i := 14) (oi := { dst := some 47, op := Op.call { callee := Callee.value (Operand.func 14), args := #[Operand.tmp 46], argTypes := #[22] }, type := 22, pos := "law.go:170", after := #[{ on := 13, ground := Ground.data }, { on := 12, ground := Ground.chain }, { on := 12, ground := Ground.guard }], guard := some (12, false) }) (v := undef) rfl (by kernel_rfl) (by kernel_rfl) (by kernel_rfl) (fun _ _ _ h => h) (Or.inr ⟨by rfl, rfl⟩) (by assumption) ?_
                  try simp only [Act.put, List.setIfInBounds_toArray, List.set_cons_zero, List.set_cons_succ]
                  refine wpAnyH_take (i := 15) (oi := { dst := some 48, op := Op.load 42 (Operand.tmp 8), type := 42, pos := "law.go:170", after := #[{ on := 12, ground := Ground.guard }], guard := some (12, false) }) (v := undef) rfl (by kernel_rfl) (by kernel_rfl) (by kernel_rfl) (fun _ _ _ h => h) (Or.inr ⟨by rfl, rfl⟩) (by assumption) ?_
                  try simp only [Act.put, List.setIfInBounds_toArray, List.set_cons_zero, List.set_cons_succ]
                  refine wpAnyH_take (i := 16) (oi := { dst := some 49, op := Op.buildSlice 22 1 #[(0, Operand.tmp 48)], type := 22, pos := "law.go:170", after := #[{ on := 15, ground := Ground.data }, { on := 12, ground := Ground.guard }], guard := some (12, false) }) (v := undef) rfl (by kernel_rfl) (by kernel_rfl) (by kernel_rfl) (fun _ _ _ h => h) (Or.inr ⟨by rfl, rfl⟩) (by assumption) ?_
                  try simp only [Act.put, List.setIfInBounds_toArray, List.set_cons_zero, List.set_cons_succ]
                  refine wpAnyH_take (i := 17) (oi := { dst := some 50, op := Op.call { callee := Callee.builtin Builtin.append, args := #[Operand.tmp 47, Operand.tmp 49], argTypes := #[22, 22] }, type := 22, pos := "law.go:170", after := #[{ on := 14, ground := Ground.data }, { on := 16, ground := Ground.data }, { on := 14, ground := Ground.chain }, { on := 12, ground := Ground.guard }], guard := some (12, false) }) (v := undef) rfl (by kernel_rfl) (by kernel_rfl) (by kernel_rfl) (fun _ _ _ h => h) (Or.inr ⟨by rfl, rfl⟩) (by assumption) ?_
                  try simp only [Act.put, List.setIfInBounds_toArray, List.set_cons_zero, List.set_cons_succ]
                  refine wpAnyH_take (i := 18) (oi := { dst := some 51, op := Op.move (Operand.tmp 1), type := 21, pos := "law.go:170", after := #[{ on := 12, ground := Ground.guard }], guard := some (12, false) }) (v := undef) rfl (by kernel_rfl) (by kernel_rfl) (by kernel_rfl) (fun _ _ _ h => h) (Or.inr ⟨by rfl, rfl⟩) (by assumption) ?_
                  try simp only [Act.put, List.setIfInBounds_toArray, List.set_cons_zero, List.set_cons_succ]
                  refine wpAnyH_take (i := 19) (oi := { dst := some 52, op := Op.move (Operand.tmp 2), type := 23, pos := "law.go:170", after := #[{ on := 12, ground := Ground.guard }], guard := some (12, false) }) (v := undef) rfl (by kernel_rfl) (by kernel_rfl) (by kernel_rfl) (fun _ _ _ h => h) (Or.inr ⟨by rfl, rfl⟩) (by assumption) ?_
                  try simp only [Act.put, List.setIfInBounds_toArray, List.set_cons_zero, List.set_cons_succ]
                  refine wpAnyH_take (i := 20) (oi := { dst := some 53, op := Op.call { callee := Callee.value (Operand.func 12), args := #[Operand.tmp 50, Operand.tmp 51, Operand.tmp 52], argTypes := #[22, 21, 23] }, type := 4, pos := "law.go:170", after := #[{ on := 17, ground := Ground.data }, { on := 18, ground := Ground.data }, { on := 19, ground := Ground.data }, { on := 17, ground := Ground.chain }, { on := 12, ground := Ground.guard }], guard := some (12, false) }) (v := undef) rfl (by kernel_rfl) (by kernel_rfl) (by kernel_rfl) (fun _ _ _ h => h) (Or.inr ⟨by rfl, rfl⟩) (by assumption) ?_
                  try simp only [Act.put, List.setIfInBounds_toArray, List.set_cons_zero, List.set_cons_succ]
                  refine wpAnyH_take (i := 21) (oi := { dst := some 54, op := Op.move (Operand.tmp 53), type := 4, pos := "law.go:170", after := #[{ on := 20, ground := Ground.data }, { on := 20, ground := Ground.chain }, { on := 12, ground := Ground.guard }], guard := some (12, false) }) (v := undef) rfl (by kernel_rfl) (by kernel_rfl) (by kernel_rfl) (fun _ _ _ h => h) (Or.inr ⟨by rfl, rfl⟩) (by assumption) ?_
                  try simp only [Act.put, List.setIfInBounds_toArray, List.set_cons_zero, List.set_cons_succ]
                  refine wpAnyH_take (i := 22) (oi := { dst := some 55, op := Op.load 42 (Operand.tmp 8), type := 42, pos := "law.go:170", after := #[{ on := 21, ground := Ground.guard }], guard := some (21, true) }) (v := undef) rfl (by kernel_rfl) (by kernel_rfl) (by kernel_rfl) (fun _ _ _ h => h) (Or.inr ⟨by rfl, rfl⟩) (by assumption) ?_
                  try simp only [Act.put, List.setIfInBounds_toArray, List.set_cons_zero, List.set_cons_succ]
                  refine wpAnyH_take (i := 23) (oi := { dst := some 56, op := Op.buildSlice 22 1 #[(0, Operand.tmp 55)], type := 22, pos := "law.go:170", after := #[{ on := 22, ground := Ground.data }, { on := 21, ground := Ground.guard }], guard := some (21, true) }) (v := undef) rfl (by kernel_rfl) (by kernel_rfl) (by kernel_rfl) (fun _ _ _ h => h) (Or.inr ⟨by rfl, rfl⟩) (by assumption) ?_
                  try simp only [Act.put, List.setIfInBounds_toArray, List.set_cons_zero, List.set_cons_succ]
                  refine wpAnyH_take (i := 24) (oi := { dst := some 57, op := Op.move (Operand.tmp 0), type := 22, pos := "law.go:170", after := #[{ on := 21, ground := Ground.guard }], guard := some (21, true) }) (v := undef) rfl (by kernel_rfl) (by kernel_rfl) (by kernel_rfl) (fun _ _ _ h => h) (Or.inr ⟨by rfl, rfl⟩) (by assumption) ?_
                  try simp only [Act.put, List.setIfInBounds_toArray, List.set_cons_zero, List.set_cons_succ]
                  refine wpAnyH_take (i := 25) (oi := { dst := some 58, op := Op.call { callee := Callee.builtin Builtin.append, args := #[Operand.tmp 56, Operand.tmp 57], argTypes := #[22, 22] }, type := 22, pos := "law.go:170", after := #[{ on := 23, ground := Ground.data }, { on := 24, ground := Ground.data }, { on := 21, ground := Ground.chain }, { on := 21, ground := Ground.guard }], guard := some (21, true) }) (v := undef) rfl (by kernel_rfl) (by kernel_rfl) (by kernel_rfl) (fun _ _ _ h => h) (Or.inr ⟨by rfl, rfl⟩) (by assumption) ?_
                  try simp only [Act.put, List.setIfInBounds_toArray, List.set_cons_zero, List.set_cons_succ]
                  refine wpAnyH_take (i := 26) (oi := { dst := some 59, op := Op.move (Operand.tmp 1), type := 21, pos := "law.go:170", after := #[{ on := 21, ground := Ground.guard }], guard := some (21, true) }) (v := undef) rfl (by kernel_rfl) (by kernel_rfl) (by kernel_rfl) (fun _ _ _ h => h) (Or.inr ⟨by rfl, rfl⟩) (by assumption) ?_
                  try simp only [Act.put, List.setIfInBounds_toArray, List.set_cons_zero, List.set_cons_succ]
                  refine wpAnyH_take (i := 27) (oi := { dst := some 60, op := Op.move (Operand.tmp 2), type := 23, pos := "law.go:170", after := #[{ on := 21, ground := Ground.guard }], guard := some (21, true) }) (v := undef) rfl (by kernel_rfl) (by kernel_rfl) (by kernel_rfl) (fun _ _ _ h => h) (Or.inr ⟨by rfl, rfl⟩) (by assumption) ?_
                  try simp only [Act.put, List.setIfInBounds_toArray, List.set_cons_zero, List.set_cons_succ]
                  refine wpAnyH_take (i := 28) (oi := { dst := some 61, op := Op.call { callee := Callee.value (Operand.func 12), args := #[Operand.tmp 58, Operand.tmp 59, Operand.tmp 60], argTypes := #[22, 21, 23] }, type := 4, pos := "law.go:170", after := #[{ on := 25, ground := Ground.data }, { on := 26, ground := Ground.data }, { on := 27, ground := Ground.data }, { on := 25, ground := Ground.chain }, { on := 21, ground := Ground.guard }], guard := some (21, true) }) (v := undef) rfl (by kernel_rfl) (by kernel_rfl) (by kernel_rfl) (fun _ _ _ h => h) (Or.inr ⟨by rfl, rfl⟩) (by assumption) ?_
                  try simp only [Act.put, List.setIfInBounds_toArray, List.set_cons_zero, List.set_cons_succ]
                  refine wpAnyH_take (i := 29) (oi := { dst := some 62, op := Op.pick (Operand.tmp 54) (Operand.tmp 61) (Operand.const (Value.bool false)), type := 4, pos := "law.go:170", after := #[{ on := 21, ground := Ground.data }, { on := 28, ground := Ground.data }, { on := 12, ground := Ground.guard }], guard := some (12, false) }) (v := undef) rfl (by kernel_rfl) (by kernel_rfl) (by kernel_rfl) (fun _ _ _ h => h) (Or.inr ⟨by rfl, rfl⟩) (by assumption) ?_
                  try simp only [Act.put, List.setIfInBounds_toArray, List.set_cons_zero, List.set_cons_succ]
                  refine wpAnyH_take (i := 30) (oi := { dst := some 63, op := Op.pick (Operand.tmp 45) (Operand.const (Value.bool true)) (Operand.tmp 62), type := 4, pos := "law.go:170", after := #[{ on := 12, ground := Ground.data }, { on := 29, ground := Ground.data }, { on := 8, ground := Ground.guard }], guard := some (8, true) }) (v := ?_) rfl (by kernel_rfl) (by kernel_rfl) (by kernel_rfl) (fun _ _ _ h => h) (Or.inl ⟨by rfl, ?_⟩) (by assumption) ?_
                  rotate_left
                  · (intro w0 hSw; (try dsimp only at hSw); go_simp; try (with_reducible rfl))
                  try simp only [Act.put, List.setIfInBounds_toArray, List.set_cons_zero, List.set_cons_succ]
                  refine wpAnyH_take (i := 31) (oi := { dst := some 64, op := Op.pick (Operand.tmp 41) (Operand.tmp 63) (Operand.const (Value.bool false)), type := 4, pos := "law.go:170", after := #[{ on := 8, ground := Ground.data }, { on := 30, ground := Ground.data }], guard := none }) (v := ?_) rfl (by kernel_rfl) (by kernel_rfl) (by kernel_rfl) (fun _ _ _ h => h) (Or.inl ⟨by rfl, ?_⟩) (by assumption) ?_
                  rotate_left
                  · (intro w0 hSw; (try dsimp only at hSw); go_simp; try (with_reducible rfl))
                  try simp only [Act.put, List.setIfInBounds_toArray, List.set_cons_zero, List.set_cons_succ]
                  refine wpAnyH_take (i := 32) (oi := { dst := some 10, op := Op.assign (Operand.tmp 64), type := 4, pos := "law.go:170", after := #[{ on := 31, ground := Ground.data }, { on := 28, ground := Ground.chain }, { on := 0, ground := Ground.phase }, { on := 1, ground := Ground.phase }, { on := 2, ground := Ground.phase }, { on := 3, ground := Ground.phase }, { on := 4, ground := Ground.phase }, { on := 5, ground := Ground.phase }, { on := 6, ground := Ground.phase }, { on := 7, ground := Ground.phase }, { on := 8, ground := Ground.phase }, { on := 9, ground := Ground.phase }, { on := 10, ground := Ground.phase }, { on := 11, ground := Ground.phase }, { on := 12, ground := Ground.phase }, { on := 13, ground := Ground.phase }, { on := 14, ground := Ground.phase }, { on := 15, ground := Ground.phase }, { on := 16, ground := Ground.phase }, { on := 17, ground := Ground.phase }, { on := 18, ground := Ground.phase }, { on := 19, ground := Ground.phase }, { on := 20, ground := Ground.phase }, { on := 21, ground := Ground.phase }, { on := 22, ground := Ground.phase }, { on := 23, ground := Ground.phase }, { on := 24, ground := Ground.phase }, { on := 25, ground := Ground.phase }, { on := 26, ground := Ground.phase }, { on := 27, ground := Ground.phase }, { on := 28, ground := Ground.phase }, { on := 29, ground := Ground.phase }, { on := 30, ground := Ground.phase }, { on := 31, ground := Ground.phase }], guard := none }) (v := ?_) rfl (by kernel_rfl) (by kernel_rfl) (by kernel_rfl) (fun _ _ _ h => h) (Or.inl ⟨by rfl, ?_⟩) (by assumption) ?_
                  rotate_left
                  · (intro w0 hSw; (try dsimp only at hSw); go_simp; try (with_reducible rfl))
                  try simp only [Act.put, List.setIfInBounds_toArray, List.set_cons_zero, List.set_cons_succ]
                  refine wpAnyH_done (by kernel_rfl) ?_ _
                  go_wp2_with fail
                  go_ret
                  exact RetB.mk (HW.out.trans ((sBelow (by assumption)).mono HW.out.size)) (by first | rfl | (simp; done))
                exact AllReadyH.nil
              exact AllReadyH.nil
            exact AllReadyH.nil
          exact AllReadyH.nil
        exact AllReadyH.nil
      · rw [decide_eq_false h0] at hN
        have HS1 := Lib.hid (HSn.out h0)
        have HC1 := Lib.hid (HCo.out h0)
        clear h0 HSn HCo
        go_upto_region 7 with fail
        have HS := HX.out
        first
        | go_region_held3 (fun w' => Below W.heap.size W w' ∧ w'.cell? ⟨w.heap.size, 0, none⟩ = some (.int .i32 p3) ∧ w'.cell? ⟨w.heap.size, 1, none⟩ = some (.string s3) ∧ w'.cell? ⟨w.heap.size, 2, none⟩ = some (.string t3) ∧ w'.cell? ⟨w.heap.size + 1, 0, none⟩ = some (.string s4) ∧ w'.cell? ⟨w.heap.size + 1, 1, none⟩ = some (.string t4))
          ((first | assumption | exact sKeep5 (by assumption) (by assumption) | exact sKeep5 (drew_self _) (by assumption) | exact sKeepB5 (by assumption) HSW.out (by assumption) | exact sKeep5 ((Below.refl _ _).alloc (Nat.le_refl _) _) (by assumption)))
          (first
            | (go_at_call 15; have h2 := H2.out.below (HW.out.trans ((sBelow (by assumption)).mono HW.out.size)); refine (ownIds_any A2 n2 c2 l2 _ h2.1 (Nat.le_trans h2.2.2.1 (by decide)) h2.2.1).mono ?_; rintro e w7 ⟨⟨A7, c7, rfl, hv7⟩, hb⟩; have HV := Lib.hid (own_drop hv7 (sBelow (by assumption)).size); clear hv7 h2)
            | (go_at_call 14; have h2 := H0.out.below (HW.out.trans ((sBelow (by assumption)).mono HW.out.size)); refine (own_any A0 n0 c0 l0 _ h2.1 (Nat.le_trans h2.2.2.1 (by decide)) h2.2.1).mono ?_; rintro e w9 ⟨⟨A9, c9, rfl, hv9⟩, hb⟩; have HV9 := Lib.hid (own_drop hv9 (sBelow (by assumption)).size); clear hv9 h2)
            | ((with_reducible refine step_appIx 36 38 ?_ W.heap.size A7 n2 c7 l2 ?_ ?_ (some ⟨?_, 0, none⟩) 1 1 [(s4, t4)] ?_ ?_ ?_ HN.out ?_ ?_); rfl; rfl; (first | exact HV.out | exact HV.out.alloc _); rotate_left; rfl; (refine sl_id ?_ ?_ <;> (first | (simp; done) | (refine keep1 ?_ hb; simp; done))); (intro e; cases e); exact (sBelow (by assumption)).size; intro A8 c8 w8 hv8 hb; have HV8 := Lib.hid (Sl.of_own (zs := l2 ++ [(s4, t4)]) (enc := encId) (k := 2) (fun _ => rfl) hv8 (by rw [List.length_append, H2.out.1.len]; rfl)); clear hv8)
            | ((with_reducible refine step_appAx 47 49 ?_ W.heap.size A9 n0 c9 l0 ?_ ?_ (some ⟨?_, 0, none⟩) 1 1 [(p3, s3, t3)] ?_ ?_ ?_ HNS.out ?_ ?_); rfl; rfl; (first | exact HV9.out | exact HV9.out.alloc _); rotate_left; rfl; (refine sl_acl ?_ ?_ ?_ <;> (first | (simp; done) | (refine keep1 ?_ hb; simp; done))); (intro e; cases e); exact (sBelow (by assumption)).size; intro A10 c10 w10 hv10 hb; have HV10 := Lib.hid (Sl.of_own (zs := l0 ++ [(p3, s3, t3)]) (enc := encAcl) (k := 3) (fun _ => rfl) hv10 (by rw [List.length_append, H0.out.1.len]; rfl)); clear hv10)
            | ((with_reducible refine step_appAx 56 57 ?_ W.heap.size (some ⟨?_, 0, none⟩) 1 1 [(p3, s3, t3)] ?_ ?_ A0 n0 c0 l0 ?_ ?_ ?_ HN0.out ?_ ?_); rfl; rotate_left; rfl; exact World.ownsRow_lit _ #[.int .i32 p3, .string s3, .string t3] 1 HL13.out (by decide) rfl; rfl; exact (H0.out.below (HW.out.trans ((sBelow (by assumption)).mono HW.out.size))).1; exact H0.out.2.1; exact (sBelow (by assumption)).size; intro A11 c11 w11 hv11 hb; have HV11 := Lib.hid (Sl.of_own (zs := [(p3, s3, t3)] ++ l0) (enc := encAcl) (k := 3) (fun _ => rfl) hv11 (by rw [List.length_append, H0.out.1.len]; rfl)); clear hv11)
            | (go_at_call 12; (with_reducible refine (HI.out _ _ _ ?_ HV8.out).mono ?_); exact HW.out.trans ((sBelow (by assumption)).mono HW.out.size); rintro e w12 ⟨rfl, hb⟩)
            | (go_at_call 12; (with_reducible refine (HS1.out _ _ _ ?_ HV10.out).mono ?_); exact HW.out.trans ((sBelow (by assumption)).mono HW.out.size); have hL0 := (sBelow (by assumption) : Below W.heap.size W _).size; rintro e w13 ⟨rfl, hb⟩; have HL13 := Lib.hid (Nat.le_trans hL0 hb.size); clear hL0)
            | (go_at_call 12; (with_reducible refine (HC1.out _ _ _ ?_ HV11.out).mono ?_); exact HW.out.trans ((sBelow (by assumption)).mono HW.out.size); rintro e w14 ⟨rfl, hb⟩))
        | fail
        all_goals (
          go_wp2_with fail
          go_ret
          exact RetB.mk (HW.out.trans ((sBelow (by assumption)).mono HW.out.size)) (by first | rfl | (simp; done)))
end Go.Proofs.YtmchfdmnngngiaaDoor
