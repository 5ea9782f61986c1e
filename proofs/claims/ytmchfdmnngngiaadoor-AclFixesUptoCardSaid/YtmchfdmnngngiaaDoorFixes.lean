/- The walk of arborlaw06.AclFixes. -/
import Derived.Test.YtmchfdmnngngiaaDoorApp7
import Derived.Test.YtmchfdmnngngiaaDoorKept
namespace Go.Proofs.YtmchfdmnngngiaaDoor
open Go.RowKit
set_option maxHeartbeats 1000000 in
theorem sameIds_any (A A' : Option Addr) (n m c c' : Nat) (xs ys : List IdV) (w : World) (B : Nat) (hx : Sl w B encId 2 A n xs) (hy : Sl w B encId 2 A' m ys) (hn : n ≤ 281474976710656) (hm : m ≤ 281474976710656) :
    Calls Tryd.prog 20 #[.slice A n c, .slice A' m c'] w (QuietB w (decide (xs = ys))) := by
  by_cases hnm : n = m
  · subst hnm
    have hlen : xs.length = ys.length := hx.1.trans hy.1.symm
    have HL := Lib.hid hlen; have HXL := Lib.hid hx.1; clear hlen
    have hneq := neqId
    go_enter Tryd.func20, Tryd.ntmps20
    go_wp2
    go_loopw [5] (fun i wr => ∃ (k q : Nat), i = .int .i64 ↑k ∧ k ≤ n ∧ (∀ j, j < k → xs[j]! = ys[j]!) ∧ wr = w.drewN q) (fun i _ => n - (intOf i).toNat)
    case atStart => exact ⟨0, 0, rfl, by omega, fun j hj => absurd hj (by omega), rfl⟩
    case round =>
      obtain ⟨k, q, rfl, hk, hall, rfl⟩ := hrel
      have HA := Lib.hid hall; clear hall
      by_cases hlt : k < n
      · obtain ⟨b, off, rfl, _, x0, x1⟩ := SlId.at_ hx hlt
        obtain ⟨b', off', rfl, _, y0, y1⟩ := SlId.at_ hy hlt
        by_cases he : xs[k]! = ys[k]!
        · have HA1 := Lib.hid (show ∀ j, j < k + 1 → xs[j]! = ys[j]! from fun j hj => by rcases Nat.lt_succ_iff_lt_or_eq.1 hj with h | rfl; exact HA.out j h; exact he)
          rw [he] at x0 x1
          clear he
          generalize ys[k]! = y at *
          obtain ⟨s, t⟩ := y
          have hq := fun w : World => (neqId w s t s t).trans (by simp : _ = Result.ok (.bool false) w)
          clear hneq
          go_wp2
          go_quiet (fail)
          go_wp2
          go_roundw
          case rel => exact ⟨k + 1, q + nq, by go_num, by omega, HA1.out, rfl⟩
          case measure => simp [intOf]; omega
        · have HE := Lib.hid (show decide (xs = ys) = false from decide_eq_false fun e => he (by rw [e]))
          have hd : (!decide (xs[k]! = ys[k]!)) = true := by rw [decide_eq_false he]; rfl
          have HW := Lib.hid hd
          clear he hd
          generalize xs[k]! = x at *
          generalize ys[k]! = y at *
          obtain ⟨s, t⟩ := x
          obtain ⟨s', t'⟩ := y
          have hq := fun w : World => (neqId w s t s' t').trans (by rw [HW.out] : _ = Result.ok (.bool true) w)
          clear hneq
          go_wp2
          go_quiet (fail)
          go_wp2
          go_ret
          exact QuietB.mk ⟨q + nq, World.drewN_drewN ..⟩ HE.out.symm
      · have HE := Lib.hid (show decide (xs = ys) = true from decide_eq_true (list_ext_bang HL.out fun j hj => HA.out j (by have := HXL.out; omega)))
        go_wp2
        go_ret
        exact QuietB.mk ⟨q, rfl⟩ HE.out.symm
  · have HE := Lib.hid (show decide (xs = ys) = false from decide_eq_false fun e => hnm (by rw [← hx.1, ← hy.1, e]))
    have hd : ((n : Int) != (m : Int)) = true := by simp; omega
    clear hnm
    go_enter Tryd.func20, Tryd.ntmps20
    go_wp2
    go_ret
    exact QuietB.mk ⟨0, rfl⟩ HE.out.symm
/-- what is written over an element -/
theorem stored3 {w : World} {base g m cap : Nat} {xs : List Value} {e : TypeId} (h : w.ownsRow base e 3 (.slice (some ⟨g, 0, none⟩) m cap) m xs) (j0 j1 j2 : Nat) (u0 u1 u2 : Value) :
    ∃ ys, (((w.setCell ⟨g, j0, none⟩ u0).setCell ⟨g, j1, none⟩ u1).setCell ⟨g, j2, none⟩ u2).ownsRow base e 3 (.slice (some ⟨g, 0, none⟩) m cap) m ys ∧ w.grownBy (((w.setCell ⟨g, j0, none⟩ u0).setCell ⟨g, j1, none⟩ u1).setCell ⟨g, j2, none⟩ u2) (some g) := by
  obtain ⟨h1, g1⟩ := h.stored j0 u0
  obtain ⟨h2, g2⟩ := h1.stored j1 u1
  obtain ⟨h3, g3⟩ := h2.stored j2 u2
  exact ⟨_, h3, (g1.trans g2).trans g3⟩
def codeF : Option (List AclV) → Int
  | none => 60
  | some _ => 0
theorem FixPost.uni {w w' : World} {base : Nat} {fo : Option (List AclV)} {e : Ending} (h : FixPost w base fo e w') : ∃ A c, e = .returned (.tuple #[.slice A (fo.getD []).length c, .int .i64 (codeF fo)]) ∧
    w'.ownsRow base 42 3 (.slice A (fo.getD []).length c) (fo.getD []).length ((fo.getD []).flatMap encAcl) ∧ Below base w w' := by
  obtain ⟨h1, h2⟩ := h
  cases fo with
  | none => exact ⟨none, 0, h1, World.ownsRow_nil _ _ _ _, h2⟩
  | some o =>
    obtain ⟨v, rfl, hv⟩ := h1
    obtain ⟨A, c, rfl⟩ := own_form hv
    exact ⟨A, c, rfl, hv, h2⟩
theorem own_apart {w : World} {base base' n n' m m' : Nat} {e e' : TypeId} {v v' : Value} {xs xs' : List Value} {W : World} (h : W.ownsRow base e n v m xs) (hW : W.heap.size ≤ base') (h' : w.ownsRow base' e' n' v' m' xs') : v'.ownBlock = none ∨ v'.ownBlock ≠ v.ownBlock := by
  cases hb : v'.ownBlock with
  | none => exact .inl rfl
  | some g =>
    refine .inr fun e => ?_
    have h1 := h'.lt g hb
    have h2 := h.lt g e.symm
    omega
def FxR (m : Nat) (A : Option Addr) (c : Nat) (Ab : Option Addr) (cb : Nat) (Ag : Option Addr) (cg : Nat) (o : List AclV) (w2 w3 w5 w6 : World) (i : Value) (wr : World) : Prop := ∃ k : Nat, i = .int .i64 ↑k ∧ k ≤ m ∧
  (∃ xs, wr.ownsRow w2.heap.size 42 3 (.slice A m c) m xs) ∧ wr.ownsRow w3.heap.size 42 3 (.slice Ab m cb) m (o.flatMap encAcl) ∧ wr.ownsRow w5.heap.size 42 3 (.slice Ag m cg) m (o.flatMap encAcl) ∧ Below w2.heap.size w6 wr
set_option maxRecDepth 100000 in
set_option maxHeartbeats 4000000 in
theorem aclFixes_any (A0 : Option Addr) (n0 c0 : Nat) (l0 : List AclV) (A1 : Option Addr) (n1 c1 : Nat) (l1 : List IdV) (w : World) (hE : Env w) (o0 : ArgA w A0 n0 c0 l0) (o1 : ArgI w A1 n1 c1 l1) :
    Calls Tryd.prog 5 #[.slice A0 n0 c0, .slice A1 n1 c1] w (RetB w true) := by
  have HE := Lib.hid hE; clear hE
  have H0 := Lib.hid o0; clear o0
  have H1 := Lib.hid o1; clear o1
  obtain ⟨fo, HF⟩ : ∃ o, Hid (fixP l0 l1 = o) := ⟨_, Lib.hid rfl⟩
  have HL16 : Hid ((fo.getD []).length ≤ 16) := Lib.hid (by
    cases hfo : fo with
    | none => exact Nat.zero_le _
    | some o => exact (fixP_some (HF.out.trans hfo)).2.2)
  obtain ⟨o, HO⟩ : ∃ o, Hid (fo.getD [] = o) := ⟨_, Lib.hid rfl⟩
  obtain ⟨cd, HC⟩ : ∃ cd, Hid (codeF fo = cd) := ⟨_, Lib.hid rfl⟩
  obtain ⟨m, HM⟩ : ∃ m, Hid (o.length = m) := ⟨_, Lib.hid rfl⟩
  have hm16 : m ≤ 16 := by have := HL16.out; rw [HO.out, HM.out] at this; exact this
  have hcd : (cd != cd) = false := by simp
  go_enter Tryd.func5, Tryd.ntmps5
  go_wp2_with fail
  go_at_call 14
  refine (own_any _ _ _ _ _ H0.out.1 (Nat.le_trans H0.out.2.2.1 (by decide)) H0.out.2.1).mono ?_
  rintro e w1 ⟨⟨A2, c2, rfl, hv1⟩, hb1⟩
  have G1 := Lib.hid (H0.out.own hv1); clear hv1
  have HB1 := Lib.hid hb1; clear hb1
  go_wp2_with fail
  go_at_call 15
  refine (ownIds_any _ _ _ _ _ (H1.out.below HB1.out).1 (Nat.le_trans H1.out.2.2.1 (by decide)) H1.out.2.1).mono ?_
  rintro e w2 ⟨⟨A3, c3, rfl, hv2⟩, hb2⟩
  have G2 := Lib.hid ((H1.out.below HB1.out).own hv2); clear hv2
  have GM := Lib.hid (G1.out.below hb2)
  have HB2 := Lib.hid (HB1.out.trans (hb2.mono HB1.out.size)); clear hb2
  go_wp2_with fail
  go_at_call 16
  refine (fix_any _ _ _ _ _ _ _ _ _ (HE.out.later HB2.out) GM.out.1 GM.out.n_le G2.out.1 G2.out.2.2.1 GM.out.small G2.out.small).mono ?_
  rw [HF.out]
  intro e w3 hf3
  obtain ⟨A4, c4, rfl, hv3, hb3⟩ := FixPost.uni hf3
  clear hf3
  rw [HO.out, HM.out] at hv3
  rw [HO.out, HC.out, HM.out]
  have HV3 := Lib.hid hv3; clear hv3
  have HX3 := Lib.hid hb3
  have HB3 := Lib.hid (HB2.out.trans (hb3.mono HB2.out.size)); clear hb3
  go_wp2_with fail
  go_at_call 17
  refine (refFix_any _ _ _ _ _ _ _ _ _ (H0.out.below HB3.out).1 H0.out.n_le (H1.out.below HB3.out).1 H1.out.2.2.1 H0.out.small H1.out.small).mono ?_
  rw [HF.out]
  intro e w4 hf4
  obtain ⟨A5, c5, rfl, hv4, hb4⟩ := FixPost.uni hf4
  clear hf4
  rw [HO.out, HM.out] at hv4
  rw [HO.out, HC.out, HM.out]
  have HV4 := Lib.hid hv4; clear hv4
  have HX4 := Lib.hid hb4
  have HB4 := Lib.hid (HB3.out.trans (hb4.mono HB3.out.size)); clear hb4
  have HA4 := Lib.hid (own_below HV3.out HX4.out)
  go_wp2_with fail
  go_at_call 18
  refine (no_any _ _).mono ?_
  rintro e w' ⟨rfl, rfl⟩
  go_wp2_with fail
  go_at_call 19
  refine ((refSame_any _ _ _ _ _ _ o o _ _ (Sl.of_own (fun _ => rfl) HA4.out HM.out) (Sl.of_own (fun _ => rfl) HV4.out HM.out) (by omega) (by omega)).mono fun _ _ h => QuietB.below h).mono ?_
  rw [decide_eq_true rfl]
  rintro e w5 ⟨rfl, hb5⟩
  have HY5 := Lib.hid (HX4.out.trans (hb5.mono HX4.out.size))
  have HB5 := Lib.hid (HB4.out.trans (hb5.mono HB4.out.size))
  have HZ5 := Lib.hid hb5
  clear hb5
  have GM5 := Lib.hid (GM.out.1.belowMore (HX3.out.trans (HY5.out.mono HX3.out.size)) (Nat.le_trans HX3.out.size HY5.out.size))
  go_wp2_with fail
  go_at_call 19
  refine ((refSame_any _ _ _ _ _ _ l0 l0 _ _ GM5.out (H0.out.below HB5.out).1 GM.out.n_le H0.out.n_le).mono fun _ _ h => QuietB.below h).mono ?_
  rw [decide_eq_true rfl]
  rintro e w6 ⟨rfl, hb6⟩
  have HY6 := Lib.hid (HY5.out.trans (hb6.mono HY5.out.size))
  have HZ6 := Lib.hid (HZ5.out.trans (hb6.mono HZ5.out.size))
  have HB6 := Lib.hid (HB5.out.trans (hb6.mono HB5.out.size)); clear hb6
  have GI6 := Lib.hid (G2.out.1.belowMore (HX3.out.trans (HY6.out.mono HX3.out.size)) (Nat.le_trans HX3.out.size HY6.out.size))
  go_wp2_with fail
  go_at_call 20
  refine ((sameIds_any _ _ _ _ _ _ l1 l1 _ _ GI6.out (H1.out.below HB6.out).1 G2.out.n_le H1.out.n_le).mono fun _ _ h => QuietB.below h).mono ?_
  rw [decide_eq_true rfl]
  rintro e w7 ⟨rfl, hb7⟩
  have HY7 := Lib.hid (HY6.out.trans (hb7.mono HY6.out.size))
  have HZ7 := Lib.hid (HZ6.out.trans (hb7.mono HZ6.out.size))
  have HB7 := Lib.hid (HB6.out.trans (hb7.mono HB6.out.size)); clear hb7
  go_wp2_with fail
  go_at_call 11
  refine (live_any _ (HE.out.later HB7.out)).mono ?_
  rintro e w8 ⟨rfl, hb8⟩
  have HY8 := Lib.hid (HY7.out.trans (hb8.mono HY7.out.size))
  have HZ8 := Lib.hid (HZ7.out.trans (hb8.mono HZ7.out.size))
  have HB8 := Lib.hid (HB7.out.trans (hb8.mono HB7.out.size)); clear hb8
  have GM8 := Lib.hid (GM.out.below (HX3.out.trans (HY8.out.mono HX3.out.size)))
  have GI8 := Lib.hid (G2.out.below (HX3.out.trans (HY8.out.mono HX3.out.size)))
  go_wp2_with fail
  go_at_call 16
  refine (fix_any _ _ _ _ _ _ _ _ _ (HE.out.later HB8.out) GM8.out.1 GM8.out.n_le GI8.out.1 GI8.out.2.2.1 GM8.out.small GI8.out.small).mono ?_
  rw [HF.out]
  intro e w9 hf9
  obtain ⟨A9, c9, rfl, hv9, hb9⟩ := FixPost.uni hf9
  clear hf9
  rw [HO.out, HM.out] at hv9
  rw [HO.out, HC.out, HM.out]
  have HV9 := Lib.hid hv9; clear hv9
  have HX9 := Lib.hid hb9
  have HA9 := Lib.hid (own_below (own_below HV3.out HY8.out) HX9.out)
  have HQ9 := Lib.hid (own_below (own_below HV4.out HZ8.out) HX9.out)
  have HY9 := Lib.hid (HY8.out.trans (hb9.mono HY8.out.size))
  have HB9 := Lib.hid (HB8.out.trans (hb9.mono HB8.out.size)); clear hb9
  go_wp2_with fail
  go_loopw [13] (fun i wr => FxR m A4 c4 A5 c5 A9 c9 o w2 w3 w8 w9 i wr) (fun i _ => m - (intOf i).toNat)
  case atStart => exact ⟨0, rfl, by omega, ⟨_, HA9.out⟩, HQ9.out, HV9.out, Below.refl _ _⟩
  case round =>
    obtain ⟨k, rfl, hk, ⟨xs, hva⟩, hvb, hvg, hb⟩ := hrel
    have HVA := Lib.hid hva; clear hva
    have HVB := Lib.hid hvb; clear hvb
    have HVG := Lib.hid hvg; clear hvg
    have HBK := Lib.hid hb; clear hb
    by_cases hlt : k < m
    · have hk2 : ((k : Nat) : Int) < (m : Int) := by omega
      obtain ⟨g, cap, hAe, hg1, hg2⟩ := HVA.out.form (by omega)
      injection hAe with hAe _ hce
      subst hAe hce
      have hf0 := HVA.out.frozenAt (k * 3)
      have hf1 := HVA.out.frozenAt (k * 3 + 1)
      have hf2 := HVA.out.frozenAt (k * 3 + 2)
      have hxl : xs.length = m * 3 := HVA.out.1
      obtain ⟨u0, e0⟩ : ∃ u, xs[k * 3]? = some u := ⟨_, List.getElem?_eq_getElem (by omega)⟩
      obtain ⟨u1, e1⟩ : ∃ u, xs[k * 3 + 1]? = some u := ⟨_, List.getElem?_eq_getElem (by omega)⟩
      obtain ⟨u2, e2⟩ : ∃ u, xs[k * 3 + 2]? = some u := ⟨_, List.getElem?_eq_getElem (by omega)⟩
      have z0 := (HVA.out.cellAt (k * 3) (by omega)).trans e0
      have z1 := (HVA.out.cellAt (k * 3 + 1) (by omega)).trans e1
      have z2 := (HVA.out.cellAt (k * 3 + 2) (by omega)).trans e2
      clear e0 e1 e2 hxl
      go_wp2_with fail
      obtain ⟨ys, hys, hgr⟩ := stored3 HVA.out (k * 3) (k * 3 + 1) (k * 3 + 2) (.int .i32 77) (.string ⟨#[]⟩) (.string ⟨#[]⟩)
      have p1 := HVB.out.kept hgr (own_apart HV3.out (Nat.le_refl _) HVB.out)
      have p2 := HVG.out.kept hgr (own_apart HV3.out HY8.out.size HVG.out)
      have p3 := HBK.out.grown hgr (Nat.le_trans (Nat.le_trans HX3.out.size HY9.out.size) HBK.out.size) (fun j hj => by injection hj with hj; omega)
      go_roundw
      case rel => exact ⟨k + 1, by go_num, by omega, ⟨ys, hys⟩, p1, p2, p3⟩
      case measure => simp [intOf]; omega
    · have hkm : m = k := by omega
      subst hkm
      obtain ⟨i0, hi0, hz0, hz1, hz2⟩ := info_parts infoAcl
      have hL9 : w2.heap.size ≤ wr.heap.size := Nat.le_trans (Nat.le_trans HX3.out.size HY9.out.size) HBK.out.size
      have HS9 := Lib.hid hL9
      have hxl : xs.length = m * 3 := HVA.out.1
      have HXL := Lib.hid hxl; clear hxl
      have hml : m + 1 ≤ maxLen := by unfold maxLen; omega
      go_wp2_with (at_builtin; refine wpList_append_lies _ rfl _ _ _ rfl w2.heap.size 42 i0 _ 3 40 Tryd.underlying22 hi0 hz0 hz1 hz2 rfl (by omega) (.slice A4 m c4) m xs rfl (HVA.out.alloc _) ⟨wr.heap.size, 0, none⟩ 1 1 [.int .i32 78, .string ⟨#[]⟩, .string ⟨#[]⟩] rfl rfl (World.news_of_block (cs := #[.int .i32 78, .string ⟨#[]⟩, .string ⟨#[]⟩]) (t := 42) (fr := (0, 0)) (heap_alloc_new wr _)) (by simp [Value.oneCell']) (by omega) hml (by omega) (by have := HS9.out; simp only [World.size_alloc]; omega) (wr.heap.size + 1) (by simp) ?_; intro gg cap w10 hown10 hgrow hat hlt10)
      have p1 := (HVB.out.alloc (.cells #[.int .i32 78, .string ⟨#[]⟩, .string ⟨#[]⟩] 42)).kept hgrow (own_apart HV3.out (Nat.le_refl _) HVB.out)
      have p2 := (HVG.out.alloc (.cells #[.int .i32 78, .string ⟨#[]⟩, .string ⟨#[]⟩] 42)).kept hgrow (own_apart HV3.out HY8.out.size HVG.out)
      have p3 := (HBK.out.alloc HS9.out (.cells #[.int .i32 78, .string ⟨#[]⟩, .string ⟨#[]⟩] 42)).grown hgrow (by have := HS9.out; simp only [World.size_alloc]; omega) (fun j hj => (HVA.out.lt j hj).1)
      have P1 := Lib.hid p1
      have P2 := Lib.hid p2
      have hM := (HX3.out.trans (HY9.out.mono HX3.out.size)).trans p3
      have GM10 := Lib.hid (GM.out.1.belowMore hM hM.size)
      have HB10 := Lib.hid (HB9.out.trans (p3.mono HB2.out.size))
      have z10 : w10.cell? ⟨gg, m * 3, none⟩ = some (.int .i32 78) := by
        rw [hown10.cellAt (m * 3) (by omega), List.getElem?_append_right (by rw [HXL.out]; exact Nat.le_refl _), HXL.out, Nat.sub_self]
        rfl
      clear p1 p2 p3 hM hown10 hgrow hat
      go_wp2_with fail
      go_at_call 19
      refine ((refSame_any _ _ _ _ _ _ l0 l0 _ _ GM10.out (H0.out.below HB10.out).1 GM.out.n_le H0.out.n_le).mono fun _ _ h => QuietB.below h).mono ?_
      rw [decide_eq_true rfl]
      rintro e w11 ⟨rfl, hb11⟩
      have P3 := Lib.hid (own_below P1.out hb11)
      have P4 := Lib.hid (own_below P2.out hb11)
      have z11 := keep1 z10 hb11
      clear z10
      have HB11 := Lib.hid (HB10.out.trans (hb11.mono HB10.out.size)); clear hb11
      go_wp2_with fail
      go_at_call 19
      refine ((refSame_any _ _ _ _ _ _ o o _ _ (Sl.of_own (fun _ => rfl) P4.out HM.out) (Sl.of_own (fun _ => rfl) P3.out HM.out) (by omega) (by omega)).mono fun _ _ h => QuietB.below h).mono ?_
      rw [decide_eq_true rfl]
      rintro e w12 ⟨rfl, hb12⟩
      have z12 := keep1 z11 hb12
      clear z11
      have HB12 := Lib.hid (HB11.out.trans (hb12.mono HB11.out.size)); clear hb12
      have hq1 : ((m + 1 : Nat) : Int) - 1 = (m : Int) := by omega
      go_wp2_with fail
      go_ret
      exact RetB.mk HB12.out (by first | rfl | (simp; done))
end Go.Proofs.YtmchfdmnngngiaaDoor
