/- The walks of arborref06.put and Fix. Condition: at most 2^20 identities, texts below 2^30. -/
import Derived.Test.YtmchfdmnngngiaaDoorAclX
namespace Go.Proofs.YtmchfdmnngngiaaDoor
open Go.RowKit

def RowPost (base : Nat) (v : Value) (out : List AclV) (w : World) (e : Ending) (w' : World) : Prop :=
  ∃ v', e = .returned v' ∧ w'.ownsRow base 42 3 v' out.length (out.flatMap encAcl) ∧ Below base w w' ∧ (v'.ownBlock = v.ownBlock ∨ ∃ g, w.heap.size ≤ g ∧ v'.ownBlock = some g) ∧ ∀ g, g < w.heap.size → v.ownBlock ≠ some g → w'.heap[g]? = w.heap[g]?

set_option maxRecDepth 100000 in
set_option maxHeartbeats 2000000 in
theorem refPut_any (base : Nat) (v : Value) (out : List AclV) (p : Int) (s t : ByteArray) (w : World) (hv : w.ownsRow base 42 3 v out.length (out.flatMap encAcl)) (hn : out.length ≤ 1073741824) (hB : base ≤ w.heap.size) :
    Calls Tryd.prog 37 #[v, .agg #[.int .i32 p, .string s, .string t]] w (RowPost base v (putP out (p, s, t)) w) := by
  obtain ⟨A, c, rfl⟩ : ∃ A c, v = .slice A out.length c := by
    rcases hv.2 with ⟨e, h0⟩ | ⟨g, cap, cur, e, _⟩
    · exact ⟨none, 0, by rw [e, h0]⟩
    · exact ⟨_, _, e⟩
  have hb0 : Below w.heap.size w (w.alloc (.cells #[.int .i32 p, .string s, .string t] 42)) := (Below.refl _ w).alloc (Nat.le_refl _) _
  have hS : Sl w w.heap.size encAcl 3 A out.length out := Sl.of_own (fun _ => rfl) hv rfl
  have HS := Lib.hid (hS.below hb0)
  have HV := Lib.hid hv
  obtain ⟨i0, hi0, hz0, hz1, hz2⟩ := info_parts infoAcl
  clear hv hS
  have hnl : ((out.length : Nat) : Int) ≤ 1073741824 := by omega
  go_enter Tryd.func37, Tryd.ntmps37
  go_wp2
  have a0 : (w.alloc (.cells #[.int .i32 p, .string s, .string t] 42)).heap[w.heap.size]? = some (.cells #[.int .i32 p, .string s, .string t] 42 (0, 0)) := (MapKept.heap_alloc _ _).1
  have hsz : (w.alloc (.cells #[.int .i32 p, .string s, .string t] 42)).heap.size = w.heap.size + 1 := by simp
  have hownW : (w.alloc (.cells #[.int .i32 p, .string s, .string t] 42)).ownsRow base 42 3 (.slice A out.length c) out.length (out.flatMap encAcl) := HV.out.alloc _
  generalize w.alloc (.cells #[.int .i32 p, .string s, .string t] 42) = W at *
  have HA0 := Lib.hid a0; have HSZ := Lib.hid hsz; have HOW := Lib.hid hownW
  have c0 : W.cell? ⟨w.heap.size, 0, none⟩ = some (.int .i32 p) := by rw [Lib.cell_of_heap a0]; rfl
  have c1 : W.cell? ⟨w.heap.size, 1, none⟩ = some (.string s) := by rw [Lib.cell_of_heap a0]; rfl
  have c2 : W.cell? ⟨w.heap.size, 2, none⟩ = some (.string t) := by rw [Lib.cell_of_heap a0]; rfl
  clear a0 hsz hownW
  go_loopw [5] (fun i wr => ∃ (k q : Nat), i = .int .i64 ↑k ∧ k ≤ out.length ∧ (∀ j, j < k → decide (out[j]! = (p, s, t)) = false) ∧ wr = W.drewN q) (fun i _ => out.length - (intOf i).toNat)
  case atStart => exact ⟨0, 0, rfl, by omega, fun j hj => absurd hj (by omega), rfl⟩
  case round =>
    obtain ⟨k, q, rfl, hk, hall, rfl⟩ := hrel
    have HA := Lib.hid hall; clear hall
    by_cases hlt : k < out.length
    · obtain ⟨b, off, rfl, hbl, x0, x1, x2⟩ := SlAcl.at_ HS.out hlt
      have HY := Lib.hid (any_split (fun y => decide (y = (p, s, t))) out k hlt)
      have HN : Hid (decide (out[k]! = (p, s, t)) = false → ∀ j, j < k + 1 → decide (out[j]! = (p, s, t)) = false) := Lib.hid (fun h j hj => by rcases Nat.lt_succ_iff_lt_or_eq.1 hj with h2 | rfl; exact HA.out j h2; exact h)
      have HP := Lib.hid (show putP out (p, s, t) = if out.any (fun b => decide (b = (p, s, t))) then out else out ++ [(p, s, t)] from rfl)
      generalize hx : out[k]! = x at *
      obtain ⟨q1, s1, t1⟩ := x
      clear hx
      have heq := fun w => eqAcl w s1 t1 s t q1 p
      cases hq : decide ((q1, s1, t1) = (p, s, t)) with
      | false =>
        have HQ := Lib.hid (HN.out hq)
        rw [hq] at heq
        clear hq
        go_wp2
        go_quiet (fail)
        go_wp2
        go_roundw
        case rel => exact ⟨k + 1, q + nq, by go_num, by omega, HQ.out, by first | rfl | rw [World.drewN_drewN]⟩
        case measure => simp [intOf]; omega
      | true =>
        have HQ : Hid (putP out (p, s, t) = out) := Lib.hid (by rw [HP.out, if_pos (HY.out hq)])
        rw [hq] at heq
        clear hq
        go_wp2
        go_quiet (fail)
        go_wp2
        go_ret
        refine ⟨_, rfl, by rw [HQ.out]; exact HOW.out, (drewN_below (drewN_below hb0 q) nq).mono hB, .inl rfl, fun g hg _ => (drewN_below (drewN_below hb0 q) nq).block g hg⟩
    · have HP : Hid (putP out (p, s, t) = out ++ [(p, s, t)]) := Lib.hid (by
        unfold putP
        rw [any_none (fun b => decide (b = (p, s, t))) out (fun j hj => HA.out j (by omega))]; rfl)
      have hn1 : out.length + 1 ≤ maxLen := by unfold maxLen; omega
      have hn2 : (out.length + 1) * 40 ≤ 140737488355328 := by omega
      have hown : (W.drewN q).ownsRow base 42 3 (.slice A out.length c) out.length (out.flatMap encAcl) := HOW.out
      have hbs : base ≤ (W.drewN q).heap.size := by have := HSZ.out; show base ≤ W.heap.size; omega
      have hc0 : (W.drewN q).cell? ⟨w.heap.size, 0, none⟩ = some (.int .i32 p) := c0
      have hc1 : (W.drewN q).cell? ⟨w.heap.size, 1, none⟩ = some (.string s) := c1
      have hc2 : (W.drewN q).cell? ⟨w.heap.size, 2, none⟩ = some (.string t) := c2
      have hbW : Below w.heap.size w (W.drewN q) := drewN_below hb0 q
      clear c0 c1 c2 hb0
      generalize W.drewN q = W2 at *
      go_wp2_with (at_builtin; refine wpList_append_lies _ rfl _ _ _ rfl base 42 i0 _ 3 40 Tryd.underlying22 hi0 hz0 hz1 hz2 rfl (by omega) (.slice A out.length c) out.length (out.flatMap encAcl) rfl (hown.alloc _) ⟨W2.heap.size, 0, none⟩ 1 1 [.int .i32 p, .string s, .string t] rfl rfl (World.news_of_block (cs := #[.int .i32 p, .string s, .string t]) (t := 42) (fr := (0, 0)) (heap_alloc_new W2 _)) (by simp [Value.oneCell']) (by omega) hn1 hn2 (by simp; omega) (W2.heap.size + 1) (by simp) ?_; intro gg cap w3 hown3 hgrow hat hlt3)
      go_ret
      have hlow : ∀ k, (Value.slice A out.length c).ownBlock = some k → base ≤ k ∧ k < w.heap.size := by
        intro k hk
        rcases HV.out.2 with ⟨e, _⟩ | ⟨g', cap', cur, e, hge, hh, _⟩
        · rw [e] at hk; cases hk
        · rw [e] at hk
          have : g' = k := by simpa [Value.ownBlock] using hk
          subst this
          exact ⟨hge, (Array.getElem?_eq_some_iff.1 hh).1⟩
      have s2 := hbW.size
      have hs3 : (W2.alloc (.cells #[.int .i32 p, .string s, .string t] 42)).heap.size = W2.heap.size + 1 := by simp
      refine ⟨.slice (some ⟨gg, 0, none⟩) (out.length + 1) cap, rfl, by rw [HP.out, List.length_append, List.flatMap_append]; simpa [encAcl] using hown3,
        ((hbW.mono hB).alloc (by omega) _).grown hgrow (by omega) (fun k hk => (hlow k hk).1), ?_, fun g hg hne => ?_⟩
      · rcases hat with h | h
        · left; rw [h]; rfl
        · exact .inr ⟨gg, by omega, rfl⟩
      · rw [hgrow.block g (by omega) (fun e => hne e.symm)]
        exact (Below.heap_alloc W2 _ g (by omega)).trans (hbW.block g hg)

/-! ### Fix -/
def FixRelR (l : List AclV) (ids : List IdV) (m : Nat) (w : World) (v i : Value) (wr : World) : Prop := ∃ (k : Nat) (out : List AclV), i = .int .i64 ↑k ∧ k ≤ l.length ∧ fixF ids [] l = fixF ids out (l.drop k) ∧ out.length ≤ k * (m + 1) ∧
  wr.ownsRow w.heap.size 42 3 v out.length (out.flatMap encAcl) ∧ Below w.heap.size w wr
def InFixR (ids : List IdV) (m : Nat) (p : Int) (out : List AclV) (w w0 : World) (v s i : Value) (wr : World) : Prop := ∃ (k : Nat), i = .int .i64 ↑k ∧ k ≤ m ∧ s = .bool (hasD ids k) ∧
  wr.ownsRow w.heap.size 42 3 v (idFold p out ids k).length ((idFold p out ids k).flatMap encAcl) ∧ Below w.heap.size w wr ∧ wr.cell? ⟨w0.heap.size, 0, none⟩ = some (.int .i32 p) ∧ w0.heap.size < wr.heap.size ∧ v.ownBlock ≠ some w0.heap.size

set_option maxRecDepth 100000 in
set_option maxHeartbeats 4000000 in
theorem refFix_any (A : Option Addr) (n c : Nat) (l : List AclV) (A' : Option Addr) (m c' : Nat) (ids : List IdV) (w : World) (hl : Sl w w.heap.size encAcl 3 A n l) (hn : n ≤ 281474976710656) (hz : Sl w w.heap.size encId 2 A' m ids) (hm : m ≤ 1048576) (hsl : SmallA l n) (hsi : SmallI ids m) :
    Calls Tryd.prog 17 #[.slice A n c, .slice A' m c'] w (FixPost w w.heap.size (fixP l ids)) := by
  have HF := Lib.hid (show fixP l ids = if l.length = 0 ∨ 16 < l.length then none else match fixF ids [] l with | none => none | some o => if 16 < o.length then none else some o from rfl)
  have hlen := hl.1
  by_cases h0 : n = 0
  · have HV : Hid (fixP l ids = none) := Lib.hid (by rw [HF.out, if_pos (.inl (by omega))])
    have hd : ((n : Int) == 0) = true := by simp; omega
    clear h0
    go_enter Tryd.func17, Tryd.ntmps17
    go_wp2
    go_ret2
    exact FixPost.no HV.out (Below.refl _ _)
  have hd : ((n : Int) == 0) = false := by simp; omega
  by_cases h16 : 16 < n
  · have HV : Hid (fixP l ids = none) := Lib.hid (by rw [HF.out, if_pos (.inr (by omega))])
    clear h0
    go_enter Tryd.func17, Tryd.ntmps17
    go_wp2
    go_ret2
    exact FixPost.no HV.out (Below.refl _ _)
  have HF2 : Hid (fixP l ids = match fixF ids [] (l.drop 0) with | none => none | some o => if 16 < o.length then none else some o) := Lib.hid (by rw [HF.out, if_neg (by omega), List.drop_zero])
  have h16' : n ≤ 16 := by omega
  have HLL := Lib.hid hlen
  clear h0 h16 HF hlen
  go_enter Tryd.func17, Tryd.ntmps17
  go_wp2
  go_loopw [6, 7] (FixRelR l ids m w) (fun _ i _ => n - (intOf i).toNat)
  case atStart => exact ⟨0, [], rfl, by omega, by rw [List.drop_zero], by simp, ⟨by simp, .inl ⟨rfl, rfl⟩⟩, Below.refl _ _⟩
  case round =>
    obtain ⟨k, out, rfl, hk, hF, hol, hL, hbw⟩ := hrel
    have HF := Lib.hid hF; have HL := Lib.hid hL; have HB := Lib.hid hbw
    clear hF
    obtain ⟨Av, cv, rfl⟩ : ∃ A c, u6 = .slice A out.length c := by
      rcases hL.2 with ⟨e, h0⟩ | ⟨g, cap, cur, e, _⟩
      · exact ⟨none, 0, by rw [e, h0]⟩
      · exact ⟨_, _, e⟩
    clear hL
    by_cases hlt : k < n
    · obtain ⟨b, off, rfl, hbl, x0, x1, x2⟩ := SlAcl.at_ (hl.below hbw) hlt
      have hsz := hsl k hlt
      have hD := fixF_drop ids out l k (by rw [HLL.out]; exact hlt)
      have HD := Lib.hid hD
      clear hbw hD
      generalize l[k]! = x at *
      obtain ⟨p, s, t⟩ := x
      obtain ⟨hss, hst⟩ : s.size ≤ 1073741824 ∧ t.size ≤ 1073741824 := hsz
      have hol2 : out.length ≤ 16 * (1048576 + 1) := by
        have : k * (m + 1) ≤ 16 * (1048576 + 1) := Nat.mul_le_mul (by omega) (by omega)
        omega
      have hbwS : w.heap.size ≤ wr.heap.size := HB.out.size
      have hb1 : Below wr.heap.size wr (wr.alloc (.cells #[.int .i32 p, .string s, .string t] 42)) := (Below.refl _ wr).alloc (Nat.le_refl _) _
      have cR := fun (W : World) => refRight_any p s t (by omega) W
      have hb2 : Below w.heap.size w (wr.alloc (.cells #[.int .i32 p, .string s, .string t] 42)) := HB.out.trans (hb1.mono HB.out.size)
      cases hr : rightP (p, s, t) with
      | true =>
        have HS : Hid (fixF ids [] l = fixF ids (putP out (p, s, t)) (l.drop (k + 1))) := Lib.hid (by
          rw [HF.out, HD.out]; unfold fixStep; rw [hr]; rfl)
        have HPL := Lib.hid (putP_len out (p, s, t))
        rw [hr] at cR
        clear hr
        go_wp2_with fail
        refine (cR _).mono ?_
        rintro e w1 ⟨rfl, hb3⟩
        obtain ⟨hc3, hf3⟩ := bcell hb3
        have hz3 : wr.heap.size < w1.heap.size := by have := hb3.size; simp at this; omega
        have hL1 := own_below (own_below HL.out hb1) hb3
        have cP := refPut_any w.heap.size (.slice Av out.length cv) out p s t w1 hL1 (by omega) (by omega)
        have hb4 : Below w.heap.size w w1 := hb2.trans (hb3.mono hb2.size)
        clear hL1
        go_wp2_with fail
        refine cP.mono ?_
        rintro e w2 ⟨v', rfl, hL2, hb5, _⟩
        have HL2 := Lib.hid hL2; clear hL2
        go_wp2
        go_roundw
        case rel => exact ⟨k + 1, putP out (p, s, t), by go_num, by have := HLL.out; omega, HS.out, by have := HPL.out; rw [Nat.succ_mul]; omega, HL2.out, hb4.trans hb5⟩
        case measure => simp [intOf]; omega
      | false =>
        rw [hr] at cR
        cases ha : authP (p, s, t) with
        | false =>
          have HV : Hid (fixP l ids = none) := Lib.hid (by
            rw [HF2.out, List.drop_zero, HF.out, HD.out]; unfold fixStep; rw [hr, ha]; rfl)
          have ha2 : (decide ((s, t) = (sAuth, ByteArray.empty)) && decide (0 ≤ p) && decide (p ≤ 31)) = false := ha
          have f := str_auth s
          clear hr ha
          by_cases es : s = sAuth
          · rw [decide_eq_true es] at f
            by_cases et : t = ByteArray.empty
            · have et1 : t.toList.isEmpty = true := by rw [et, ByteArray.toList_eq]; rfl
              rw [es, et] at ha2
              have hor : p < 0 ∨ (0 ≤ p ∧ 31 < p) := by simp at ha2; omega
              clear ha2 es et
              rcases hor with h3 | ⟨h3, h4⟩
              all_goals
                go_wp2_with fail
                refine (cR _).mono ?_
                rintro e w1 ⟨rfl, hb3⟩
                obtain ⟨hc3, hf3⟩ := bcell hb3
                have hz3 : wr.heap.size < w1.heap.size := by have := hb3.size; simp at this; omega
                go_wp2
                go_ret2
                exact FixPost.no HV.out (hb2.trans (hb3.mono hb2.size))
            · have et1 : t.toList.isEmpty = false := by
                rw [Bool.eq_false_iff]; intro h; exact et (bytes_ext (by rw [List.isEmpty_iff.1 h, ByteArray.toList_eq]; rfl))
              clear ha2 es et
              go_wp2_with fail
              refine (cR _).mono ?_
              rintro e w1 ⟨rfl, hb3⟩
              obtain ⟨hc3, hf3⟩ := bcell hb3
              have hz3 : wr.heap.size < w1.heap.size := by have := hb3.size; simp at this; omega
              go_wp2
              go_ret2
              exact FixPost.no HV.out (hb2.trans (hb3.mono hb2.size))
          · rw [decide_eq_false es] at f
            clear ha2 es
            go_wp2_with fail
            refine (cR _).mono ?_
            rintro e w1 ⟨rfl, hb3⟩
            obtain ⟨hc3, hf3⟩ := bcell hb3
            have hz3 : wr.heap.size < w1.heap.size := by have := hb3.size; simp at this; omega
            go_wp2
            go_ret2
            exact FixPost.no HV.out (hb2.trans (hb3.mono hb2.size))
        | true =>
          have ha2 : (decide ((s, t) = (sAuth, ByteArray.empty)) && decide (0 ≤ p) && decide (p ≤ 31)) = true := ha
          simp only [Bool.and_eq_true, decide_eq_true_eq, Prod.mk.injEq] at ha2
          obtain ⟨⟨⟨es, et⟩, hp0⟩, hp1⟩ := ha2
          have f := str_auth s
          rw [decide_eq_true es] at f
          have et1 : t.toList.isEmpty = true := by rw [et, ByteArray.toList_eq]; rfl
          have hzl := hz.1
          have HST : Hid (fixF ids [] l = if hasD ids m then fixF ids (idFold p out ids m) (l.drop (k + 1)) else none) := Lib.hid (by
            rw [HF.out, HD.out]; unfold fixStep
            rw [hr, ha]
            have e1 : hasD ids m = ids.any (fun x => decide (x.1 = sDigest)) := by unfold hasD; rw [List.take_of_length_le (by omega)]
            have e2 : idFold p out ids m = ids.foldl (idStep p) out := by unfold idFold; rw [List.take_of_length_le (by omega)]
            rw [e1, e2]
            cases ids.any (fun x => decide (x.1 = sDigest)) <;> rfl)
          have HZL := Lib.hid hzl
          clear ha es et hr hzl
          go_wp2_with fail
          refine (cR _).mono ?_
          rintro e w1 ⟨rfl, hb3⟩
          obtain ⟨hc3, hf3⟩ := bcell hb3
          have hz3 : wr.heap.size < w1.heap.size := by have := hb3.size; simp at this; omega
          have hL1 := own_below (own_below HL.out hb1) hb3
          have hb4 : Below w.heap.size w w1 := hb2.trans (hb3.mono hb2.size)
          have hcp : w1.cell? ⟨wr.heap.size, 0, none⟩ = some (.int .i32 p) := by rw [hc3 _ _ (by simp)]; simp
          go_wp2
          clear hc3 hf3
          have HNO : Hid ((Value.slice Av out.length cv).ownBlock ≠ some wr.heap.size) := Lib.hid (fun e => by
            rcases HL.out.2 with ⟨e2, _⟩ | ⟨g, cap, cur, e2, _, hh, _⟩
            · rw [e2] at e; cases e
            · rw [e2] at e
              have : g = wr.heap.size := by simpa [Value.ownBlock] using e
              have := (Array.getElem?_eq_some_iff.1 hh).1
              omega)
          have HL1 := Lib.hid hL1; have HB4 := Lib.hid hb4; have HCP := Lib.hid hcp
          clear hL1 hb4 hcp
          obtain ⟨wo, rfl⟩ : ∃ wo : World, wo = wr := ⟨_, rfl⟩
          go_loopw [6, 9, 10] (InFixR ids m p out w wo) (fun _ _ i _ => m - (intOf i).toNat)
          case atStart => exact ⟨0, rfl, by omega, rfl, HL1.out, HB4.out, HCP.out, hz3, HNO.out⟩
          case round =>
            obtain ⟨k2, rfl, hk2, rfl, hL2, hbx, hcx, hzx, hnx⟩ := hrel
            have HLX := Lib.hid hL2; have HBX := Lib.hid hbx
            clear hL2
            by_cases hlt2 : k2 < m
            · obtain ⟨b2, off2, rfl, hbl2, y0, y1⟩ := SlId.at_ (hz.below hbx) hlt2
              have hsz2 := hsi k2 hlt2
              have HI := Lib.hid (idFold_succ p out ids k2 (by rw [HZL.out]; exact hlt2))
              have HH := Lib.hid (hasD_succ ids k2 (by rw [HZL.out]; exact hlt2))
              have HIL := Lib.hid (idFold_len p out ids k2)
              clear hbx
              generalize ids[k2]! = y at *
              obtain ⟨s', t'⟩ := y
              obtain ⟨hs2, ht2⟩ : s'.size ≤ 1073741824 ∧ t'.size ≤ 1073741824 := hsz2
              have f2 := str_digest s'
              cases hq : decide (s' = sDigest) with
              | true =>
                have HS2 : Hid (idFold p out ids (k2 + 1) = putP (idFold p out ids k2) (p, s', t')) := Lib.hid (by rw [HI.out]; unfold idStep; rw [if_pos (of_decide_eq_true hq)])
                have HT2 : Hid (hasD ids (k2 + 1) = true) := Lib.hid (by rw [HH.out, hq]; simp)
                rw [hq] at f2
                clear hq
                obtain ⟨Av2, cv2, rfl⟩ : ∃ A c, u6 = .slice A (idFold p out ids k2).length c := by
                  rcases HLX.out.2 with ⟨e, h0⟩ | ⟨g, cap, cur, e, _⟩
                  · exact ⟨none, 0, by rw [e, h0]⟩
                  · exact ⟨_, _, e⟩
                have cP := refPut_any w.heap.size (.slice Av2 (idFold p out ids k2).length cv2) (idFold p out ids k2) p s' t' wr.drew HLX.out (by have := HIL.out; omega) HBX.out.size
                have hws : wr.drew.heap.size = wr.heap.size := rfl
                have hcd : wr.drew.cell? ⟨wo.heap.size, 0, none⟩ = some (.int .i32 p) := hcx
                have hbd : Below w.heap.size w wr.drew := HBX.out.drew
                have HWS := Lib.hid hws; have HCD := Lib.hid hcd; have HBD := Lib.hid hbd
                clear hws hcd hbd
                go_wp2
                go_still_tail 8, (by kernel_rfl)
                change wpList _ _ _ _ _ wr.drew
                generalize wr.drew = W at *
                go_wp2_with fail
                refine cP.mono ?_
                rintro e w2 ⟨v', rfl, hL2, hb6, hvb, hfr⟩
                have hws := HWS.out
                have hcy : w2.cell? ⟨wo.heap.size, 0, none⟩ = some (.int .i32 p) :=
                  (World.cell?_of_block (a := ⟨wo.heap.size, 0, none⟩) (hfr wo.heap.size (by omega) hnx)).trans HCD.out
                have hzy : wo.heap.size < w2.heap.size := by
                  have h1 := hb6.size; have h2 := World.block_lt_of_cell? w2 _ hcy; exact h2
                have hny : v'.ownBlock ≠ some wo.heap.size := by
                  rcases hvb with e | ⟨g, hg, e⟩
                  · rw [e]; exact hnx
                  · rw [e]; intro h; injection h with h; omega
                have HL2 := Lib.hid hL2; have HB6 := Lib.hid hb6; have HCY := Lib.hid hcy; have HNY := Lib.hid hny
                clear hL2 hb6 hcy hfr hvb hny hws
                go_wp2
                go_roundw
                case rel => exact ⟨k2 + 1, by go_num, by omega, by rw [HT2.out], by rw [HS2.out]; exact HL2.out, HBD.out.trans HB6.out, HCY.out, hzy, HNY.out⟩
                case measure => simp [intOf]; omega
              | false =>
                have HS2 : Hid (idFold p out ids (k2 + 1) = idFold p out ids k2) := Lib.hid (by rw [HI.out]; unfold idStep; rw [if_neg (of_decide_eq_false hq)])
                have HT2 : Hid (hasD ids (k2 + 1) = hasD ids k2) := Lib.hid (by rw [HH.out, hq]; simp)
                rw [hq] at f2
                clear hq
                go_wp2
                go_roundw
                case rel => exact ⟨k2 + 1, by go_num, by omega, by rw [HT2.out], by rw [HS2.out]; exact HLX.out, HBX.out, hcx, hzx, hnx⟩
                case measure => simp [intOf]; omega
            · obtain rfl : k2 = m := by omega
              have HIL := Lib.hid (idFold_len p out ids k2)
              clear hbx hcx
              cases hq : hasD ids k2 with
              | true =>
                have HV : Hid (fixF ids [] l = fixF ids (idFold p out ids k2) (l.drop (k + 1))) := Lib.hid (by rw [HST.out, hq]; rfl)
                clear hq
                go_wp2
                go_roundw
                case rel => exact ⟨k + 1, idFold p out ids k2, by go_num, by have := HLL.out; omega, HV.out, by have := HIL.out; rw [Nat.succ_mul]; omega, HLX.out, HBX.out⟩
                case measure => simp [intOf]; omega
              | false =>
                have HV : Hid (fixP l ids = none) := Lib.hid (by rw [HF2.out, List.drop_zero, HST.out, hq]; rfl)
                clear hq
                go_wp2
                go_ret2
                exact FixPost.no HV.out HBX.out
    · have HV : Hid (fixP l ids = if 16 < out.length then none else some out) := Lib.hid (by
        rw [HF2.out, List.drop_zero, HF.out, fixF_end ids out l k (by have := HLL.out; omega)])
      clear hbw
      by_cases h16 : 16 < out.length
      · rw [if_pos h16] at HV
        go_wp2
        go_ret2
        exact FixPost.no HV.out HB.out
      · rw [if_neg h16] at HV
        go_wp2
        go_ret2
        exact FixPost.yes HV.out HL.out HB.out
end Go.Proofs.YtmchfdmnngngiaaDoor
