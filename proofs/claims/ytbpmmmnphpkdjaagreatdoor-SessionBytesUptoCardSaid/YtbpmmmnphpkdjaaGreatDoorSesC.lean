/- A session as bytes: the document's walks that write it; the walk that reads it; the document's Reader's Long, and what it reads when it has failed. Condition: at most 2^20 bytes. -/
import Derived.Test.YtbpmmmnphpkdjaaGreatDoorSesB
namespace Go.Proofs.YtbpmmmnphpkdjaaGreatDoor
open Go.RowKit Go.MapKept Go.Maps
set_option maxRecDepth 100000 in
theorem refSesPut_any (i tm : Int) (A : Option Addr) (n c : Nat) (zs : List IdV) (w : World) (hz : Sl w w.heap.size encId 2 A n zs) (hn : n ≤ 1048576) (hs : ∀ j, j < n → (zs[j]!.1.size ≤ 1048576 ∧ zs[j]!.2.size ≤ 1048576)) :
    Calls Tryz.prog 50 #[.slice none 0 0, .agg #[.int .i64 i, .int .i32 tm, .slice A n c]] w (RwPost (sesB i tm zs) w.heap.size w) := by
  have hb1 : Below w.heap.size w (w.alloc (.cells #[.int .i64 i, .int .i32 tm, .slice A n c] 47)) := (Below.refl _ w).alloc (Nat.le_refl _) _
  have hg := heap_alloc_new w (.cells #[.int .i64 i, .int .i32 tm, .slice A n c] 47)
  have HG := Lib.hid hg
  have HB1 := Lib.hid hb1
  have HZ := Lib.hid (hz.below hb1)
  have HS := Lib.hid hs; have HLen := Lib.hid hz.len
  have hP := rwPut_any (w.alloc (.cells #[.int .i64 i, .int .i32 tm, .slice A n c] 47)).heap.size 8 (m64 i) none 0 [] (w.alloc (.cells #[.int .i64 i, .int .i32 tm, .slice A n c] 47)) (World.ownsRow_nil _ _ _ _) (Nat.le_refl _) (by simp) (.inr rfl)
  rw [m64_cast] at hP
  have HP := Lib.hid (show Calls Tryz.prog 98 #[.slice none 0 0, .int .u64 (i % 18446744073709551616), .int .i64 8] (w.alloc (.cells #[.int .i64 i, .int .i32 tm, .slice A n c] 47)) (RwPost (beB (m64 i) 8) (w.alloc (.cells #[.int .i64 i, .int .i32 tm, .slice A n c] 47)).heap.size (w.alloc (.cells #[.int .i64 i, .int .i32 tm, .slice A n c] 47))) from hP)
  have HL8 := Lib.hid (beB_len (m64 i) 8)
  obtain ⟨l8, hl8⟩ : ∃ l8, Hid (beB (m64 i) 8 = l8) := ⟨_, Lib.hid rfl⟩
  rw [hl8.out] at HP HL8
  clear hb1 hg hz hs hP
  go_enter Tryz.func50, Tryz.ntmps50
  go_wp2_with fail
  generalize w.alloc (.cells #[.int .i64 i, .int .i32 tm, .slice A n c] 47) = W at *
  refine HP.out.mono ?_
  rintro e w1 ⟨⟨A1, c1, rfl, hr⟩, hb⟩
  have hlt := (Array.getElem?_eq_some_iff.1 HG.out).1
  have hg1 := (hb.block w.heap.size hlt).trans HG.out
  have x1 : w1.cell? ⟨w.heap.size, 1, none⟩ = some (.int .i32 tm) := by rw [cellH hg1]; rfl
  have hP := rwPut_any W.heap.size 4 (m32 tm) A1 c1 l8 w1 hr hb.size (by rw [HL8.out]; decide) (.inl rfl)
  rw [m32_cast] at hP
  obtain ⟨l12, hl12⟩ : ∃ l12, Hid (l8 ++ beB (m32 tm) 4 = l12) := ⟨_, Lib.hid rfl⟩
  rw [hl12.out] at hP
  have HP2 := Lib.hid hP
  have HL12 := Lib.hid (show l12.length = 12 by rw [← hl12.out, List.length_append, HL8.out, beB_len])
  have HG1 := Lib.hid hg1; have HBW := Lib.hid hb
  clear hP hr hb hg1 HP
  go_wp2_with fail
  refine HP2.out.mono ?_
  rintro e w2 ⟨⟨A2, c2, rfl, hr⟩, hb⟩
  have HBW2 := Lib.hid (HBW.out.trans hb)
  have hg2 := (HBW2.out.block w.heap.size hlt).trans HG.out
  have x2 : w2.cell? ⟨w.heap.size, 2, none⟩ = some (.slice A n c) := by rw [cellH hg2]; rfl
  have HZ2 := Lib.hid (HZ.out.below (HBW2.out.mono HB1.out.size))
  have hP := rwPutIds_any W.heap.size A2 c2 l12 A n c zs w2 hr HBW2.out.size (HZ2.out.more HB1.out.size) (by rw [HL12.out]; decide) hn HS.out
  obtain ⟨l3, hl3⟩ : ∃ l3, Hid (l12 ++ (beB n 4 ++ zs.flatMap idB) = l3) := ⟨_, Lib.hid rfl⟩
  rw [hl3.out] at hP
  have HP3 := Lib.hid hP
  clear hP hr hb hg2 x1 HP2
  go_wp2_with fail
  refine HP3.out.mono ?_
  rintro e w3 ⟨⟨A3, c3, rfl, hr⟩, hb⟩
  have HR := Lib.hid (row8_low hr HB1.out.size)
  have HB3 := Lib.hid (HB1.out.trans ((HBW2.out.trans hb).mono HB1.out.size))
  have HLL := Lib.hid (show l3 = sesB i tm zs by
    rw [← hl3.out, ← hl12.out, ← hl8.out]; unfold sesB; rw [HLen.out]; simp [List.append_assoc])
  clear hr hb x2
  go_wp2_with fail
  go_ret
  rw [← HLL.out]
  exact ⟨⟨A3, c3, rfl, HR.out⟩, HB3.out⟩
theorem rfLong_st {l : Bs} {q : Nat} {e : Int} : stP e q (longP l q) = (stP e q (numP l 8 q)).then (fun v a => .ok (i64N v, a)) := (takeP_st (l := l) (m := 8) (q := q) (e := e) i64N).symm
set_option maxRecDepth 100000 in
theorem rfLong_any {w : World} {rb n c q : Nat} {A : Option Addr} {l : Bs} {e : Int} (h : Rf w rb A n c l q e) :
    Calls Tryz.prog 102 #[.pointer (some ⟨rb, 0, none⟩)] w (RfOut rb A n c l w (stP e q (longP l q)) (fun v u _ => u = .int .i64 v) (.int .i64 0)) := by
  have hN := rfTake_any 8 8 rfl (by decide) h
  have hG := rfLong_st (l := l) (q := q) (e := e)
  clear h
  go_enter Tryz.func102, Tryz.ntmps102
  rcases hT : stP e q (numP l 8 q) with ⟨q2, k⟩ | ⟨v, q2⟩
  · rw [hT] at hN hG
    have HN := Lib.hid hN; have HG := Lib.hid hG
    clear hN hG hT
    go_wp2_with fail
    refine HN.out.mono ?_
    rintro e2 w1 ⟨hf, hk, rfl, hr⟩
    have HR := Lib.hid hr; have HF := Lib.hid hf; have HK := Lib.hid hk
    clear hr hf hk
    go_wp2_with fail
    go_ret
    rw [HG.out]
    exact ⟨HF.out, HK.out, rfl, HR.out⟩
  · have hlt : v < 18446744073709551616 := numP_lt hT
    rw [hT] at hN hG
    have HN := Lib.hid hN; have HG := Lib.hid hG
    have HC := Lib.hid (show wrap64 (v : Int) = i64N v by unfold i64N wrap64; split <;> omega)
    clear hN hG hT hlt
    go_wp2_with fail
    refine HN.out.mono ?_
    rintro e2 w1 ⟨hf, ⟨u, rfl, rfl⟩, hr⟩
    have HR := Lib.hid hr; have HF := Lib.hid hf
    clear hr hf
    go_wp2_with fail
    go_ret
    rw [HG.out]
    exact ⟨HF.out, ⟨_, rfl, congrArg (Value.int .i64) HC.out⟩, HR.out⟩
set_option maxRecDepth 100000 in
theorem rfCount_dead {w : World} {rb n c q : Nat} {A : Option Addr} {l : Bs} {e : Int} (m k : Int) (h : Rf w rb A n c l q e) (he : e ≠ 0) :
    Calls Tryz.prog 135 #[.pointer (some ⟨rb, 0, none⟩), .int .i64 m, .int .i64 k] w fun e' w' => e' = .returned (.int .i64 0) ∧ Rf w' rb A n c l q e ∧ Fr [rb] w w' := by
  have hN := rfInt_any h
  have k1 := h.c1
  unfold stP at hN
  rw [if_neg he] at hN
  have HN := Lib.hid hN
  clear h hN
  have hk2 : (e != 0) = true := by simpa using he
  go_enter Tryz.func135, Tryz.ntmps135
  go_wp2_with fail
  refine HN.out.mono ?_
  rintro e2 w1 ⟨hf, hk, rfl, hr⟩
  have c2 := hr.c2
  have HR := Lib.hid hr; have HF := Lib.hid hf
  clear hr hf hk
  go_wp2_with fail
  go_ret
  exact ⟨rfl, HR.out, HF.out⟩
set_option maxRecDepth 100000 in
theorem rfGetIds_dead {w : World} {rb n c q : Nat} {A : Option Addr} {l : Bs} {e : Int} (h : Rf w rb A n c l q e) (he : e ≠ 0) :
    Calls Tryz.prog 104 #[.pointer (some ⟨rb, 0, none⟩)] w fun e' w' => e' = .returned (.slice none 0 0) ∧ Rf w' rb A n c l q e ∧ Fr [rb] w w' := by
  have HN := Lib.hid (rfCount_dead 16 8 h he)
  clear h he
  go_enter Tryz.func104, Tryz.ntmps104
  go_wp2_with fail
  refine HN.out.mono ?_
  rintro e2 w1 ⟨rfl, hr, hf⟩
  have HR := Lib.hid hr; have HF := Lib.hid hf
  clear hr hf
  go_wp2_with fail
  go_loopw [4, 5] (fun v i wr => v = .slice none 0 0 ∧ i = .int .i64 0 ∧ wr = w1) (fun _ _ _ => 0)
  case atStart => exact ⟨rfl, rfl, rfl⟩
  case round =>
    obtain ⟨rfl, rfl, rfl⟩ := hrel
    go_wp2_with fail
    go_ret
    exact ⟨rfl, HR.out, HF.out⟩
/-- a session -/
def sesP (l : Bs) (p : Nat) : PR (Int × Int × List (Bs × Bs)) := (longP l p).then fun i a => (intP l a).then fun t b => (listP l 16 8 (idP l) b).then fun v c => .ok ((i, t, v), c)
theorem sesP_in {l : Bs} {p : Nat} (hp : p ≤ l.length) : (sesP l p).within l := (longP_in hp).bind fun _ _ _ h => (intP_in h).bind fun _ _ _ h => (listP_in 16 8 (fun _ hp => idP_in hp) h).bind fun _ _ _ h => h
abbrev SesB := Int × Int × List (Bs × Bs)
/-- a session that was read: its identities lie at or above a block -/
def SesAt (base : Nat) (v : SesB) (u : Value) (w' : World) : Prop := ∃ B d, u = .agg #[.int .i64 v.1, .int .i32 v.2.1, .slice B v.2.2.length d] ∧ w'.ownsRow base 155 2 (.slice B v.2.2.length d) v.2.2.length ((v.2.2.map idV).flatMap encId)
set_option maxRecDepth 100000 in
theorem rSes_any {w : World} {rb n c p : Nat} {A : Option Addr} {l : Bs} (h : Rd w rb A n c l p) (hT : TabsR rb w) :
    Calls Tryz.prog 101 #[.pointer (some ⟨rb, 0, none⟩)] w (RdOut rb A n c l w (sesP l p) (fun v u w' => SesAt w.heap.size v u w')) := by
  have hlt := h.lt
  have hb1 : Below w.heap.size w (w.alloc (.cells #[.int .i64 0, .int .i32 0, .slice none 0 0] 47)) := (Below.refl _ w).alloc (Nat.le_refl _) _
  have HR := Lib.hid (h.below hb1)
  have HF := Lib.hid (Fr.of_below (own := [rb]) hb1)
  have HT := Lib.hid (hT.fr (Fr.of_below hb1))
  have HG0 := Lib.hid (heap_alloc_new w (.cells #[.int .i64 0, .int .i32 0, .slice none 0 0] 47))
  have HSz := Lib.hid hb1.size
  have hne : rb ≠ w.heap.size := by omega
  clear h hT hb1
  go_enter Tryz.func101, Tryz.ntmps101
  go_wp2_with fail
  generalize w.alloc (.cells #[.int .i64 0, .int .i32 0, .slice none 0 0] 47) = W at *
  have hN := rLong_any HR.out
  rcases hX : longP l p with ⟨q, k⟩ | ⟨z, q⟩
  · have HG := Lib.hid (show sesP l p = .error (q, k) by unfold sesP; rw [hX]; rfl)
    rw [hX] at hN
    refine hN.mono ?_
    rintro e w2 ⟨rfl, hr, hf⟩
    refine ⟨rfl, ?_⟩
    rw [HG.out]
    exact ⟨rfl, hr, HF.out.transJ hf⟩
  · rw [hX] at hN
    refine hN.mono ?_
    rintro e w2 ⟨⟨u, rfl, rfl⟩, hr, hf⟩
    have HR2 := Lib.hid hr; have HF2 := Lib.hid (HF.out.transJ hf); have HT2 := Lib.hid (HT.out.fr hf)
    have HG2 := Lib.hid ((hf.block _ (Array.getElem?_eq_some_iff.1 HG0.out).1 (by simp; omega)).trans HG0.out)
    clear hr hf hN
    go_wp2_with fail
    have hN := rInt_any HR2.out
    rcases hY : intP l q with ⟨q2, k⟩ | ⟨t, q2⟩
    · have HG := Lib.hid (show sesP l p = .error (q2, k) by unfold sesP; rw [hX]; show (intP l q).then _ = _; rw [hY]; rfl)
      rw [hY] at hN
      refine hN.mono ?_
      rintro e w3 ⟨rfl, hr, hf⟩
      refine ⟨rfl, ?_⟩
      rw [HG.out]
      exact ⟨rfl, hr, HF2.out.transJ hf⟩
    · rw [hY] at hN
      refine hN.mono ?_
      rintro e w3 ⟨⟨u, rfl, rfl⟩, hr, hf⟩
      have HR3 := Lib.hid hr; have HF3 := Lib.hid (HF2.out.transJ hf); have HT3 := Lib.hid (HT2.out.fr hf)
      have HG3 := Lib.hid ((hf.block _ (Array.getElem?_eq_some_iff.1 HG2.out).1 (by simp; omega)).trans HG2.out)
      clear hr hf hN
      go_wp2_with fail
      have hN := getIds6_any HR3.out HT3.out
      rcases hZ : listP l 16 8 (idP l) q2 with ⟨q3, k⟩ | ⟨v, q3⟩
      · have HG := Lib.hid (show sesP l p = .error (q3, k) by unfold sesP; rw [hX]; show (intP l q).then _ = _; rw [hY]; show (listP l 16 8 (idP l) q2).then _ = _; rw [hZ]; rfl)
        rw [hZ] at hN
        refine hN.mono ?_
        rintro e w4 ⟨rfl, hr, hf⟩
        refine ⟨rfl, ?_⟩
        rw [HG.out]
        exact ⟨rfl, hr, HF3.out.transJ hf⟩
      · have HG := Lib.hid (show sesP l p = .ok ((z, t, v), q3) by unfold sesP; rw [hX]; show (intP l q).then _ = _; rw [hY]; show (listP l 16 8 (idP l) q2).then _ = _; rw [hZ]; rfl)
        rw [hZ] at hN
        refine hN.mono ?_
        rintro e w4 ⟨⟨u, rfl, B, d, rfl, hrow⟩, hr, hf⟩
        have hg4 := (hf.block _ (Array.getElem?_eq_some_iff.1 HG3.out).1 (by simp; omega)).trans HG3.out
        have z0 : w4.frozen? ⟨w.heap.size, 0, none⟩ = false := by simp [World.frozen?, hg4]
        have z1 : w4.frozen? ⟨w.heap.size, 1, none⟩ = false := by simp [World.frozen?, hg4]
        have z2 : w4.frozen? ⟨w.heap.size, 2, none⟩ = false := by simp [World.frozen?, hg4]
        have y0 : w4.cell? ⟨w.heap.size, 0, none⟩ = some (.int .i64 0) := by rw [cellH hg4]; rfl
        have y1 : w4.cell? ⟨w.heap.size, 1, none⟩ = some (.int .i32 0) := by rw [cellH hg4]; rfl
        have y2 : w4.cell? ⟨w.heap.size, 2, none⟩ = some (.slice none 0 0) := by rw [cellH hg4]; rfl
        have hf5 : Fr [w.heap.size] w4 (((w4.setCell ⟨w.heap.size, 0, none⟩ (.int .i64 z)).setCell ⟨w.heap.size, 1, none⟩ (.int .i32 t)).setCell ⟨w.heap.size, 2, none⟩ (.slice B v.length d)) := ((fr_setJ w4 _ 0 _).setJ (by simp) 1 _).setJ (by simp) 2 _
        have HR5 := Lib.hid (hr.fr hf5 (by simp; omega))
        have HF5 := Lib.hid ((HF3.out.transJ hf).trans hf5 (by simp))
        have hlw3 : w.heap.size < w3.heap.size := (Array.getElem?_eq_some_iff.1 HG3.out).1
        have HO5 := Lib.hid (own_fr hrow hf5 (by simp; omega))
        have hv3 := heap_setJ (o := 2) (heap_setJ (o := 1) (heap_setJ (o := 0) hg4 (.int .i64 z)) (.int .i32 t)) (.slice B v.length d)
        have HV := Lib.hid hv3
        clear hr hf hN hf5 hv3 hrow
        go_wp2_with fail
        generalize ((w4.setCell ⟨w.heap.size, 0, none⟩ (.int .i64 z)).setCell ⟨w.heap.size, 1, none⟩ (.int .i32 t)).setCell ⟨w.heap.size, 2, none⟩ (.slice B v.length d) = V at *
        have v0 : V.cell? ⟨w.heap.size, 0, none⟩ = some (.int .i64 z) := by rw [cellH HV.out]; rfl
        have v1 : V.cell? ⟨w.heap.size, 1, none⟩ = some (.int .i32 t) := by rw [cellH HV.out]; rfl
        have v2 : V.cell? ⟨w.heap.size, 2, none⟩ = some (.slice B v.length d) := by rw [cellH HV.out]; rfl
        refine bodyPost_ret (v := .agg #[.int .i64 z, .int .i32 t, .slice B v.length d]) (by simp [results, Tryz.results101, go_sem, v0, v1, v2, Tryz.sizeOf47, Tryz.isAgg47]) rfl ?_
        rw [HG.out]
        have h9 := HO5.out
        exact ⟨⟨_, rfl, B, d, rfl, ⟨h9.1, h9.2.imp (fun x => x) fun ⟨g, cap, cur, a, b, r⟩ => ⟨g, cap, cur, a, by omega, r⟩⟩⟩, HR5.out, HF5.out⟩
end Go.Proofs.YtbpmmmnphpkdjaaGreatDoor
