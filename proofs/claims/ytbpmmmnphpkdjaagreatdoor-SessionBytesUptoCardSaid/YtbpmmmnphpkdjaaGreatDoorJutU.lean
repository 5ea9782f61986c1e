/- The walks of the document's lists of identities and of entries, read. Condition: at most 2^20 bytes. -/
import Derived.Test.YtbpmmmnphpkdjaaGreatDoorJutS2
namespace Go.Proofs.YtbpmmmnphpkdjaaGreatDoor
open Go.RowKit Go.MapKept Go.Maps
def resP {α : Type} (e : Int) (q : Nat) (v : α) : PR α := if e = 0 then .ok (v, q) else .error (q, e)
theorem RfOut.gen {α : Type} {rb n c : Nat} {A : Option Addr} {l : Bs} {w w' : World} {x : PR α} {V : α → Value} {Z : Value} {e : Ending} (d : α) (hZ : Z = V d) (h : RfOut rb A n c l w x (fun v u _ => u = V v) Z e w') :
    ∃ v q' e', x = resP e' q' v ∧ e = .returned (V v) ∧ Rf w' rb A n c l q' e' ∧ Fr [rb] w w' := by
  obtain ⟨hf, h⟩ := h
  rcases x with ⟨q, k⟩ | ⟨v, q⟩
  · obtain ⟨hk, rfl, hr⟩ := h
    exact ⟨d, q, k, (if_neg hk).symm, by rw [hZ], hr, hf⟩
  · obtain ⟨⟨u, rfl, rfl⟩, hr⟩ := h
    exact ⟨v, q, 0, (if_pos rfl).symm, rfl, hr, hf⟩
theorem resP_bind {α β : Type} {e1 e2 : Int} {q1 q2 : Nat} {a : α} {b : β} {x : PR α} {y : α → Nat → PR β} (h1 : x = resP e1 q1 a) (h2 : stP e1 q1 (y a q1) = resP e2 q2 b) : x.then y = resP e2 q2 b := by
  subst h1
  unfold resP stP at *
  by_cases h : e1 = 0
  · rw [if_pos h] at h2 ⊢
    exact h2
  · rw [if_neg h] at h2 ⊢
    exact h2
theorem resP_map {α β : Type} {e1 e2 : Int} {q1 q2 : Nat} {b : β} {x : PR β} {f : β → α} (h2 : stP e1 q1 x = resP e2 q2 b) : stP e1 q1 (x.then fun v a => .ok (f v, a)) = resP e2 q2 (f b) := by
  unfold resP stP at *
  by_cases h : e1 = 0
  · rw [if_pos h] at h2 ⊢
    subst h2
    by_cases h : e2 = 0
    · rw [if_pos h, if_pos h]; rfl
    · rw [if_neg h, if_neg h]; rfl
  · rw [if_neg h] at h2 ⊢
    by_cases h' : e2 = 0
    · rw [if_pos h'] at h2; cases h2
    · rw [if_neg h'] at h2 ⊢
      injection h2 with h2; rw [h2]
theorem st_bind {α β : Type} {e1 e2 e3 : Int} {q1 q2 q3 : Nat} {a : α} {b : β} {x : PR α} {y : α → Nat → PR β} (h1 : stP e1 q1 x = resP e2 q2 a) (h2 : stP e2 q2 (y a q2) = resP e3 q3 b) : stP e1 q1 (x.then y) = resP e3 q3 b := by
  by_cases h : e1 = 0
  · unfold stP at h1 ⊢
    rw [if_pos h] at h1 ⊢
    exact resP_bind h1 h2
  · unfold stP at h1 ⊢
    rw [if_neg h] at h1 ⊢
    unfold resP at h1
    by_cases h' : e2 = 0
    · rw [if_pos h'] at h1; cases h1
    · rw [if_neg h'] at h1
      unfold stP at h2
      rw [if_neg h'] at h2
      injection h1 with h1
      rw [h1]; exact h2
theorem idP_res {l : Bs} {e1 e2 e3 : Int} {q1 q2 q3 : Nat} {a b : Bs} (h1 : stP e1 q1 (textP l 256 q1) = resP e2 q2 a) (h2 : stP e2 q2 (textP l 256 q2) = resP e3 q3 b) : stP e1 q1 (idP l q1) = resP e3 q3 (a, b) := by
  unfold idP
  exact st_bind h1 (resP_map h2)
theorem aclP_res {l : Bs} {q q1 q2 q3 : Nat} {e1 e2 e3 : Int} {z : Int} {a b : Bs} (h0 : stP 0 q (intP l q) = resP e1 q1 z) (h1 : stP e1 q1 (textP l 256 q1) = resP e2 q2 a) (h2 : stP e2 q2 (textP l 256 q2) = resP e3 q3 b) : stP 0 q (aclP l q) = resP e3 q3 (z, a, b) := by
  unfold aclP
  exact st_bind h0 (resP_map (idP_res h1 h2))
/-- how the document's list is read -/
def RgOutId (rb : Nat) (A : Option Addr) (n c : Nat) (l : Bs) (w : World) (x : PR (List (Bs × Bs))) (e : Ending) (w' : World) : Prop :=
  Fr [rb] w w' ∧ ∃ B d m, e = .returned (.slice B m d) ∧ match x with
  | .ok (xs, q) => m = xs.length ∧ w'.ownsRow w.heap.size 155 2 (.slice B xs.length d) xs.length ((xs.map idV).flatMap encId) ∧ Rf w' rb A n c l q 0
  | .error (q, k) => k ≠ 0 ∧ Rf w' rb A n c l q k
def JGId (rb : Nat) (A : Option Addr) (n c : Nat) (l : Bs) (w : World) (N : Nat) (tot : PR (List (Bs × Bs))) (v i : Value) (wr : World) : Prop :=
  ∃ (xs : List (Bs × Bs)) (B : Option Addr) (d q : Nat) (e : Int), v = .slice B xs.length d ∧ i = .int .i64 (xs.length : Int) ∧ xs.length ≤ N ∧ ((e = 0 ∧ (repP (idP l) (N - xs.length) q).ahead xs = tot) ∨ (e ≠ 0 ∧ tot = .error (q, e))) ∧ Rf wr rb A n c l q e ∧ Fr [rb] w wr ∧ wr.ownsRow w.heap.size 155 2 (.slice B xs.length d) xs.length ((xs.map idV).flatMap encId)
set_option maxRecDepth 100000 in
set_option maxHeartbeats 1000000 in
theorem rfGetIds_any {w : World} {rb n c p : Nat} {A : Option Addr} {l : Bs} (h : Rf w rb A n c l p 0) :
    Calls Tryz.prog 104 #[.pointer (some ⟨rb, 0, none⟩)] w (RgOutId rb A n c l w (listP l 16 8 (idP l) p)) := by
  have hlt := h.lt
  have hN := rfCount_any 16 16 rfl 8 8 rfl (by decide) (by decide) h
  clear h
  go_enter Tryz.func104, Tryz.ntmps104
  go_wp2_with fail
  rcases hX : countP l 16 8 p with ⟨q, k⟩ | ⟨N, q⟩
  · have HG := Lib.hid (show listP l 16 8 (idP l) p = .error (q, k) by unfold listP; rw [hX]; rfl)
    rw [hX] at hN
    refine hN.mono ?_
    rintro e w2 ⟨hf, hk, rfl, hr⟩
    have HR := Lib.hid hr; have HF := Lib.hid hf; have HK := Lib.hid hk
    clear hr hf hk hN hX
    go_wp2_with fail
    go_loopw [4, 5] (fun v i wr => v = .slice none 0 0 ∧ i = .int .i64 0 ∧ wr = w2) (fun _ _ _ => 0)
    case atStart => exact ⟨rfl, rfl, rfl⟩
    case round =>
      obtain ⟨rfl, rfl, rfl⟩ := hrel
      go_wp2_with fail
      go_ret
      rw [HG.out]
      exact ⟨HF.out, none, 0, 0, rfl, HK.out, HR.out⟩
  · obtain ⟨rfl, hN16⟩ := countP_ok hX
    have HG := Lib.hid (show listP l 16 8 (idP l) p = repP (idP l) N (p + 4) by unfold listP; rw [hX]; rfl)
    rw [hX] at hN
    refine hN.mono ?_
    rintro e w2 ⟨hf, ⟨u, rfl, rfl⟩, hr⟩
    have HR2 := Lib.hid hr; have HF2 := Lib.hid hf
    clear hr hf hN hX
    go_wp2_with fail
    go_loopw [4, 5] (fun v i wr => JGId rb A n c l w N (listP l 16 8 (idP l) p) v i wr) (fun _ i _ => N - (RowKit.intOf i).toNat)
    case atStart => exact ⟨[], none, 0, p + 4, 0, rfl, rfl, Nat.zero_le _, .inl ⟨rfl, by rw [ahead_nil, HG.out]; rfl⟩, HR2.out, HF2.out, World.ownsRow_nil _ _ _ _⟩
    case round =>
      obtain ⟨xs, B, d, q, e, rfl, rfl, hxn, htot, hrd, hfr, hrow⟩ := hrel
      have HTOT := Lib.hid htot; have HRD := Lib.hid hrd; have HFR := Lib.hid hfr; have HROW := Lib.hid hrow
      have y2 := hrd.c2
      clear htot hrd hfr hrow
      by_cases hk : xs.length < N
      · have hk2 : (xs.length : Int) < (N : Int) := by omega
        by_cases he : e = 0
        · subst he
          have HTO := Lib.hid (show (repP (idP l) (N - xs.length) q).ahead xs = listP l 16 8 (idP l) p from HTOT.out.elim (fun h => h.2) (fun h => absurd rfl h.1))
          have hws := HFR.out.size
          clear HTOT
          have hb1 : Below wr.heap.size wr (wr.alloc (.cells #[.string ⟨#[]⟩, .string ⟨#[]⟩] 155)) := (Below.refl _ wr).alloc (Nat.le_refl _) _
          have HR1 := Lib.hid (HRD.out.below hb1)
          have HF1 := Lib.hid (Fr.of_below (own := [rb]) hb1)
          have HG1 := Lib.hid (heap_alloc_new wr (.cells #[.string ⟨#[]⟩, .string ⟨#[]⟩] 155))
          clear hb1
          go_wp2_with fail
          generalize wr.alloc (.cells #[.string ⟨#[]⟩, .string ⟨#[]⟩] 155) = w1 at *
          have hhb : rb < wr.heap.size := HRD.out.lt
          generalize hHB : wr.heap.size = hb at *
          have HHB := Lib.hid hHB
          clear hHB
          refine (rfText_any 256 256 rfl HR1.out).mono ?_
          rintro e w3 ho
          obtain ⟨b3, q3, e3, hx, rfl, hr, hf⟩ := ho.gen [] rfl
          have HX3 := Lib.hid hx
          have hgA := (hf.block _ (Array.getElem?_eq_some_iff.1 HG1.out).1 (by simp; omega)).trans HG1.out
          have z0 : w3.frozen? ⟨hb, 0, none⟩ = false := by simp [World.frozen?, hgA]
          have z1 : w3.cell? ⟨hb, 0, none⟩ = some (.string ⟨#[]⟩) := by rw [cellH hgA]; rfl
          have hgB := heap_setJ (o := 0) hgA (.string (toBA b3))
          have hfs := fr_setJ w3 hb 0 (.string (toBA b3))
          have hlb := (Array.getElem?_eq_some_iff.1 hgB).1
          have HR3 := Lib.hid (hr.fr hfs (by have := HR1.out.lt; simp; omega))
          have HF3 := Lib.hid ((HF1.out.transJ hf).trans hfs (by have := HHB.out; simp; omega))
          have HG3 := Lib.hid hgB
          clear ho hx hr hf hgA hgB hfs hlb
          go_wp2_with fail
          clear z0 z1
          generalize w3.setCell ⟨hb, 0, none⟩ (.string (toBA b3)) = v3 at *
          refine (rfText_any 256 256 rfl HR3.out).mono ?_
          rintro e w4 ho
          obtain ⟨b4, q4, e4, hx, rfl, hr, hf⟩ := ho.gen [] rfl
          have HX4 := Lib.hid hx
          have hgA := (hf.block _ (Array.getElem?_eq_some_iff.1 HG3.out).1 (by simp; omega)).trans HG3.out
          have z0 : w4.frozen? ⟨hb, 1, none⟩ = false := by simp [World.frozen?, hgA]
          have z1 : w4.cell? ⟨hb, 1, none⟩ = some (.string ⟨#[]⟩) := by rw [cellH hgA]; rfl
          have hgB := heap_setJ (o := 1) hgA (.string (toBA b4))
          have hfs := fr_setJ w4 hb 1 (.string (toBA b4))
          have hlb := (Array.getElem?_eq_some_iff.1 hgB).1
          have k0 : w4.cell? ⟨hb, 0, none⟩ = some (.string (toBA b3)) := by rw [cellH hgA]; rfl
          have hsz : (w4.setCell ⟨hb, 1, none⟩ (.string (toBA b4))).heap.size = w4.heap.size := by simp [World.setCell]
          have hal : Below (w4.setCell ⟨hb, 1, none⟩ (.string (toBA b4))).heap.size (w4.setCell ⟨hb, 1, none⟩ (.string (toBA b4))) ((w4.setCell ⟨hb, 1, none⟩ (.string (toBA b4))).alloc (.cells #[.string (toBA b3), .string (toBA b4)] 155)) := (Below.refl _ _).alloc (Nat.le_refl _) _
          have hf7 := ((HF3.out.transJ hf).trans hfs (by have := HHB.out; simp; omega)).trans (Fr.of_below (own := []) hal) (by simp)
          have hr7 := (hr.fr hfs (by have := HRD.out.lt; have := HHB.out; simp; omega)).below hal
          have HR7 := Lib.hid hr7
          have HF7 := Lib.hid hf7
          have HO7 := Lib.hid (own_fr HROW.out hf7 (by simp; omega))
          have HS7 := Lib.hid (show Sl ((w4.setCell ⟨hb, 1, none⟩ (.string (toBA b4))).alloc (.cells #[.string (toBA b3), .string (toBA b4)] 155)) ((w4.setCell ⟨hb, 1, none⟩ (.string (toBA b4))).alloc (.cells #[.string (toBA b3), .string (toBA b4)] 155)).heap.size encId 2 (some ⟨w4.heap.size, 0, none⟩) 1 [((toBA b3, toBA b4) : IdV)] from by
            have h9 := heap_alloc_new (w4.setCell ⟨hb, 1, none⟩ (.string (toBA b4))) (.cells #[.string (toBA b3), .string (toBA b4)] 155)
            rw [hsz] at h9
            refine ⟨rfl, fun _ => ⟨w4.heap.size, 0, rfl, (Array.getElem?_eq_some_iff.1 h9).1, fun j hj a u hu => ?_⟩⟩
            have hj0 : j = 0 := by omega
            subst hj0
            rw [cellH h9]
            match a, hu with
            | 0, hu => exact hu
            | 1, hu => exact hu)
          have HRES := Lib.hid (idP_res (e1 := 0) HX3.out HX4.out)
          clear ho hx hr hf hgA hgB hfs hal hf7 hr7 hsz
          go_wp2_with (at_builtin; refine wpList_appG elemIdJ rfl _ _ rfl w.heap.size B xs.length d (xs.map idV) ?hxId HO7.out (some ⟨w4.heap.size, 0, none⟩) 1 1 [((toBA b3, toBA b4) : IdV)] ?hyId HS7.out (fun e => by cases e) (by omega) (Nat.le_trans HFR.out.size HF7.out.size) ?hkId)
          (try case hxId => rfl)
          (try case hyId => rfl)
          case hkId =>
            intro A8 c8 w8 hv8 hb8
            have HB8 := Lib.hid hb8
            have HV8 := Lib.hid (show w8.ownsRow w.heap.size 155 2 (.slice A8 (xs ++ [((b3, b4) : Bs × Bs)]).length c8) (xs ++ [((b3, b4) : Bs × Bs)]).length (((xs ++ [((b3, b4) : Bs × Bs)]).map idV).flatMap encId) by
              rw [List.length_append, List.length_singleton, List.map_append, List.map_singleton, List.flatMap_append]
              simpa [idV, idV] using hv8)
            clear hv8 hb8
            go_wp2_with fail
            go_roundw
            case rel =>
              refine ⟨xs ++ [((b3, b4) : Bs × Bs)], A8, c8, q4, e4, by simp, by simp, by simp; omega, ?_, HR7.out.belowB HB8.out hlt, (HFR.out.transJ HF7.out).belowJ HB8.out, HV8.out⟩
              have h1 := HTO.out
              rw [show N - xs.length = (N - (xs.length + 1)) + 1 by omega] at h1
              have h2 := HRES.out
              unfold stP resP at h2
              rw [if_pos rfl] at h2
              by_cases he : e4 = 0
              · rw [if_pos he] at h2
                rw [repP_step xs h2] at h1
                exact .inl ⟨he, by rw [List.length_append]; exact h1⟩
              · rw [if_neg he] at h2
                rw [repP_fail xs h2] at h1
                exact .inr ⟨he, h1.symm⟩
            case measure => simp [RowKit.intOf]; omega
        · have he2 : (e == 0) = false := by simpa using he
          have HE := Lib.hid (show e ≠ 0 ∧ listP l 16 8 (idP l) p = .error (q, e) from HTOT.out.elim (fun h => absurd h.1 he) id)
          clear HTOT he
          go_wp2_with fail
          go_ret
          rw [HE.out.2]
          exact ⟨HFR.out, B, d, xs.length, rfl, HE.out.1, HRD.out⟩
      · have hk2 : ¬ (xs.length : Int) < (N : Int) := by omega
        have HE := Lib.hid (show (e = 0 ∧ listP l 16 8 (idP l) p = .ok (xs, q)) ∨ (e ≠ 0 ∧ listP l 16 8 (idP l) p = .error (q, e)) from HTOT.out.imp (fun h => ⟨h.1, by
          have h1 := h.2
          rw [show N - xs.length = 0 by omega] at h1
          rw [← h1]
          simp [repP, PR.ahead, PR.then]⟩) id)
        clear HTOT
        go_wp2_with fail
        go_ret
        rcases HE.out with ⟨he, hl⟩ | ⟨he, hl⟩
        · rw [hl]
          subst he
          exact ⟨HFR.out, B, d, xs.length, rfl, rfl, HROW.out, HRD.out⟩
        · rw [hl]
          exact ⟨HFR.out, B, d, xs.length, rfl, he, HRD.out⟩
/-- how the document's list is read -/
def RgOutAcl (rb : Nat) (A : Option Addr) (n c : Nat) (l : Bs) (w : World) (x : PR (List (Int × Bs × Bs))) (e : Ending) (w' : World) : Prop :=
  Fr [rb] w w' ∧ ∃ B d m, e = .returned (.slice B m d) ∧ match x with
  | .ok (xs, q) => m = xs.length ∧ w'.ownsRow w.heap.size 246 3 (.slice B xs.length d) xs.length ((xs.map aclV).flatMap encAcl) ∧ Rf w' rb A n c l q 0
  | .error (q, k) => k ≠ 0 ∧ Rf w' rb A n c l q k
def JGAcl (rb : Nat) (A : Option Addr) (n c : Nat) (l : Bs) (w : World) (N : Nat) (tot : PR (List (Int × Bs × Bs))) (v i : Value) (wr : World) : Prop :=
  ∃ (xs : List (Int × Bs × Bs)) (B : Option Addr) (d q : Nat) (e : Int), v = .slice B xs.length d ∧ i = .int .i64 (xs.length : Int) ∧ xs.length ≤ N ∧ ((e = 0 ∧ (repP (aclP l) (N - xs.length) q).ahead xs = tot) ∨ (e ≠ 0 ∧ tot = .error (q, e))) ∧ Rf wr rb A n c l q e ∧ Fr [rb] w wr ∧ wr.ownsRow w.heap.size 246 3 (.slice B xs.length d) xs.length ((xs.map aclV).flatMap encAcl)
end Go.Proofs.YtbpmmmnphpkdjaaGreatDoor
