/- What the session law's reader reads; the document's session read; jute.All. Condition: at most 2^20 bytes. -/
import Derived.Test.YtbpmmmnphpkdjaaGreatDoorSesC
import Derived.Test.YtbpmmmnphpkdjaaGreatDoorJutG
namespace Go.Proofs.YtbpmmmnphpkdjaaGreatDoor
open Go.RowKit Go.MapKept Go.Maps
/-- what the law's reader holds -/
def XSes (xb : Nat) (W : World) (v : SesB) (w' : World) : Prop := ∃ B d, w'.heap[xb]? = some (.cells #[.int .i64 v.1, .int .i32 v.2.1, .slice B v.2.2.length d] 116 (0, 0)) ∧ w'.ownsRow W.heap.size 155 2 (.slice B v.2.2.length d) v.2.2.length ((v.2.2.map idV).flatMap encId)
set_option maxRecDepth 100000 in
theorem xread_any {w : World} {xb rb n c : Nat} {A : Option Addr} {l : Bs} {u1 u2 u3 : Value} (h : Rd w rb A n c l 0) (hT : TabsR rb w) (hx : w.heap[xb]? = some (.cells #[u1, u2, u3] 116 (0, 0))) (hne : xb ≠ rb) :
    Calls Tryz.prog 52 #[.pointer (some ⟨xb, 0, none⟩), .pointer (some ⟨rb, 0, none⟩)] w fun e w' => Fr (rb :: [xb]) w w' ∧ match sesP l 0 with
      | .ok (v, q) => e = .returned (.tuple #[]) ∧ XSes xb w v w' ∧ w'.heap[rb]? = some (.cells #[.slice A n c, .int .i64 (q : Int), .bool false] 180 (0, 0))
      | .error (q, k) => e = .panicked [failV rb k] ∧ (∃ u1 u2 u3, w'.heap[xb]? = some (.cells #[u1, u2, u3] 116 (0, 0))) ∧ w'.heap[rb]? = some (.cells #[.slice A n c, .int .i64 (q : Int), .bool false] 180 (0, 0)) := by
  have hN := rSes_any h hT
  have hlx := (Array.getElem?_eq_some_iff.1 hx).1
  have HX := Lib.hid hx
  have HLt := Lib.hid h.lt
  clear h hT hx
  go_enter Tryz.func52, Tryz.ntmps52
  rcases hX : sesP l 0 with ⟨q, k⟩ | ⟨v, q⟩
  · rw [hX] at hN
    have HN := Lib.hid hN
    clear hN hX
    go_wp2_with fail
    refine HN.out.mono ?_
    rintro e w1 ⟨rfl, hr, hf⟩
    refine ⟨rfl, ?_⟩
    exact ⟨⟨hf.os, hf.tape, hf.output, hf.size, fun g hg hn => hf.block g hg (fun hm => hn (by simp at hm ⊢; exact .inl hm))⟩, rfl, ⟨u1, u2, u3, (hf.block xb hlx (by simpa using hne)).trans HX.out⟩, hr.cell⟩
  · rw [hX] at hN
    have HN := Lib.hid hN
    clear hN hX
    obtain ⟨i, t, v⟩ := v
    go_wp2_with fail
    refine HN.out.mono ?_
    rintro e w1 ⟨⟨u, rfl, B, d, rfl, hrow⟩, hr, hf⟩
    dsimp only at hrow
    have hx1 := (hf.block xb hlx (by simpa using hne)).trans HX.out
    have z0 : w1.frozen? ⟨xb, 0, none⟩ = false := by simp [World.frozen?, hx1]
    have z1 : w1.frozen? ⟨xb, 1, none⟩ = false := by simp [World.frozen?, hx1]
    have z2 : w1.frozen? ⟨xb, 2, none⟩ = false := by simp [World.frozen?, hx1]
    have y0 : w1.cell? ⟨xb, 0, none⟩ = some u1 := by rw [cellH hx1]; rfl
    have y1 : w1.cell? ⟨xb, 1, none⟩ = some u2 := by rw [cellH hx1]; rfl
    have y2 : w1.cell? ⟨xb, 2, none⟩ = some u3 := by rw [cellH hx1]; rfl
    have hx2 := heap_setJ (o := 2) (heap_setJ (o := 1) (heap_setJ (o := 0) hx1 (.int .i64 i)) (.int .i32 t)) (.slice B v.length d)
    have hfs : Fr [xb] w1 (((w1.setCell ⟨xb, 0, none⟩ (.int .i64 i)).setCell ⟨xb, 1, none⟩ (.int .i32 t)).setCell ⟨xb, 2, none⟩ (.slice B v.length d)) := ((fr_setJ w1 _ 0 _).setJ (by simp) 1 _).setJ (by simp) 2 _
    have hff : Fr (rb :: [xb]) w (((w1.setCell ⟨xb, 0, none⟩ (.int .i64 i)).setCell ⟨xb, 1, none⟩ (.int .i32 t)).setCell ⟨xb, 2, none⟩ (.slice B v.length d)) := by
      have h0 : Fr (rb :: [xb]) w w1 := ⟨hf.os, hf.tape, hf.output, hf.size, fun g hg hn => hf.block g hg (fun hm => hn (by simp at hm ⊢; exact .inl hm))⟩
      exact h0.trans hfs (fun g hg => .inl (by simp at hg ⊢; exact .inr hg))
    have hro := own_fr hrow hfs (by intro g hg; rw [List.mem_singleton.1 hg]; exact hlx)
    have hrr := (hfs.block rb (Nat.lt_of_lt_of_le HLt.out hf.size) (by simpa using Ne.symm hne)).trans hr.cell
    have HX2 := Lib.hid hx2; have HFF := Lib.hid hff; have HRO := Lib.hid hro; have HRR := Lib.hid hrr
    clear hr hf hrow hx1 hx2 hfs hff hro hrr
    go_wp2_with fail
    exact ⟨rfl, .tuple #[], by simp [results, Tryz.results52, go_sem], HFF.out, rfl, ⟨B, d, HX2.out, HRO.out⟩, HRR.out⟩
/-- how the document's session is read -/
def RsOut (rb : Nat) (A : Option Addr) (n c : Nat) (l : Bs) (w : World) (x : PR SesB) (e : Ending) (w' : World) : Prop :=
  Fr [rb] w w' ∧ ∃ (i t : Int) (B : Option Addr) (d m : Nat), e = .returned (.agg #[.int .i64 i, .int .i32 t, .slice B m d]) ∧ match x with
  | .ok (v, q) => i = v.1 ∧ t = v.2.1 ∧ m = v.2.2.length ∧ w'.ownsRow w.heap.size 155 2 (.slice B v.2.2.length d) v.2.2.length ((v.2.2.map idV).flatMap encId) ∧ Rf w' rb A n c l q 0
  | .error (q, k) => k ≠ 0 ∧ Rf w' rb A n c l q k
set_option maxRecDepth 100000 in
set_option maxHeartbeats 1000000 in
theorem rfSes_any {w : World} {rb n c : Nat} {A : Option Addr} {l : Bs} (h : Rf w rb A n c l 0 0) :
    Calls Tryz.prog 53 #[.pointer (some ⟨rb, 0, none⟩)] w (RsOut rb A n c l w (sesP l 0)) := by
  have hlt := h.lt
  have hb1 : Below w.heap.size w (w.alloc (.cells #[.int .i64 0, .int .i32 0, .slice none 0 0] 47)) := (Below.refl _ w).alloc (Nat.le_refl _) _
  have hs1 : (w.alloc (.cells #[.int .i64 0, .int .i32 0, .slice none 0 0] 47)).heap.size = w.heap.size + 1 := by simp
  have hg0 := heap_alloc_new w (.cells #[.int .i64 0, .int .i32 0, .slice none 0 0] 47)
  have hb2 : Below w.heap.size w ((w.alloc (.cells #[.int .i64 0, .int .i32 0, .slice none 0 0] 47)).alloc (.cells #[.int .i64 0, .int .i32 0, .slice none 0 0] 47)) := hb1.alloc (by omega) _
  have hb3 : Below (w.alloc (.cells #[.int .i64 0, .int .i32 0, .slice none 0 0] 47)).heap.size (w.alloc (.cells #[.int .i64 0, .int .i32 0, .slice none 0 0] 47)) ((w.alloc (.cells #[.int .i64 0, .int .i32 0, .slice none 0 0] 47)).alloc (.cells #[.int .i64 0, .int .i32 0, .slice none 0 0] 47)) := (Below.refl _ _).alloc (Nat.le_refl _) _
  have hg1 := heap_alloc_new (w.alloc (.cells #[.int .i64 0, .int .i32 0, .slice none 0 0] 47)) (.cells #[.int .i64 0, .int .i32 0, .slice none 0 0] 47)
  rw [hs1] at hg1
  have HGa := Lib.hid ((hb3.block w.heap.size (by omega)).trans hg0)
  have HGb := Lib.hid hg1
  have HR := Lib.hid (h.below hb2)
  have HF := Lib.hid (Fr.of_below (own := [rb]) hb2)
  clear h hb1 hs1 hg0 hb2 hb3 hg1
  go_enter Tryz.func53, Tryz.ntmps53
  go_wp2_with fail
  generalize (w.alloc (.cells #[.int .i64 0, .int .i32 0, .slice none 0 0] 47)).alloc (.cells #[.int .i64 0, .int .i32 0, .slice none 0 0] 47) = W at *
  refine (rfLong_any HR.out).mono ?_
  rintro e w1 ho
  obtain ⟨i, q1, e1, hx, rfl, hr, hf⟩ := ho.gen 0 rfl
  have HX1 := Lib.hid hx
  have ga := (hf.block _ (Array.getElem?_eq_some_iff.1 HGa.out).1 (by simp; omega)).trans HGa.out
  have gb := (hf.block _ (Array.getElem?_eq_some_iff.1 HGb.out).1 (by simp; omega)).trans HGb.out
  have z0 : w1.frozen? ⟨w.heap.size + 1, 0, none⟩ = false := by simp [World.frozen?, gb]
  have y0 : w1.cell? ⟨w.heap.size + 1, 0, none⟩ = some (.int .i64 0) := by rw [cellH gb]; rfl
  have hfs := fr_setJ w1 (w.heap.size + 1) 0 (.int .i64 i)
  have HGa1 := Lib.hid ((heap_otherJ w1 (w.heap.size + 1) 0 (.int .i64 i) (by omega)).trans ga)
  have HGb1 := Lib.hid (heap_setJ (o := 0) gb (.int .i64 i))
  have HR1 := Lib.hid (hr.fr hfs (by simp; omega))
  have HF1 := Lib.hid ((HF.out.transJ hf).trans hfs (by simp))
  clear ho hx hr hf ga gb hfs HGa HGb HR HF
  go_wp2_with fail
  clear z0 y0
  generalize w1.setCell ⟨w.heap.size + 1, 0, none⟩ (.int .i64 i) = v1 at *
  refine (rfInt_any HR1.out).mono ?_
  rintro e w2 ho
  obtain ⟨t, q2, e2, hx, rfl, hr, hf⟩ := ho.gen 0 rfl
  have HX2 := Lib.hid hx
  have ga := (hf.block _ (Array.getElem?_eq_some_iff.1 HGa1.out).1 (by simp; omega)).trans HGa1.out
  have gb := (hf.block _ (Array.getElem?_eq_some_iff.1 HGb1.out).1 (by simp; omega)).trans HGb1.out
  have z0 : w2.frozen? ⟨w.heap.size + 1, 1, none⟩ = false := by simp [World.frozen?, gb]
  have y0 : w2.cell? ⟨w.heap.size + 1, 1, none⟩ = some (.int .i32 0) := by rw [cellH gb]; rfl
  have hfs := fr_setJ w2 (w.heap.size + 1) 1 (.int .i32 t)
  have HGa2 := Lib.hid ((heap_otherJ w2 (w.heap.size + 1) 1 (.int .i32 t) (by omega)).trans ga)
  have HGb2 := Lib.hid (heap_setJ (o := 1) gb (.int .i32 t))
  have HR2 := Lib.hid (hr.fr hfs (by simp; omega))
  have HF2 := Lib.hid ((HF1.out.transJ hf).trans hfs (by simp))
  clear ho hx hr hf ga gb hfs HGa1 HGb1 HR1 HF1
  go_wp2_with fail
  clear z0 y0
  generalize w2.setCell ⟨w.heap.size + 1, 1, none⟩ (.int .i32 t) = v2 at *
  -- the identities
  have hids : Calls Tryz.prog 104 #[.pointer (some ⟨rb, 0, none⟩)] v2 fun e w' => Fr [rb] v2 w' ∧ ∃ B d m, e = .returned (.slice B m d) ∧ match sesP l 0 with
      | .ok (v, q) => i = v.1 ∧ t = v.2.1 ∧ m = v.2.2.length ∧ w'.ownsRow v2.heap.size 155 2 (.slice B v.2.2.length d) v.2.2.length ((v.2.2.map idV).flatMap encId) ∧ Rf w' rb A n c l q 0
      | .error (q, k) => k ≠ 0 ∧ Rf w' rb A n c l q k := by
    have h1 : longP l 0 = resP e1 q1 i := by have := HX1.out; unfold stP at this; rwa [if_pos rfl] at this
    by_cases he : e2 = 0
    · subst he
      have he1 : e1 = 0 := by
        by_cases h : e1 = 0
        · exact h
        · have h2 := HX2.out
          unfold stP resP at h2
          rw [if_neg h, if_pos rfl] at h2
          cases h2
      subst he1
      have h2 : intP l q1 = .ok (t, q2) := by have := HX2.out; unfold stP resP at this; rwa [if_pos rfl, if_pos rfl] at this
      have h1' : longP l 0 = .ok (i, q1) := by rw [h1]; exact if_pos rfl
      have h3 : sesP l 0 = (listP l 16 8 (idP l) q2).then fun v c => .ok ((i, t, v), c) := by
        unfold sesP; rw [h1']; show (intP l q1).then _ = _; rw [h2]; rfl
      refine (rfGetIds_any HR2.out).mono ?_
      rintro e w' ⟨hf, B, d, m, rfl, hm⟩
      refine ⟨hf, B, d, m, rfl, ?_⟩
      rw [h3]
      rcases hL : listP l 16 8 (idP l) q2 with ⟨q, k⟩ | ⟨v, q⟩
      · rw [hL] at hm
        exact hm
      · rw [hL] at hm
        exact ⟨rfl, rfl, hm.1, hm.2.1, hm.2.2⟩
    · have h3 : sesP l 0 = .error (q2, e2) := by
        unfold sesP
        have h2 := HX2.out
        unfold stP resP at h2
        unfold resP at h1
        rw [if_neg he] at h2
        by_cases h : e1 = 0
        · rw [if_pos h] at h1 h2
          rw [h1]; show (intP l q1).then _ = _; rw [h2]; rfl
        · rw [if_neg h] at h1 h2
          injection h2 with h2
          rw [h1, h2]; rfl
      refine (rfGetIds_dead HR2.out he).mono ?_
      rintro e w' ⟨rfl, hr, hf⟩
      refine ⟨hf, none, 0, 0, rfl, ?_⟩
      rw [h3]
      exact ⟨he, hr⟩
  have HIds := Lib.hid hids
  clear hids HX1 HX2
  refine HIds.out.mono ?_
  rintro e w3 ⟨hf, B, d, m, rfl, hm⟩
  have ga := (hf.block _ (Array.getElem?_eq_some_iff.1 HGa2.out).1 (by simp; omega)).trans HGa2.out
  have gb := (hf.block _ (Array.getElem?_eq_some_iff.1 HGb2.out).1 (by simp; omega)).trans HGb2.out
  have z0 : w3.frozen? ⟨w.heap.size + 1, 2, none⟩ = false := by simp [World.frozen?, gb]
  have y0 : w3.cell? ⟨w.heap.size + 1, 0, none⟩ = some (.int .i64 i) := by rw [cellH gb]; rfl
  have y1 : w3.cell? ⟨w.heap.size + 1, 1, none⟩ = some (.int .i32 t) := by rw [cellH gb]; rfl
  have y2 : w3.cell? ⟨w.heap.size + 1, 2, none⟩ = some (.slice none 0 0) := by rw [cellH gb]; rfl
  have x0 : w3.cell? ⟨w.heap.size, 0, none⟩ = some (.int .i64 0) := by rw [cellH ga]; rfl
  have x1 : w3.cell? ⟨w.heap.size, 1, none⟩ = some (.int .i32 0) := by rw [cellH ga]; rfl
  have x2 : w3.cell? ⟨w.heap.size, 2, none⟩ = some (.slice none 0 0) := by rw [cellH ga]; rfl
  have f0 : w3.frozen? ⟨w.heap.size, 0, none⟩ = false := by simp [World.frozen?, ga]
  have f1 : w3.frozen? ⟨w.heap.size, 1, none⟩ = false := by simp [World.frozen?, ga]
  have f2 : w3.frozen? ⟨w.heap.size, 2, none⟩ = false := by simp [World.frozen?, ga]
  have hne : w.heap.size ≠ w.heap.size + 1 := by omega
  have hfa : Fr [w.heap.size, w.heap.size + 1] w3 ((((w3.setCell ⟨w.heap.size + 1, 2, none⟩ (.slice B m d)).setCell ⟨w.heap.size, 0, none⟩ (.int .i64 i)).setCell ⟨w.heap.size, 1, none⟩ (.int .i32 t)).setCell ⟨w.heap.size, 2, none⟩ (.slice B m d)) :=
    ((((Fr.refl [w.heap.size, w.heap.size + 1] w3).setJ (by simp) 2 _).setJ (by simp) 0 _).setJ (by simp) 1 _).setJ (by simp) 2 _
  have ha0 := (heap_otherJ w3 (w.heap.size + 1) 2 (.slice B m d) hne).trans ga
  have hv := heap_setJ (o := 2) (heap_setJ (o := 1) (heap_setJ (o := 0) ha0 (.int .i64 i)) (.int .i32 t)) (.slice B m d)
  have HV := Lib.hid hv
  have hlb : w.heap.size + 1 < v2.heap.size := (Array.getElem?_eq_some_iff.1 HGb2.out).1
  have HRS := Lib.hid (show RsOut rb A n c l w (sesP l 0) (.returned (.agg #[.int .i64 i, .int .i32 t, .slice B m d])) ((((w3.setCell ⟨w.heap.size + 1, 2, none⟩ (.slice B m d)).setCell ⟨w.heap.size, 0, none⟩ (.int .i64 i)).setCell ⟨w.heap.size, 1, none⟩ (.int .i32 t)).setCell ⟨w.heap.size, 2, none⟩ (.slice B m d)) by
    refine ⟨(HF2.out.transJ hf).trans hfa (by simp), i, t, B, d, m, rfl, ?_⟩
    generalize sesP l 0 = y at hm ⊢
    rcases y with ⟨q, k⟩ | ⟨v, q⟩
    · exact ⟨hm.1, hm.2.fr hfa (by simp; omega)⟩
    · have h9 := own_fr hm.2.2.2.1 hfa (by simp; omega)
      exact ⟨hm.1, hm.2.1, hm.2.2.1, ⟨h9.1, h9.2.imp (fun x => x) fun ⟨g, cap, cur, a, b, r⟩ => ⟨g, cap, cur, a, by omega, r⟩⟩, hm.2.2.2.2.fr hfa (by simp; omega)⟩)
  clear hf hm ga gb hfa ha0 hv
  go_wp2_with fail
  generalize (((w3.setCell ⟨w.heap.size + 1, 2, none⟩ (.slice B m d)).setCell ⟨w.heap.size, 0, none⟩ (.int .i64 i)).setCell ⟨w.heap.size, 1, none⟩ (.int .i32 t)).setCell ⟨w.heap.size, 2, none⟩ (.slice B m d) = V at *
  have r0 : V.cell? ⟨w.heap.size, 0, none⟩ = some (.int .i64 i) := by rw [cellH HV.out]; rfl
  have r1 : V.cell? ⟨w.heap.size, 1, none⟩ = some (.int .i32 t) := by rw [cellH HV.out]; rfl
  have r2 : V.cell? ⟨w.heap.size, 2, none⟩ = some (.slice B m d) := by rw [cellH HV.out]; rfl
  refine bodyPost_ret (v := .agg #[.int .i64 i, .int .i32 t, .slice B m d]) (by simp [results, Tryz.results53, go_sem, r0, r1, r2, Tryz.sizeOf47, Tryz.isAgg47]) rfl ?_
  exact HRS.out
/-- a session that the law's reader has read -/
def XSesS (xb : Nat) (v : SesB) (w' : World) : Prop := ∃ B d, w'.heap[xb]? = some (.cells #[.int .i64 v.1, .int .i32 v.2.1, .slice B v.2.2.length d] 116 (0, 0)) ∧ Sl w' w'.heap.size encId 2 B v.2.2.length (v.2.2.map idV)
theorem TabsR.of8 {w W : World} {rb : Nat} (hT : Lib.Utf8Tabs 0 1 w) (hb : Below w.heap.size w W) (hle : w.heap.size ≤ rb) : TabsR rb W :=
  ⟨Utf8Tabs_below hT hb, Nat.lt_of_lt_of_le (World.block_lt_of_cell? w _ (hT.1 0 (by decide))) hle, Nat.lt_of_lt_of_le (World.block_lt_of_cell? w _ (hT.2 0 (by decide)).1) hle⟩
/-- how a reading of a session ends -/
def Rd8Out (xb : Nat) (l : Bs) (w : World) (e : Ending) (w' : World) : Prop := ∃ (q : Nat) (k : Int), e = .returned (.tuple #[.int .i64 (q : Int), .int .i64 k]) ∧ Fr [xb] w w' ∧
  ((k = 0 ∧ ∃ v, sesP l 0 = .ok (v, q) ∧ XSesS xb v w') ∨ (k ≠ 0 ∧ sesP l 0 = .error (q, k))) ∧ (∃ u1 u2 u3, w'.heap[xb]? = some (.cells #[u1, u2, u3] 116 (0, 0)))
set_option maxRecDepth 100000 in
theorem read8_any {w : World} {xb n c : Nat} {A : Option Addr} {l : Bs} (hB : ArgB w A n c l) (hT : Lib.Utf8Tabs 0 1 w) (hx : ∃ u1 u2 u3, w.heap[xb]? = some (.cells #[u1, u2, u3] 116 (0, 0))) (hxl : xb < w.heap.size) :
    Calls Tryz.prog 51 #[.slice A n c, .func (.func 52) #[.pointer (some ⟨xb, 0, none⟩)] #[]] w (Rd8Out xb l w) := by
  have hin : (sesP l 0).within l := sesP_in (Nat.zero_le _)
  refine (read_any (sesP l 0) (fun W v w' => XSes xb W v w') (fun _ w' => ∃ u1 u2 u3, w'.heap[xb]? = some (.cells #[u1, u2, u3] 116 (0, 0))) [xb] 52 #[.pointer (some ⟨xb, 0, none⟩)] #[]
    hB.1 hB.2.2.1 hB.2.2.2 hB.2.1 (enters_of Tryz.func52 (by kernel_rfl) rfl) (fun g hg => by rw [List.mem_singleton.1 hg]; exact hxl) ?_ ?_ ?_).mono ?_
  · rintro W v w1 w2 own ⟨B, d, h1, h2⟩ hf ho
    exact ⟨B, d, (hf.block xb (Array.getElem?_eq_some_iff.1 h1).1 (fun hm => by have := ho xb hm; omega)).trans h1, own_fr h2 hf fun g hg => (ho g hg).2⟩
  · rintro W w1 w2 own ⟨u1, u2, u3, h1⟩ hf ho
    exact ⟨u1, u2, u3, (hf.block xb (Array.getElem?_eq_some_iff.1 h1).1 (fun hm => by have := ho xb hm; omega)).trans h1⟩
  · intro W rb hbW hle hrd
    obtain ⟨u1, u2, u3, hx⟩ := hx
    have h1 := xread_any hrd (TabsR.of8 hT hbW hle) ((hbW.block xb hxl).trans hx) (by omega)
    refine (show Calls Tryz.prog 52 ((#[.pointer (some ⟨xb, 0, none⟩)] : Array Value).push (.pointer (some ⟨rb, 0, none⟩)) ++ #[]) W _ from h1).mono ?_
    rintro e w' ⟨hf, hm⟩
    refine ⟨hf, ?_⟩
    generalize sesP l 0 = y at hm ⊢
    rcases y with ⟨q, k⟩ | ⟨v, q⟩
    · exact hm
    · exact hm
  · intro e w' h
    obtain ⟨hf, W, hbW, h⟩ := h
    rcases hx : sesP l 0 with ⟨q, k⟩ | ⟨v, q⟩
    · rw [hx] at h hin
      exact ⟨q, k, h.1, hf, .inr ⟨hin.2, hx⟩, h.2⟩
    · rw [hx] at h
      obtain ⟨he, B, d, h1, h2⟩ := h
      exact ⟨q, 0, he, hf, .inl ⟨rfl, v, hx, B, d, h1, Sl.of_own (enc := encId) (k := 2) (zs := v.2.2.map idV) (fun _ => rfl) h2 (by simp)⟩, _, _, _, h1⟩
end Go.Proofs.YtbpmmmnphpkdjaaGreatDoor
