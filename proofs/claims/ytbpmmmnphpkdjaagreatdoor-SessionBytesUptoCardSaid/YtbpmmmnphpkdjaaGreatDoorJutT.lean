/- The walks of a Reader's Text and Count, of identities, entries and lists of them. Condition: at most 2^20 bytes; the tables of unicode/utf8 hold what their initialisers lay. -/
import Derived.Test.YtbpmmmnphpkdjaaGreatDoorJutD
import Derived.Lib.BufferRead
import Derived.Test.YtbpmmmnphpkdjaaGreatDoorVal
import Derived.Test.YtbpmmmnphpkdjaaGreatDoorAclB
namespace Go.Proofs.YtbpmmmnphpkdjaaGreatDoor
open Go.RowKit Go.MapKept Go.Maps
def toBA (b : Bs) : ByteArray := ⟨b.toArray⟩
/-- the tables, apart from the Reader -/
structure TabsR (rb : Nat) (w : World) : Prop where
  tabs : Lib.Utf8Tabs 0 1 w
  n1 : 0 < rb
  n2 : 1 < rb
theorem TabsR.fr {rb : Nat} {w w' : World} (h : TabsR rb w) (hf : Fr [rb] w w') : TabsR rb w' := by
  obtain ⟨t, n1, n2⟩ := h
  have hk : ∀ (p : Addr) v, p.block < rb → w.cell? p = some v → w'.cell? p = some v := fun p v hp hv => by
    rw [← hv]; exact hf.cellJ (World.block_lt_of_cell? w _ hv) (by simp; omega)
  exact ⟨⟨fun c hc => hk _ _ n1 (t.1 c hc), fun i hi => ⟨hk _ _ n2 (t.2 i hi).1, hk _ _ n2 (t.2 i hi).2⟩⟩, n1, n2⟩
theorem Fr.belowJ {own : List Nat} {w w1 w2 : World} (h : Fr own w w1) (hb : Below w.heap.size w1 w2) : Fr own w w2 :=
  ⟨hb.os.trans h.os, hb.tape.trans h.tape, hb.output.trans h.output, Nat.le_trans h.size hb.size, fun g hg hn => (hb.block g hg).trans (h.block g hg hn)⟩
theorem Rd.belowB {w w' : World} {rb n c p B : Nat} {A : Option Addr} {l : Bs} (h : Rd w rb A n c l p) (hb : Below B w w') (hB : rb < B) : Rd w' rb A n c l p :=
  ⟨(hb.block rb hB).trans h.cell, h.sl.below ⟨hb.os, hb.tape, hb.output, hb.size, fun g hg => hb.block g (by omega)⟩, h.at_, h.small, h.cap, h.nil⟩
theorem conv_sl {w : World} {B n c : Nat} {A : Option Addr} {l : Bs} (h : Sl w B enc8 1 A n l) :
    (convert 41 9 (.slice A n c)).run Tryz.prog w = .ok (.string (toBA l)) w := by
  have hl := h.len
  rcases Nat.eq_zero_or_pos n with h0 | h0
  · subst h0
    have := List.eq_nil_of_length_eq_zero hl
    subst this
    cases A with
    | none => exact Lib.run_convert_nil_bytes w 41 9 5 c Tryz.underlying41 Tryz.underlying5 Tryz.underlying9
    | some a => exact run_convert_bytes_back w 41 9 5 a c [] Tryz.underlying41 Tryz.underlying5 Tryz.underlying9 (fun j hj => absurd hj (by simp))
  · obtain ⟨b, off, rfl, _, hc⟩ := h.2 h0
    subst hl
    refine run_convert_bytes_back w 41 9 5 ⟨b, off, none⟩ c l Tryz.underlying41 Tryz.underlying5 Tryz.underlying9 ?_
    intro j hj
    have := hc j hj 0 _ rfl
    rw [getElem!_pos l j hj] at this
    have e2 : (⟨b, off, none⟩ : Addr).add j = ⟨b, off + j, none⟩ := by
      simp only [Addr.add]; by_cases h0 : j = 0 <;> simp [h0]
    rw [e2]
    simpa using this
set_option maxRecDepth 100000 in
theorem rText_any {w : World} {rb n c p : Nat} {A : Option Addr} {l : Bs} (mi : Int) (m : Nat) (hmi : mi = (m : Int)) (h : Rd w rb A n c l p) (hm : m ≤ 1048576) (hT : TabsR rb w) :
    Calls Tryz.prog 204 #[.pointer (some ⟨rb, 0, none⟩), .int .i64 mi] w (RdOut rb A n c l w (textP l m p) (fun b u _ => u = .string (toBA b))) := by
  subst hmi
  have hN := rBytes_any _ m rfl h hm
  have HD := Lib.hid (done_any h)
  have HT := Lib.hid hT
  clear h hT
  rcases hT : bytesP l m p with ⟨q, k⟩ | ⟨b, q⟩
  · have HG := Lib.hid (show textP l m p = .error (q, k) by unfold textP; rw [hT]; rfl)
    rw [hT] at hN
    have HN := Lib.hid hN
    clear hN hT
    go_enter Tryz.func204, Tryz.ntmps204
    go_wp2_with fail
    refine HD.out.mono ?_
    rintro e w1 ⟨rfl, rfl⟩
    go_wp2_with fail
    refine HN.out.mono ?_
    rintro e w2 ⟨rfl, hr, hf⟩
    refine ⟨rfl, ?_⟩
    rw [HG.out]
    exact ⟨rfl, hr, hf⟩
  · obtain ⟨rfl, hbm⟩ := bytesP_ok hT
    rw [hT] at hN
    have HN := Lib.hid hN
    by_cases hv : Lib.validD b = true
    · have HG := Lib.hid (show textP l m p = .ok (b, p + 4 + b.length) by unfold textP; rw [hT]; exact if_pos hv)
      clear hN hT
      go_enter Tryz.func204, Tryz.ntmps204
      go_wp2_with fail
      refine HD.out.mono ?_
      rintro e w1 ⟨rfl, rfl⟩
      go_wp2_with fail
      refine HN.out.mono ?_
      rintro e w2 ⟨⟨u, rfl, A2, c2, rfl, hs, hn, hc2⟩, hr, hf⟩
      have hV := valid8_any w2 hs (Nat.le_of_lt hr.lt) hc2 (by omega) (HT.out.fr hf).tabs
      rw [hv] at hV
      have HV := Lib.hid hV; have HR := Lib.hid hr; have HF := Lib.hid hf; have HS := Lib.hid hs
      clear hV hr hf hs hn
      go_wp2_with fail
      refine HV.out.mono ?_
      rintro e w3 ⟨rfl, hb⟩
      have HR3 := Lib.hid (HR.out.below hb)
      have HF3 := Lib.hid (HF.out.transJ (Fr.of_below hb))
      have hcv := conv_sl (c := c2) ((HS.out.more (Nat.le_of_lt HR.out.lt)).below hb)
      clear hb
      go_wp2_with fail
      go_ret
      rw [HG.out]
      exact ⟨⟨_, rfl, rfl⟩, HR3.out, HF3.out⟩
    · have HG := Lib.hid (show textP l m p = .error (p, 22) by unfold textP; rw [hT]; exact if_neg hv)
      have hv2 : Lib.validD b = false := by simpa using hv
      clear hN hT hv
      go_enter Tryz.func204, Tryz.ntmps204
      go_wp2_with fail
      refine HD.out.mono ?_
      rintro e w1 ⟨rfl, rfl⟩
      go_wp2_with fail
      refine HN.out.mono ?_
      rintro e w2 ⟨⟨u, rfl, A2, c2, rfl, hs, hn, hc2⟩, hr, hf⟩
      have hV := valid8_any w2 hs (Nat.le_of_lt hr.lt) hc2 (by omega) (HT.out.fr hf).tabs
      rw [hv2] at hV
      have HV := Lib.hid hV; have HR := Lib.hid hr; have HF := Lib.hid hf
      have hw : IntKind.i64.wrap (4 + (b.length : Int)) = ((4 + b.length : Nat) : Int) := by rw [IntWalk.i64_in _ (by omega)]; omega
      clear hV hr hf hs hn
      go_wp2_with fail
      refine HV.out.mono ?_
      rintro e w3 ⟨rfl, hb⟩
      have HR3 := Lib.hid (HR.out.below hb)
      have HF3 := Lib.hid (HF.out.transJ (Fr.of_below hb))
      clear hb
      go_wp2_with fail
      refine (back_any _ (4 + b.length) (by omega) 22 HR3.out (by omega) (by decide)).mono ?_
      rintro e w4 ⟨rfl, hr2, hf2⟩
      refine ⟨rfl, ?_⟩
      rw [HG.out]
      rw [show p + 4 + b.length - (4 + b.length) = p by omega] at hr2
      exact ⟨rfl, hr2, HF3.out.transJ hf2⟩
theorem left_nat {w : World} {rb n c p : Nat} {A : Option Addr} {l : Bs} (h : Rd w rb A n c l p) :
    Calls Tryz.prog 201 #[.pointer (some ⟨rb, 0, none⟩)] w fun e w' => e = .returned (.int .i64 ((n - p : Nat) : Int)) ∧ ∃ q, w' = w.drewN q := by
  have ha := h.at_
  rw [show ((n - p : Nat) : Int) = (n : Int) - (p : Int) by omega]
  exact left_any h
theorem countP_ok {l : Bs} {m k p q v : Nat} (h : countP l m k p = .ok (v, q)) : q = p + 4 ∧ v ≤ m := by
  unfold countP at h
  rcases hT : sizeP l m p with e | ⟨z, q'⟩
  · rw [hT] at h; cases h
  · rw [hT] at h
    have h1 := sizeP_ok hT
    have h4 : (if 1 ≤ k ∧ (l.length - q') / k < z then (.error (p, 20) : PR Nat) else .ok (z, q')) = .ok (v, q) := h
    by_cases hc : 1 ≤ k ∧ (l.length - q') / k < z
    · rw [if_pos hc] at h4; cases h4
    · rw [if_neg hc] at h4
      injection h4 with h4
      injection h4 with h4 h5
      subst h4; subst h5
      exact h1
set_option maxRecDepth 100000 in
theorem rCount_any {w : World} {rb n c p : Nat} {A : Option Addr} {l : Bs} (mi : Int) (m : Nat) (hmi : mi = (m : Int)) (ki : Int) (k : Nat) (hki : ki = (k : Int)) (hk : 1 ≤ k) (hk2 : k ≤ 1048576) (h : Rd w rb A n c l p) :
    Calls Tryz.prog 203 #[.pointer (some ⟨rb, 0, none⟩), .int .i64 mi, .int .i64 ki] w (RdOut rb A n c l w (countP l m k p) (fun v u _ => u = .int .i64 (v : Int))) := by
  subst hmi; subst hki
  have hN := rSize_any _ m rfl h
  have HD := Lib.hid (done_any h)
  have HLen := Lib.hid h.len
  have hn := h.small
  clear h
  rcases hT : sizeP l m p with ⟨q, e0⟩ | ⟨z, q⟩
  · have HG := Lib.hid (show countP l m k p = .error (q, e0) by unfold countP; rw [hT]; rfl)
    rw [hT] at hN
    have HN := Lib.hid hN
    clear hN hT
    go_enter Tryz.func203, Tryz.ntmps203
    go_wp2_with fail
    refine HD.out.mono ?_
    rintro e w1 ⟨rfl, rfl⟩
    go_wp2_with fail
    refine HN.out.mono ?_
    rintro e w2 ⟨rfl, hr, hf⟩
    refine ⟨rfl, ?_⟩
    rw [HG.out]
    exact ⟨rfl, hr, hf⟩
  · obtain ⟨rfl, z1⟩ := sizeP_ok hT
    rw [hT] at hN
    have HN := Lib.hid hN
    have hk1 : ((k : Nat) : Int) ≥ 1 := by omega
    have hk0 : ¬ ((k : Nat) : Int) = 0 := by omega
    obtain ⟨D, hD⟩ : ∃ D, n - (p + 4) = D := ⟨_, rfl⟩
    have hq : wrap64 ((D : Int) / (k : Int)) = ((D / k : Nat) : Int) := by
      rw [← Int.natCast_ediv]
      have := Nat.div_le_self D k
      unfold wrap64
      generalize D / k = X at *
      omega
    have HDn := Lib.hid hD
    clear hD
    by_cases hc : D / k < z
    · have HG := Lib.hid (show countP l m k p = .error (p, 20) by unfold countP; rw [hT]; exact if_pos ⟨hk, by rw [HLen.out, HDn.out]; exact hc⟩)
      have h1 : ((D / k : Nat) : Int) < (z : Int) := by omega
      clear hN hT hc
      generalize D / k = Q at *
      go_enter Tryz.func203, Tryz.ntmps203
      go_wp2_with fail
      refine HD.out.mono ?_
      rintro e w1 ⟨rfl, rfl⟩
      go_wp2_with fail
      refine HN.out.mono ?_
      rintro e w2 ⟨⟨u, rfl, rfl⟩, hr, hf⟩
      have HR := Lib.hid hr; have HF := Lib.hid hf
      have hL := left_nat hr
      rw [HDn.out] at hL
      have HL := Lib.hid hL
      clear hr hf hL
      go_wp2_with fail
      refine HL.out.mono ?_
      rintro e w3 ⟨rfl, q3, rfl⟩
      go_wp2_with fail
      refine (back_any 4 4 rfl 20 (HR.out.drewN q3) (by omega) (by decide)).mono ?_
      rintro e w4 ⟨rfl, hr2, hf2⟩
      refine ⟨rfl, ?_⟩
      rw [HG.out]
      exact ⟨rfl, hr2, (HF.out.transJ (Fr.drewJ _ q3)).transJ hf2⟩
    · have HG := Lib.hid (show countP l m k p = .ok (z, p + 4) by unfold countP; rw [hT]; exact if_neg fun h => hc (by rw [HLen.out, HDn.out] at h; exact h.2))
      have h1 : ¬ ((D / k : Nat) : Int) < (z : Int) := by omega
      clear hN hT hc
      generalize D / k = Q at *
      go_enter Tryz.func203, Tryz.ntmps203
      go_wp2_with fail
      refine HD.out.mono ?_
      rintro e w1 ⟨rfl, rfl⟩
      go_wp2_with fail
      refine HN.out.mono ?_
      rintro e w2 ⟨⟨u, rfl, rfl⟩, hr, hf⟩
      have HR := Lib.hid hr; have HF := Lib.hid hf
      have hL := left_nat hr
      rw [HDn.out] at hL
      have HL := Lib.hid hL
      clear hr hf hL
      go_wp2_with fail
      refine HL.out.mono ?_
      rintro e w3 ⟨rfl, q3, rfl⟩
      go_wp2_with fail
      go_ret
      rw [HG.out]
      exact ⟨⟨_, rfl, rfl⟩, HR.out.drewN q3, HF.out.transJ (Fr.drewJ _ q3)⟩
def idV (v : Bs × Bs) : IdV := (toBA v.1, toBA v.2)
set_option maxRecDepth 100000 in
theorem getId_any {w : World} {rb n c p : Nat} {A : Option Addr} {l : Bs} (h : Rd w rb A n c l p) (hT : TabsR rb w) :
    Calls Tryz.prog 166 #[.pointer (some ⟨rb, 0, none⟩)] w (RdOut rb A n c l w (idP l p) (fun v u _ => u = .agg #[.string (idV v).1, .string (idV v).2])) := by
  have hlt := h.lt
  have hb1 : Below w.heap.size w (w.alloc (.cells #[.string ⟨#[]⟩, .string ⟨#[]⟩] 155)) := (Below.refl _ w).alloc (Nat.le_refl _) _
  have HR := Lib.hid (h.below hb1)
  have HF := Lib.hid (Fr.of_below (own := [rb]) hb1)
  have HT := Lib.hid (hT.fr (Fr.of_below hb1))
  have HG0 := Lib.hid (heap_alloc_new w (.cells #[.string ⟨#[]⟩, .string ⟨#[]⟩] 155))
  have HS := Lib.hid hb1.size
  have hne : rb ≠ w.heap.size := by omega
  clear h hT hb1
  go_enter Tryz.func166, Tryz.ntmps166
  go_wp2_with fail
  generalize w.alloc (.cells #[.string ⟨#[]⟩, .string ⟨#[]⟩] 155) = W at *
  have hN := rText_any 256 256 rfl HR.out (by decide) HT.out
  rcases hX : textP l 256 p with ⟨q, k⟩ | ⟨b, q⟩
  · have HG := Lib.hid (show idP l p = .error (q, k) by unfold idP; rw [hX]; rfl)
    rw [hX] at hN
    refine hN.mono ?_
    rintro e w2 ⟨rfl, hr, hf⟩
    refine ⟨rfl, ?_⟩
    rw [HG.out]
    exact ⟨rfl, hr, HF.out.transJ hf⟩
  · rw [hX] at hN
    refine hN.mono ?_
    rintro e w2 ⟨⟨u, rfl, rfl⟩, hr, hf⟩
    have HR2 := Lib.hid hr; have HF2 := Lib.hid (HF.out.transJ hf); have HT2 := Lib.hid (HT.out.fr hf)
    have HG2 := Lib.hid ((hf.block _ (Array.getElem?_eq_some_iff.1 HG0.out).1 (by simp; omega)).trans HG0.out)
    clear hr hf hN
    go_wp2_with fail
    have hN := rText_any 256 256 rfl HR2.out (by decide) HT2.out
    rcases hY : textP l 256 q with ⟨q2, k⟩ | ⟨b2, q2⟩
    · have HG := Lib.hid (show idP l p = .error (q2, k) by unfold idP; rw [hX]; show (textP l 256 q).then _ = _; rw [hY]; rfl)
      rw [hY] at hN
      refine hN.mono ?_
      rintro e w3 ⟨rfl, hr, hf⟩
      refine ⟨rfl, ?_⟩
      rw [HG.out]
      exact ⟨rfl, hr, HF2.out.transJ hf⟩
    · have HG := Lib.hid (show idP l p = .ok ((b, b2), q2) by unfold idP; rw [hX]; show (textP l 256 q).then _ = _; rw [hY]; rfl)
      rw [hY] at hN
      refine hN.mono ?_
      rintro e w3 ⟨⟨u, rfl, rfl⟩, hr, hf⟩
      have hg3 := (hf.block _ (Array.getElem?_eq_some_iff.1 HG2.out).1 (by simp; omega)).trans HG2.out
      have z0 : w3.frozen? ⟨w.heap.size, 0, none⟩ = false := by simp [World.frozen?, hg3]
      have z1 : w3.frozen? ⟨w.heap.size, 1, none⟩ = false := by simp [World.frozen?, hg3]
      have y0 : w3.cell? ⟨w.heap.size, 0, none⟩ = some (.string ⟨#[]⟩) := by rw [cellH hg3]; rfl
      have y1 : w3.cell? ⟨w.heap.size, 1, none⟩ = some (.string ⟨#[]⟩) := by rw [cellH hg3]; rfl
      have hf4 : Fr [w.heap.size] w3 ((w3.setCell ⟨w.heap.size, 0, none⟩ (.string (toBA b))).setCell ⟨w.heap.size, 1, none⟩ (.string (toBA b2))) := (fr_setJ w3 _ 0 _).setJ (by simp) 1 _
      have HR4 := Lib.hid (hr.fr hf4 (by simp; omega))
      have HF4 := Lib.hid ((HF2.out.transJ hf).trans hf4 (by simp))
      have hv1 := heap_setJ (o := 0) hg3 (.string (toBA b))
      have hv2 := heap_setJ (o := 1) hv1 (.string (toBA b2))
      have HV := Lib.hid hv2
      clear hr hf hN hf4 hv1 hv2
      go_wp2_with fail
      generalize (w3.setCell ⟨w.heap.size, 0, none⟩ (.string (toBA b))).setCell ⟨w.heap.size, 1, none⟩ (.string (toBA b2)) = V at *
      have v0 : V.cell? ⟨w.heap.size, 0, none⟩ = some (.string (toBA b)) := by rw [cellH HV.out]; rfl
      have v1 : V.cell? ⟨w.heap.size, 1, none⟩ = some (.string (toBA b2)) := by rw [cellH HV.out]; rfl
      refine bodyPost_ret (v := .agg #[.string (toBA b), .string (toBA b2)]) (by simp [results, Tryz.results166, go_sem, v0, v1, Tryz.sizeOf155, Tryz.isAgg155]) rfl ?_
      rw [HG.out]
      exact ⟨⟨_, rfl, rfl⟩, HR4.out, HF4.out⟩
/-- an entry -/
def aclP (l : Bs) (p : Nat) : PR (Int × Bs × Bs) := (intP l p).then fun k a => (idP l a).then fun i b => .ok ((k, i), b)
def aclV (v : Int × Bs × Bs) : AclV := (v.1, idV v.2)
/-- a list, some of it read -/
def JRId (rb : Nat) (A : Option Addr) (n c : Nat) (l : Bs) (w : World) (N : Nat) (tot : PR (List (Bs × Bs))) (v i : Value) (wr : World) : Prop :=
  ∃ (xs : List (Bs × Bs)) (B : Option Addr) (d q : Nat), v = .slice B xs.length d ∧ i = .int .i64 (xs.length : Int) ∧ xs.length ≤ N ∧ (repP (idP l) (N - xs.length) q).ahead xs = tot ∧ Rd wr rb A n c l q ∧ Fr [rb] w wr ∧ wr.ownsRow w.heap.size 155 2 (.slice B xs.length d) xs.length ((xs.map idV).flatMap encId)
/-- what a list's reading hands back -/
def LsOutId (base : Nat) (xs : List (Bs × Bs)) (u : Value) (w' : World) : Prop := ∃ B d, u = .slice B xs.length d ∧ w'.ownsRow base 155 2 (.slice B xs.length d) xs.length ((xs.map idV).flatMap encId)
theorem elemIdJ : Elem encId 45 155 2 32 (.agg #[.string ⟨#[]⟩, .string ⟨#[]⟩]) where
  under := Tryz.underlying45
  info := by kernel_rfl
  size := rfl
  len := fun _ => rfl
  pos := by decide
  one := fun x u hu => by
    simp [encId] at hu
    rcases hu with rfl | rfl <;> rfl
  small := by decide
set_option maxRecDepth 100000 in
theorem getIds_any {w : World} {rb n c p : Nat} {A : Option Addr} {l : Bs} (h : Rd w rb A n c l p) (hT : TabsR rb w) :
    Calls Tryz.prog 165 #[.pointer (some ⟨rb, 0, none⟩), .int .i64 16, .int .i64 8, .func (.func 166) #[] #[]] w (RdOut rb A n c l w (listP l 16 8 (idP l) p) (fun v u w' => LsOutId w.heap.size v u w')) := by
  have hlt := h.lt
  have hb1 : Below w.heap.size w (w.alloc (.cells #[] 155)) := (Below.refl _ w).alloc (Nat.le_refl _) _
  have HR := Lib.hid (h.below hb1)
  have HF := Lib.hid (Fr.of_below (own := [rb]) hb1)
  have HT := Lib.hid hT
  have HO := Lib.hid (own_empty (T := 155) (k := 2) w)
  have hq : ∀ w : World, (binOp .neq 241 (.func (.func 166) #[] #[]) .nilFunc).run Tryz.prog w = .ok (.bool true) w := fun w => by kernel_rfl
  have hEn : ∀ (args : Array Value) (w : World), (callFunc 166 args).run Tryz.prog w = .ok (.enter 166 args) w := enters_of Tryz.func166 (by kernel_rfl) rfl
  have hmk : ∀ w : World, (Instr.makeSlice 45 (.int .i64 0) (.int .i64 0)).run Tryz.prog w = .ok (.slice (some ⟨w.heap.size, 0, none⟩) 0 0) (w.alloc (.cells #[] 155)) := fun w => by
    obtain ⟨i, hi, hz, hsz, hb⟩ := info_partsI elemIdJ.info
    have := run_make (P := Tryz.prog) w 45 155 i _ elemIdJ.under hi hz .i64 .i64 0 0 (Int.le_refl _) (Int.le_refl _) (by omega) (by omega)
    simpa [madeCells, Array.range_zero'] using this
  clear h hT hb1
  go_enter Tryz.func165, Tryz.ntmps165
  go_wp2_with fail
  generalize w.alloc (.cells #[] 155) = W at *
  have hN := rCount_any 16 16 rfl 8 8 rfl (by decide) (by decide) HR.out
  rcases hX : countP l 16 8 p with ⟨q, k⟩ | ⟨N, q⟩
  · have HG := Lib.hid (show listP l 16 8 (idP l) p = .error (q, k) by unfold listP; rw [hX]; rfl)
    rw [hX] at hN
    refine hN.mono ?_
    rintro e w2 ⟨rfl, hr, hf⟩
    refine ⟨rfl, ?_⟩
    rw [HG.out]
    exact ⟨rfl, hr, HF.out.transJ hf⟩
  · obtain ⟨rfl, hN16⟩ := countP_ok hX
    have HG := Lib.hid (show listP l 16 8 (idP l) p = repP (idP l) N (p + 4) by unfold listP; rw [hX]; rfl)
    rw [hX] at hN
    refine hN.mono ?_
    rintro e w2 ⟨⟨u, rfl, rfl⟩, hr, hf⟩
    have HR2 := Lib.hid hr; have HF2 := Lib.hid (HF.out.transJ hf)
    have HO2 := Lib.hid (own_fr HO.out hf (by simp; omega))
    clear hr hf hN hX
    go_wp2_with fail
    go_loopw [9, 16] (fun v i wr => JRId rb A n c l w N (listP l 16 8 (idP l) p) v i wr) (fun _ i _ => N - (RowKit.intOf i).toNat)
    case atStart => exact ⟨[], _, 0, p + 4, rfl, rfl, Nat.zero_le _, by rw [ahead_nil, HG.out]; rfl, HR2.out, HF2.out, HO2.out⟩
    case round =>
      obtain ⟨xs, B, d, q, rfl, rfl, hxn, htot, hrd, hfr, hrow⟩ := hrel
      have HT3 := Lib.hid (HT.out.fr hfr)
      have HTOT := Lib.hid htot; have HRD := Lib.hid hrd; have HFR := Lib.hid hfr; have HROW := Lib.hid hrow
      clear htot hrd hfr hrow
      by_cases hk : xs.length < N
      · have hk2 : (xs.length : Int) < (N : Int) := by omega
        have hb1 : Below wr.heap.size wr (wr.alloc (.cells #[.string ⟨#[]⟩, .string ⟨#[]⟩] 155)) := (Below.refl _ wr).alloc (Nat.le_refl _) _
        have HR4 := Lib.hid (HRD.out.below hb1)
        have HF4 := Lib.hid (Fr.of_below (own := [rb]) hb1)
        have HT4 := Lib.hid (HT3.out.fr (Fr.of_below hb1))
        have HG4 := Lib.hid (heap_alloc_new wr (.cells #[.string ⟨#[]⟩, .string ⟨#[]⟩] 155))
        have hws := HFR.out.size
        clear hb1
        go_wp2_with fail
        generalize wr.alloc (.cells #[.string ⟨#[]⟩, .string ⟨#[]⟩] 155) = W4 at *
        have hN := getId_any HR4.out HT4.out
        rcases hY : idP l q with e0 | ⟨x, q5⟩
        · obtain ⟨q5, k5⟩ := e0
          have HE := Lib.hid (show listP l 16 8 (idP l) p = .error (q5, k5) by
            have h1 := HTOT.out
            rw [show N - xs.length = (N - xs.length - 1) + 1 by omega, repP_fail xs hY] at h1
            exact h1.symm)
          rw [hY] at hN
          with_reducible refine hN.mono ?_
          rintro e w5 ⟨rfl, hr, hf⟩
          refine ⟨rfl, ?_⟩
          rw [HE.out]
          exact ⟨rfl, hr, HFR.out.transJ (HF4.out.transJ hf)⟩
        · have HE := Lib.hid (show (repP (idP l) (N - (xs.length + 1)) q5).ahead (xs ++ [x]) = listP l 16 8 (idP l) p by
            have h1 := HTOT.out
            rw [show N - xs.length = (N - (xs.length + 1)) + 1 by omega, repP_step xs hY] at h1
            exact h1)
          rw [hY] at hN
          with_reducible refine hN.mono ?_
          rintro e w5 ⟨⟨u, rfl, rfl⟩, hr, hf⟩
          obtain ⟨V, HVV⟩ : ∃ V, Hid (idV x = V) := ⟨_, Lib.hid rfl⟩
          rw [HVV.out]
          obtain ⟨i1, i2⟩ := V
          dsimp only
          have hg5 := (hf.block _ (Array.getElem?_eq_some_iff.1 HG4.out).1 (by simp; omega)).trans HG4.out
          have z0 : w5.frozen? ⟨wr.heap.size, 0, none⟩ = false := by simp [World.frozen?, hg5]
          have y0 : w5.cell? ⟨wr.heap.size, 0, none⟩ = some (.string ⟨#[]⟩) := by rw [cellH hg5]; rfl
          have z1 : w5.frozen? ⟨wr.heap.size, 1, none⟩ = false := by simp [World.frozen?, hg5]
          have y1 : w5.cell? ⟨wr.heap.size, 1, none⟩ = some (.string ⟨#[]⟩) := by rw [cellH hg5]; rfl
          have hv0 := heap_setJ (o := 0) hg5 (.string i1)
          have hv1 := heap_setJ (o := 1) hv0 (.string i2)
          have hfw : Fr [wr.heap.size] w5 ((w5.setCell ⟨wr.heap.size, 0, none⟩ (.string i1)).setCell ⟨wr.heap.size, 1, none⟩ (.string i2)) := ((fr_setJ w5 _ 0 _).setJ (by simp) 1 _)
          have hsz : ((w5.setCell ⟨wr.heap.size, 0, none⟩ (.string i1)).setCell ⟨wr.heap.size, 1, none⟩ (.string i2)).heap.size = w5.heap.size := by simp [World.setCell]
          have hal : Below ((w5.setCell ⟨wr.heap.size, 0, none⟩ (.string i1)).setCell ⟨wr.heap.size, 1, none⟩ (.string i2)).heap.size ((w5.setCell ⟨wr.heap.size, 0, none⟩ (.string i1)).setCell ⟨wr.heap.size, 1, none⟩ (.string i2)) (((w5.setCell ⟨wr.heap.size, 0, none⟩ (.string i1)).setCell ⟨wr.heap.size, 1, none⟩ (.string i2)).alloc (.cells #[.string i1, .string i2] 155)) := (Below.refl _ _).alloc (Nat.le_refl _) _
          have hf7 := (((HF4.out.transJ hf).trans hfw (by simp)).trans (Fr.of_below (own := []) hal) (by simp))
          have hr7 := (hr.fr hfw (by have := HRD.out.lt; simp; omega)).below hal
          have HR7 := Lib.hid hr7
          have HF7 := Lib.hid hf7
          have HO7 := Lib.hid (own_fr HROW.out hf7 (by simp; omega))
          have HS7 := Lib.hid (show Sl (((w5.setCell ⟨wr.heap.size, 0, none⟩ (.string i1)).setCell ⟨wr.heap.size, 1, none⟩ (.string i2)).alloc (.cells #[.string i1, .string i2] 155)) (((w5.setCell ⟨wr.heap.size, 0, none⟩ (.string i1)).setCell ⟨wr.heap.size, 1, none⟩ (.string i2)).alloc (.cells #[.string i1, .string i2] 155)).heap.size encId 2 (some ⟨w5.heap.size, 0, none⟩) 1 [((i1, i2) : IdV)] from by
            have h9 := heap_alloc_new ((w5.setCell ⟨wr.heap.size, 0, none⟩ (.string i1)).setCell ⟨wr.heap.size, 1, none⟩ (.string i2)) (.cells #[.string i1, .string i2] 155)
            rw [hsz] at h9
            refine ⟨rfl, fun _ => ⟨w5.heap.size, 0, rfl, (Array.getElem?_eq_some_iff.1 h9).1, fun j hj a u hu => ?_⟩⟩
            have hj0 : j = 0 := by omega
            subst hj0
            rw [cellH h9]
            match a, hu with
            | 0, hu => exact hu
            | 1, hu => exact hu)
          clear hr hf hN hal hf7 hr7 hsz hfw hv0 hv1
          go_wp2_with (at_builtin; refine wpList_appG elemIdJ rfl _ _ rfl w.heap.size B xs.length d (xs.map idV) ?hxId HO7.out (some ⟨w5.heap.size, 0, none⟩) 1 1 [((i1, i2) : IdV)] ?hyId HS7.out (fun e => by cases e) (by omega) (Nat.le_trans HFR.out.size HF7.out.size) ?hkId)
          (try case hxId => rfl)
          (try case hyId => rfl)
          case hkId =>
            intro A8 c8 w8 hv8 hb8
            have HB8 := Lib.hid hb8
            have HV8 := Lib.hid (show w8.ownsRow w.heap.size 155 2 (.slice A8 (xs ++ [x]).length c8) (xs ++ [x]).length (((xs ++ [x]).map idV).flatMap encId) by
              rw [List.length_append, List.length_singleton, List.map_append, List.map_singleton, HVV.out, List.flatMap_append]; simpa using hv8)
            clear hv8 hb8
            go_wp2_with fail
            go_roundw
            case rel => exact ⟨xs ++ [x], A8, c8, q5, by simp, by simp, by simp; omega, by rw [List.length_append]; exact HE.out, HR7.out.belowB HB8.out hlt, (HFR.out.transJ HF7.out).belowJ HB8.out, HV8.out⟩
            case measure => simp [RowKit.intOf]; omega

      · have hk2 : ¬ (xs.length : Int) < (N : Int) := by omega
        have HE := Lib.hid (show listP l 16 8 (idP l) p = .ok (xs, q) by
          have h1 := HTOT.out
          rw [show N - xs.length = 0 by omega] at h1
          rw [← h1]
          simp [repP, PR.ahead, PR.then])
        go_wp2_with fail
        go_ret
        rw [HE.out]
        exact ⟨⟨_, rfl, B, d, rfl, HROW.out⟩, HRD.out, HFR.out⟩
/-- a list, some of it read -/
def JRAcl (rb : Nat) (A : Option Addr) (n c : Nat) (l : Bs) (w : World) (N : Nat) (tot : PR (List (Int × Bs × Bs))) (v i : Value) (wr : World) : Prop :=
  ∃ (xs : List (Int × Bs × Bs)) (B : Option Addr) (d q : Nat), v = .slice B xs.length d ∧ i = .int .i64 (xs.length : Int) ∧ xs.length ≤ N ∧ (repP (aclP l) (N - xs.length) q).ahead xs = tot ∧ Rd wr rb A n c l q ∧ Fr [rb] w wr ∧ wr.ownsRow w.heap.size 246 3 (.slice B xs.length d) xs.length ((xs.map aclV).flatMap encAcl)
/-- what a list's reading hands back -/
def LsOutAcl (base : Nat) (xs : List (Int × Bs × Bs)) (u : Value) (w' : World) : Prop := ∃ B d, u = .slice B xs.length d ∧ w'.ownsRow base 246 3 (.slice B xs.length d) xs.length ((xs.map aclV).flatMap encAcl)
theorem elemAclJ : Elem encAcl 42 246 3 40 (.agg #[.int .i32 0, .string ⟨#[]⟩, .string ⟨#[]⟩]) where
  under := Tryz.underlying42
  info := by kernel_rfl
  size := rfl
  len := fun _ => rfl
  pos := by decide
  one := fun x u hu => by
    simp [encAcl] at hu
    rcases hu with rfl | rfl | rfl <;> rfl
  small := by decide
end Go.Proofs.YtbpmmmnphpkdjaaGreatDoor
