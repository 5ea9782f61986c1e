/- The walk of the program's Decode, by what its get answers. Conditions: at most 2^40 bytes; what is read is of lists of at most 2^20. -/
import Derived.Test.YthpjneobmmpbnaaGreatDoorGDbY
import Derived.Test.YthpjneobmmpbnaaGreatDoorGRefS
import Derived.Test.YthpjneobmmpbnaaGreatDoorGRf3
import Derived.Test.YthpjneobmmpbnaaGreatDoorGDltF
import Derived.Deep.CutBlock
import Derived.Test.YthpjneobmmpbnaaGreatDoorGRfB
import Derived.Test.YthpjneobmmpbnaaGreatDoorGIter3
import Derived.Test.YthpjneobmmpbnaaGreatDoorGRows2
import Derived.Test.YthpjneobmmpbnaaGreatDoorGTreC
import Derived.Test.YthpjneobmmpbnaaGreatDoorGTxnP
import Derived.Lib.BufferRead
import Derived.Test.YthpjneobmmpbnaaGreatDoorGHeld
namespace Go.Proofs.YthpjneobmmpbnaaGreatDoor
open Go.RowKit Go.MapKept Go.Maps
/-- a transaction that was read -/
def GetT (w0 : World) (t : TxT) (u : Value) (w' : World) : Prop := ∃ h : TxH, u = txV h ∧ TxAt w' (NfR w' w0.heap.size) h t
theorem GetL.tree {w0 w' : World} {v : TxF} {u : Value} (H : GetL w0 v u w') : GetT w0 (leafT v) u w' := by
  obtain ⟨h, rfl, hl, hs⟩ := H
  refine ⟨h, rfl, TrAt.of_subs (L := []) hl ?_ ?_ ?_⟩
  · show ([] : List TxT).length = h.s.2.1
    rw [hs]; rfl
  · show SlR w' _ encTx 16 h.s []
    rw [hs]; exact SlR.nil_
  · intro j hj
    have hj : j < h.s.2.1 := hj
    rw [hs] at hj; exact absurd hj (by simp)
theorem RdOut.map {α β : Type} {rb n c : Nat} {A : Option Addr} {l : Bs} {w w' : World} {e : Ending} {x : PR α} {R : α → Value → World → Prop} {R' : β → Value → World → Prop} (f : α → β) (H : RdOut rb A n c l w x R e w') (hR : ∀ v u w', R v u w' → R' (f v) u w') : RdOut rb A n c l w (x.then fun v a => .ok (f v, a)) R' e w' := by
  rcases x with ⟨q, k⟩ | ⟨v, q⟩
  · exact H
  · obtain ⟨⟨u, h1, h2⟩, h3⟩ := H
    exact ⟨⟨u, h1, hR _ _ _ h2⟩, h3⟩
/-- what get answers at this place -/
def GetsP (l : Bs) (ty : Int) (p : Nat) : Prop := ∀ (w : World) (rb n c : Nat) (A : Option Addr), Rd w rb A n c l p → TabsR rb w → Calls Tryz.prog 66 #[.pointer (some ⟨rb, 0, none⟩), .int .i32 ty] w (RdOut rb A n c l w (bodyP l ty p) (GetT w))
theorem gets_leaf {l : Bs} {ty : Int} {p : Nat} (h14 : ty ≠ 14) (h : ∀ (w : World) (rb n c : Nat) (A : Option Addr), Rd w rb A n c l p → TabsR rb w → Calls Tryz.prog 66 #[.pointer (some ⟨rb, 0, none⟩), .int .i32 ty] w (RdOut rb A n c l w (leafP l ty p) (GetL w))) : GetsP l ty p := fun w rb n c A hr hT => by
  have hb : bodyP l ty p = (leafP l ty p).then fun v a => .ok (leafT v, a) := by unfold bodyP; rw [if_neg h14]
  rw [hb]
  exact (h w rb n c A hr hT).mono fun e w' H => RdOut.map leafT H fun v u w' H => H.tree
/-- what is read ahead of the transaction's fields -/
def headP (l : Bs) : PR (Int × Int × Int × Int × Int) := (longP l 0).then fun se a => (intP l a).then fun xi a => (longP l a).then fun zx a => (longP l a).then fun ti a => (intP l a).then fun ty a => .ok ((se, xi, zx, ti, ty), a)
/-- what the closure holds -/
def DlC (xb B : Nat) (v : DlT) (w' : World) : Prop := ∃ h : DlH, w'.rangeAt xb 0 (encDl h) ∧ DlAt w' (NfR w' B) h v
theorem DlC.fr {xb B : Nat} {v : DlT} {w w' : World} {own : List Nat} (H : DlC xb B v w) (hf : Fr own w w') (hx : xb ∉ own) (ho : ∀ g ∈ own, g < B) : DlC xb B v w' := by
  obtain ⟨h, h1, h2, h3⟩ := H
  refine ⟨h, fun i u hu => ?_, h2, TrAt.fr kTxOk h3 hf fun b _ hb => ⟨fun hm => ?_, hb.fr hf (fun hm => ?_) (Nat.le_refl _)⟩⟩
  · have h4 := h1 i u hu
    exact (hf.cell (p := ⟨xb, 0 + i, none⟩) (World.block_lt_of_cell? w _ h4) hx).trans h4
  · have := ho b hm; have := hb.1; omega
  · have := ho b hm; have := hb.1; omega
/-- how the closure ends -/
def ClOut (rb xb : Nat) (A : Option Addr) (n c : Nat) (x : PR DlT) (W : World) (e : Ending) (w' : World) : Prop := Fr (rb :: [xb]) W w' ∧ match x with
  | .ok (v, q) => e = .returned (.tuple #[]) ∧ DlC xb W.heap.size v w' ∧ w'.heap[rb]? = some (.cells #[.slice A n c, .int .i64 (q : Int), .bool false] 187 (0, 0))
  | .error (q, k) => e = .panicked [failV rb k] ∧ True ∧ w'.heap[rb]? = some (.cells #[.slice A n c, .int .i64 (q : Int), .bool false] 187 (0, 0))
theorem fr_cons {rb xb : Nat} {w w' : World} (h : Fr [rb] w w') : Fr (rb :: [xb]) w w' := ⟨h.os, h.tape, h.output, h.size, fun g hg hn => h.block g hg (fun hm => hn (by simp at hm ⊢; exact .inl hm))⟩
theorem fr_cons2 {rb xb : Nat} {w w' : World} (h : Fr [xb] w w') : Fr (rb :: [xb]) w w' := ⟨h.os, h.tape, h.output, h.size, fun g hg hn => h.block g hg (fun hm => hn (by simp at hm ⊢; exact .inr hm))⟩
theorem rd_setlow {w : World} {rb n c p xb : Nat} {A : Option Addr} {l : Bs} (h : Rd w rb A n c l p) (hx : xb < rb) (hz : ∀ a, A = some a → 0 < n → a.block ≠ xb) (o : Nat) (v : Value) : Rd (w.setCell ⟨xb, o, none⟩ v) rb A n c l p :=
  ⟨(heap_otherJ w xb o v (by omega)).trans h.cell, ⟨h.sl.1, fun h0 => by
    obtain ⟨b, off, e, hb, hc⟩ := h.sl.2 h0
    exact ⟨b, off, e, hb, fun j hj i u hu => by
      have h1 := hc j hj i u hu
      exact ((fr_setJ w xb o v).cellJ (World.block_lt_of_cell? w _ h1) (by have := hz _ e h0; simpa using this)).trans h1⟩⟩, h.at_, h.small, h.cap, h.nil⟩
theorem tabs_setlow {rb xb : Nat} {w : World} (h : TabsR rb w) (h1 : 1 ≠ xb) (h2 : 2 ≠ xb) (o : Nat) (v : Value) : TabsR rb (w.setCell ⟨xb, o, none⟩ v) := by
  obtain ⟨t, n1, n2⟩ := h
  have hk : ∀ (p : Addr) u, p.block ≠ xb → w.cell? p = some u → (w.setCell ⟨xb, o, none⟩ v).cell? p = some u := fun p u hp hu => by
    rw [← hu]; exact (fr_setJ w xb o v).cellJ (World.block_lt_of_cell? w _ hu) (by simpa using hp)
  exact ⟨⟨fun c hc => hk _ _ h1 (t.1 c hc), fun i hi => ⟨hk _ _ h2 (t.2 i hi).1, hk _ _ h2 (t.2 i hi).2⟩⟩, n1, n2⟩
set_option linter.unusedSimpArgs false in
set_option maxRecDepth 100000 in
set_option maxHeartbeats 4000000 in
theorem decode1_any {w : World} {rb xb n c : Nat} {A : Option Addr} {l : Bs} (h : Rd w rb A n c l 0) (hT : TabsR rb w) (hx : w.heap[xb]? = some (.cells #[.int .i64 0, .int .i32 0, .int .i64 0, .int .i64 0, .int .i32 0, .string ⟨#[]⟩, .slice none 0 0, .slice none 0 0, .int .i64 0, .int .i32 0, .int .i32 0, .bool false, .int .i64 0, .int .i64 0, .int .i64 0, .int .i32 0, .slice none 0 0, .slice none 0 0, .int .i32 0, .slice none 0 0] 35 (0, 0))) (hlt : xb < rb) (hA : ∀ a, A = some a → 0 < n → a.block ≠ xb) (ht1 : 1 ≠ xb) (ht2 : 2 ≠ xb) (hg : ∀ z p, headP l = .ok (z, p) → knownB z.2.2.2.2 = true → GetsP l z.2.2.2.2 p) :
    Calls Tryz.prog 62 #[.pointer (some ⟨rb, 0, none⟩), .pointer (some ⟨xb, 0, none⟩)] w (ClOut rb xb A n c (readP l) w) := by
  have hlr := h.lt
  have HR0 := Lib.hid h; have HT0 := Lib.hid hT; have HC0 := Lib.hid hx; have HGT := Lib.hid hg
  have HF0 := Lib.hid (Fr.refl (rb :: [xb]) w)
  have HLF := Lib.hid (show readP l = (longP l 0).then fun v0 p0 => (intP l p0).then fun v1 p1 => (longP l p1).then fun v2 p2 => (longP l p2).then fun v3 p3 => (intP l p3).then fun v4 p4 => if knownB v4 then (bodyP l v4 p4).then fun t a => .ok (⟨v0, v1, v2, v3, t⟩, a) else .error (p4, 110) from rfl)
  have HHF := Lib.hid (show headP l = (longP l 0).then fun v0 p0 => (intP l p0).then fun v1 p1 => (longP l p1).then fun v2 p2 => (longP l p2).then fun v3 p3 => (intP l p3).then fun v4 p4 => .ok ((v0, v1, v2, v3, v4), p4) from rfl)
  clear h hT hx hg
  go_enter Tryz.func62, Tryz.ntmps62
  go_wp2_with fail
  have hN := rLong_any HR0.out
  rcases hX0 : longP l 0 with ⟨q, k⟩ | ⟨v0, p0⟩
  · have HG := Lib.hid (show readP l = .error (q, k) by rw [HLF.out]; simp only [thenOk2, thenErr, hX0])
    rw [hX0] at hN
    refine hN.mono ?_
    rintro e w9 ⟨rfl, hr, hf⟩
    refine ⟨rfl, ?_⟩
    rw [HG.out]
    exact ⟨HF0.out.trans (fr_cons hf) (fun g hg => .inl hg), rfl, trivial, hr.cell⟩
  rw [hX0] at hN
  have HX0 := Lib.hid hX0
  clear hX0
  refine hN.mono ?_
  rintro e w1 ⟨⟨u, rfl, rfl⟩, hr, hf⟩
  have hg := (hf.block _ (Array.getElem?_eq_some_iff.1 HC0.out).1 (by simp; omega)).trans HC0.out
  have z : w1.frozen? ⟨xb, 0, none⟩ = false := by simp [World.frozen?, hg]
  have y : w1.cell? ⟨xb, 0, none⟩ = some (.int .i64 0) := by rw [cellH hg]; rfl
  have HC1 := Lib.hid (show (w1.setCell ⟨xb, 0, none⟩ (.int .i64 v0)).heap[xb]? = some (.cells #[.int .i64 v0, .int .i32 0, .int .i64 0, .int .i64 0, .int .i32 0, .string ⟨#[]⟩, .slice none 0 0, .slice none 0 0, .int .i64 0, .int .i32 0, .int .i32 0, .bool false, .int .i64 0, .int .i64 0, .int .i64 0, .int .i32 0, .slice none 0 0, .slice none 0 0, .int .i32 0, .slice none 0 0] 35 (0, 0)) from heap_setJ (o := 0) hg _)
  have HR1 := Lib.hid (rd_setlow hr hlt hA 0 (.int .i64 v0))
  have HF1 := Lib.hid ((HF0.out.trans (fr_cons hf) (fun g hg => .inl hg)).trans (fr_cons2 (fr_setJ w1 xb 0 (.int .i64 v0))) (fun g hg => .inl hg))
  have HT1 := Lib.hid (tabs_setlow (HT0.out.fr hf) ht1 ht2 0 (.int .i64 v0))
  clear hr hf hN hg
  go_upto_region 1 with fail
  clear z y
  generalize (w1.setCell ⟨xb, 0, none⟩ (.int .i64 v0)) = W1 at *
  go_wp2_with fail
  have hN := rInt_any HR1.out
  rcases hX1 : intP l p0 with ⟨q, k⟩ | ⟨v1, p1⟩
  · have HG := Lib.hid (show readP l = .error (q, k) by rw [HLF.out]; simp only [thenOk2, thenErr, HX0.out, hX1])
    rw [hX1] at hN
    refine hN.mono ?_
    rintro e w9 ⟨rfl, hr, hf⟩
    refine ⟨rfl, ?_⟩
    rw [HG.out]
    exact ⟨HF1.out.trans (fr_cons hf) (fun g hg => .inl hg), rfl, trivial, hr.cell⟩
  rw [hX1] at hN
  have HX1 := Lib.hid hX1
  clear hX1
  refine hN.mono ?_
  rintro e w2 ⟨⟨u, rfl, rfl⟩, hr, hf⟩
  have hg := (hf.block _ (Array.getElem?_eq_some_iff.1 HC1.out).1 (by simp; omega)).trans HC1.out
  have z : w2.frozen? ⟨xb, 1, none⟩ = false := by simp [World.frozen?, hg]
  have y : w2.cell? ⟨xb, 1, none⟩ = some (.int .i32 0) := by rw [cellH hg]; rfl
  have HC2 := Lib.hid (show (w2.setCell ⟨xb, 1, none⟩ (.int .i32 v1)).heap[xb]? = some (.cells #[.int .i64 v0, .int .i32 v1, .int .i64 0, .int .i64 0, .int .i32 0, .string ⟨#[]⟩, .slice none 0 0, .slice none 0 0, .int .i64 0, .int .i32 0, .int .i32 0, .bool false, .int .i64 0, .int .i64 0, .int .i64 0, .int .i32 0, .slice none 0 0, .slice none 0 0, .int .i32 0, .slice none 0 0] 35 (0, 0)) from heap_setJ (o := 1) hg _)
  have HR2 := Lib.hid (rd_setlow hr hlt hA 1 (.int .i32 v1))
  have HF2 := Lib.hid ((HF1.out.trans (fr_cons hf) (fun g hg => .inl hg)).trans (fr_cons2 (fr_setJ w2 xb 1 (.int .i32 v1))) (fun g hg => .inl hg))
  have HT2 := Lib.hid (tabs_setlow (HT1.out.fr hf) ht1 ht2 1 (.int .i32 v1))
  clear hr hf hN hg
  go_upto_region 2 with fail
  clear z y
  generalize (w2.setCell ⟨xb, 1, none⟩ (.int .i32 v1)) = W2 at *
  go_wp2_with fail
  have hN := rLong_any HR2.out
  rcases hX2 : longP l p1 with ⟨q, k⟩ | ⟨v2, p2⟩
  · have HG := Lib.hid (show readP l = .error (q, k) by rw [HLF.out]; simp only [thenOk2, thenErr, HX0.out, HX1.out, hX2])
    rw [hX2] at hN
    refine hN.mono ?_
    rintro e w9 ⟨rfl, hr, hf⟩
    refine ⟨rfl, ?_⟩
    rw [HG.out]
    exact ⟨HF2.out.trans (fr_cons hf) (fun g hg => .inl hg), rfl, trivial, hr.cell⟩
  rw [hX2] at hN
  have HX2 := Lib.hid hX2
  clear hX2
  refine hN.mono ?_
  rintro e w3 ⟨⟨u, rfl, rfl⟩, hr, hf⟩
  have hg := (hf.block _ (Array.getElem?_eq_some_iff.1 HC2.out).1 (by simp; omega)).trans HC2.out
  have z : w3.frozen? ⟨xb, 2, none⟩ = false := by simp [World.frozen?, hg]
  have y : w3.cell? ⟨xb, 2, none⟩ = some (.int .i64 0) := by rw [cellH hg]; rfl
  have HC3 := Lib.hid (show (w3.setCell ⟨xb, 2, none⟩ (.int .i64 v2)).heap[xb]? = some (.cells #[.int .i64 v0, .int .i32 v1, .int .i64 v2, .int .i64 0, .int .i32 0, .string ⟨#[]⟩, .slice none 0 0, .slice none 0 0, .int .i64 0, .int .i32 0, .int .i32 0, .bool false, .int .i64 0, .int .i64 0, .int .i64 0, .int .i32 0, .slice none 0 0, .slice none 0 0, .int .i32 0, .slice none 0 0] 35 (0, 0)) from heap_setJ (o := 2) hg _)
  have HR3 := Lib.hid (rd_setlow hr hlt hA 2 (.int .i64 v2))
  have HF3 := Lib.hid ((HF2.out.trans (fr_cons hf) (fun g hg => .inl hg)).trans (fr_cons2 (fr_setJ w3 xb 2 (.int .i64 v2))) (fun g hg => .inl hg))
  have HT3 := Lib.hid (tabs_setlow (HT2.out.fr hf) ht1 ht2 2 (.int .i64 v2))
  clear hr hf hN hg
  go_upto_region 3 with fail
  clear z y
  generalize (w3.setCell ⟨xb, 2, none⟩ (.int .i64 v2)) = W3 at *
  go_wp2_with fail
  have hN := rLong_any HR3.out
  rcases hX3 : longP l p2 with ⟨q, k⟩ | ⟨v3, p3⟩
  · have HG := Lib.hid (show readP l = .error (q, k) by rw [HLF.out]; simp only [thenOk2, thenErr, HX0.out, HX1.out, HX2.out, hX3])
    rw [hX3] at hN
    refine hN.mono ?_
    rintro e w9 ⟨rfl, hr, hf⟩
    refine ⟨rfl, ?_⟩
    rw [HG.out]
    exact ⟨HF3.out.trans (fr_cons hf) (fun g hg => .inl hg), rfl, trivial, hr.cell⟩
  rw [hX3] at hN
  have HX3 := Lib.hid hX3
  clear hX3
  refine hN.mono ?_
  rintro e w4 ⟨⟨u, rfl, rfl⟩, hr, hf⟩
  have hg := (hf.block _ (Array.getElem?_eq_some_iff.1 HC3.out).1 (by simp; omega)).trans HC3.out
  have z : w4.frozen? ⟨xb, 3, none⟩ = false := by simp [World.frozen?, hg]
  have y : w4.cell? ⟨xb, 3, none⟩ = some (.int .i64 0) := by rw [cellH hg]; rfl
  have HC4 := Lib.hid (show (w4.setCell ⟨xb, 3, none⟩ (.int .i64 v3)).heap[xb]? = some (.cells #[.int .i64 v0, .int .i32 v1, .int .i64 v2, .int .i64 v3, .int .i32 0, .string ⟨#[]⟩, .slice none 0 0, .slice none 0 0, .int .i64 0, .int .i32 0, .int .i32 0, .bool false, .int .i64 0, .int .i64 0, .int .i64 0, .int .i32 0, .slice none 0 0, .slice none 0 0, .int .i32 0, .slice none 0 0] 35 (0, 0)) from heap_setJ (o := 3) hg _)
  have HR4 := Lib.hid (rd_setlow hr hlt hA 3 (.int .i64 v3))
  have HF4 := Lib.hid ((HF3.out.trans (fr_cons hf) (fun g hg => .inl hg)).trans (fr_cons2 (fr_setJ w4 xb 3 (.int .i64 v3))) (fun g hg => .inl hg))
  have HT4 := Lib.hid (tabs_setlow (HT3.out.fr hf) ht1 ht2 3 (.int .i64 v3))
  clear hr hf hN hg
  go_upto_region 4 with fail
  clear z y
  generalize (w4.setCell ⟨xb, 3, none⟩ (.int .i64 v3)) = W4 at *
  go_wp2_with fail
  have hN := rInt_any HR4.out
  rcases hX4 : intP l p3 with ⟨q, k⟩ | ⟨v4, p4⟩
  · have HG := Lib.hid (show readP l = .error (q, k) by rw [HLF.out]; simp only [thenOk2, thenErr, HX0.out, HX1.out, HX2.out, HX3.out, hX4])
    rw [hX4] at hN
    refine hN.mono ?_
    rintro e w9 ⟨rfl, hr, hf⟩
    refine ⟨rfl, ?_⟩
    rw [HG.out]
    exact ⟨HF4.out.trans (fr_cons hf) (fun g hg => .inl hg), rfl, trivial, hr.cell⟩
  rw [hX4] at hN
  have HX4 := Lib.hid hX4
  clear hX4
  refine hN.mono ?_
  rintro e w5 ⟨⟨u, rfl, rfl⟩, hr, hf⟩
  have HC5 := Lib.hid ((hf.block _ (Array.getElem?_eq_some_iff.1 HC4.out).1 (by simp; omega)).trans HC4.out)
  have HR5 := Lib.hid hr
  have HF5 := Lib.hid (HF4.out.trans (fr_cons hf) (fun g hg => .inl hg))
  have HT5 := Lib.hid (HT4.out.fr hf)
  clear hr hf hN
  go_wp2_with fail
  refine (known_any v4 w5).mono ?_
  rintro e wq ⟨rfl, hwq⟩
  subst hwq
  by_cases hk : knownB v4 = true
  case neg =>
    have hk : knownB v4 = false := by simpa using hk
    have HG := Lib.hid (show readP l = .error (p4, 110) by rw [HLF.out]; simp only [thenOk2, HX0.out, HX1.out, HX2.out, HX3.out, HX4.out, hk]; rfl)
    rw [hk]
    go_wp2_with fail
    refine (fail_any 110 HR5.out (by decide)).mono ?_
    rintro e w9 ⟨rfl, rfl⟩
    refine ⟨rfl, ?_⟩
    rw [HG.out]
    exact ⟨HF5.out, rfl, trivial, HR5.out.cell⟩
  have HLE := Lib.hid (show readP l = (bodyP l v4 p4).then fun t a => .ok (⟨v0, v1, v2, v3, t⟩, a) by rw [HLF.out]; simp only [thenOk2, HX0.out, HX1.out, HX2.out, HX3.out, HX4.out, hk]; rfl)
  have hN := HGT.out (v0, v1, v2, v3, v4) p4 (by rw [HHF.out]; simp only [thenOk2, HX0.out, HX1.out, HX2.out, HX3.out, HX4.out]) hk wq rb n c A HR5.out HT5.out
  rw [hk]
  clear hk
  go_wp2_with fail
  rcases hX5 : bodyP l v4 p4 with ⟨q, k⟩ | ⟨t, p5⟩
  · rw [hX5] at hN
    have HG := Lib.hid (show readP l = .error (q, k) by rw [HLE.out, hX5]; rfl)
    refine hN.mono ?_
    rintro e w9 ⟨rfl, hr, hf⟩
    refine ⟨rfl, ?_⟩
    rw [HG.out]
    exact ⟨HF5.out.trans (fr_cons hf) (fun g hg => .inl hg), rfl, trivial, hr.cell⟩
  rw [hX5] at hN
  have HG := Lib.hid (show readP l = .ok (⟨v0, v1, v2, v3, t⟩, p5) by rw [HLE.out, hX5]; rfl)
  refine hN.mono ?_
  rintro e w6 ⟨⟨u, rfl, ht, rfl, hta⟩, hr, hf⟩
  have hg := (hf.block _ (Array.getElem?_eq_some_iff.1 HC5.out).1 (by simp; omega)).trans HC5.out
  have hth : w6.there xb 4 16 := fun j hj => ⟨by
    rw [cellH hg, Array.getElem?_eq_getElem (by show 4 + j < 20; omega)]; rfl, by simp [World.frozen?, hg]⟩
  have hfs := fr_setCells w6 xb 4 (encTx ht)
  have HB5 := Lib.hid (HF5.out.size)
  have hsz := hf.size
  have hlo : xb < w.heap.size := by omega
  have hDC : DlC xb w.heap.size ⟨v0, v1, v2, v3, t⟩ (w6.setCells xb 4 (encTx ht)) := by
    refine ⟨⟨v0, v1, v2, v3, ht⟩, ?_, ⟨rfl, rfl, rfl, rfl⟩, TrAt.fr kTxOk hta hfs fun b _ hb => ⟨?_, hb.fr hfs ?_ (HB5.out)⟩⟩
    · have h1 : (w6.setCells xb 4 (encTx ht)).rangeAt xb 4 (encTx ht) := World.rangeAt_setCells_same w6 xb 4 (encTx ht) hth
      have h0 : (w6.setCells xb 4 (encTx ht)).rangeAt xb 0 [.int .i64 v0, .int .i32 v1, .int .i64 v2, .int .i64 v3] := World.rangeAt_setCells_apart (rangeAt_heapC (pre := []) (mid := [.int .i64 v0, .int .i32 v1, .int .i64 v2, .int .i64 v3]) (post := [.int .i32 0, .string ⟨#[]⟩, .slice none 0 0, .slice none 0 0, .int .i64 0, .int .i32 0, .int .i32 0, .bool false, .int .i64 0, .int .i64 0, .int .i64 0, .int .i32 0, .slice none 0 0, .slice none 0 0, .int .i32 0, .slice none 0 0]) hg rfl rfl) _ _ _ (.inr (.inl (by simp)))
      intro i u hu
      by_cases hi : i < 4
      · exact h0 i u (by rw [← hu]; show _ = (_ ++ _)[i]?; rw [List.getElem?_append_left (by simpa using hi)])
      · have h2 : (encDl ⟨v0, v1, v2, v3, ht⟩)[i]? = (encTx ht)[i - 4]? := by show (_ ++ _)[i]? = _; rw [List.getElem?_append_right (by simp; omega)]; rfl
        rw [h2] at hu
        have := h1 (i - 4) u hu
        rw [show 4 + (i - 4) = 0 + i by omega] at this
        exact this
    · have := hb.1; have := HB5.out; simp; omega
    · have := hb.1; have := HB5.out; simp; omega
  have HFE := Lib.hid ((HF5.out.trans (fr_cons hf) (fun g hg => .inl hg)).trans (fr_cons2 (rb := rb) hfs) (fun g hg => .inl hg))
  have HDC := Lib.hid hDC
  have HRE := Lib.hid ((hfs.block rb (Nat.lt_of_lt_of_le hlr (Nat.le_trans HB5.out hsz)) (by simp; omega)).trans hr.cell)
  clear hDC hfs hr hf hN hta hg
  go_wp2_with (first
    | (apply wpList_storeMid 33; exact rfl; exact rfl; exact rfl; exact rfl; exact hth; exact infTx; exact oneTx ht)
    | fail)
  refine bodyPost_ret (results_none rfl _ _ _) rfl ?_
  show ClOut rb xb A n c (readP l) w _ _
  rw [HG.out]
  exact ⟨HFE.out, rfl, HDC.out, HRE.out⟩
end Go.Proofs.YthpjneobmmpbnaaGreatDoor
namespace Go.Proofs.YthpjneobmmpbnaaGreatDoor
open Go.RowKit Go.MapKept Go.Maps
theorem leafP_in {l : Bs} {ty : Int} {p : Nat} (hp : p ≤ l.length) : (leafP l ty p).within l := by
  have ok : ∀ {α : Type} (v : α) (a : Nat), a ≤ l.length → PR.within l (.ok (v, a)) := fun _ _ h => h
  have ha : ∀ p, p ≤ l.length → (aclP l p).within l := fun p h => (intP_in h).bind fun _ _ _ h => (idP_in h).bind fun _ _ _ h => h
  unfold leafP
  split
  · exact (textP_in _ hp).bind fun _ _ _ h => (bytesP_in _ h).bind fun _ _ _ h => (listP_in _ _ ha h).bind fun _ _ _ h => (longP_in h).bind fun _ _ _ h => (intP_in h).bind fun _ _ _ h => h
  split
  · exact (textP_in _ hp).bind fun _ _ _ h => h
  split
  · exact (textP_in _ hp).bind fun _ _ _ h => (bytesP_in _ h).bind fun _ _ _ h => (intP_in h).bind fun _ _ _ h => h
  split
  · exact (textP_in _ hp).bind fun _ _ _ h => (listP_in _ _ ha h).bind fun _ _ _ h => (intP_in h).bind fun _ _ _ h => h
  split
  · exact (textP_in _ hp).bind fun _ _ _ h => (intP_in h).bind fun _ _ _ h => h
  split
  · exact (textP_in _ hp).bind fun _ _ _ h => (longP_in h).bind fun _ _ _ h => (longP_in h).bind fun _ _ _ h => h
  split
  · exact (intP_in hp).bind fun _ _ _ h => (listP_in _ _ (fun p h => idP_in h) h).bind fun _ _ _ h => h
  split
  · exact (listP_in _ _ (fun p h => textP_in _ h) hp).bind fun _ _ _ h => h
  split
  · exact (intP_in hp).bind fun _ _ _ h => h
  · exact ok _ _ hp
theorem partP_in {l : Bs} {p : Nat} (hp : p ≤ l.length) : (partP l p).within l := (intP_in hp).bind fun ty a _ h => by
  show PR.within l (if _ then _ else _)
  split
  · exact leafP_in h
  · exact ⟨h, by decide⟩
theorem bodyP_in {l : Bs} {ty : Int} {p : Nat} (hp : p ≤ l.length) : (bodyP l ty p).within l := by
  unfold bodyP
  split
  · exact (listP_in _ _ (fun p h => partP_in h) hp).bind fun _ _ _ h => h
  · exact (leafP_in hp).bind fun _ _ _ h => h
theorem readP_in (l : Bs) : (readP l).within l := (longP_in (Nat.zero_le _)).bind fun _ _ _ h => (intP_in h).bind fun _ _ _ h => (longP_in h).bind fun _ _ _ h => (longP_in h).bind fun _ _ _ h => (intP_in h).bind fun ty a _ h => by
  show PR.within l (if _ then _ else _)
  split
  · exact (bodyP_in h).bind fun _ _ _ h => h
  · exact ⟨h, by decide⟩
/-- all of the bytes -/
def allP (l : Bs) : PR DlT := match readP l with
  | .error e => .error e
  | .ok (d, p) => if p < l.length then .error (p, 21) else .ok (d, p)
theorem decD_all (l : Bs) : decD l = match allP l with
    | .error (p, k) => (noDl, p, k)
    | .ok (d, _) => if rightE d ≠ 0 then (noDl, l.length, rightE d) else (d, 0, 0) := by
  unfold decD allP
  rcases readP l with ⟨p, k⟩ | ⟨d, p⟩
  · rfl
  · dsimp only
    by_cases h : p < l.length
    · rw [if_pos h, if_pos h]
    · rw [if_neg h, if_neg h]
theorem TabsR.ofE {w W : World} {rb : Nat} (hE : Env w) (hb : Below w.heap.size w W) (hle : w.heap.size ≤ rb) : TabsR rb W :=
  ⟨(hE.below (Nat.le_refl _) hb).tabs, Nat.lt_of_lt_of_le (World.block_lt_of_cell? w _ (hE.tabs.1 0 (by decide))) hle, Nat.lt_of_lt_of_le (World.block_lt_of_cell? w _ (hE.tabs.2 0 (by decide)).1) hle⟩
/-- what is known of get at these bytes -/
def GetsAll (l : Bs) : Prop := ∀ z p, headP l = .ok (z, p) → knownB z.2.2.2.2 = true → GetsP l z.2.2.2.2 p
/-- bytes of an argument -/
def ArgC (w : World) (A : Option Addr) (n c : Nat) (l : Bs) : Prop := Sl w w.heap.size enc8 1 A n l ∧ (A = none → n = 0 ∧ c = 0) ∧ n ≤ 1099511627776 ∧ n ≤ c
theorem ArgC.below {w w' : World} {A : Option Addr} {n c : Nat} {l : Bs} (h : ArgC w A n c l) (hb : Below w.heap.size w w') : ArgC w' A n c l := ⟨h.1.belowMore hb hb.size, h.2⟩
theorem readDl_any {w w0 : World} {xb n c : Nat} {A : Option Addr} {l : Bs} (hB : ArgC w0 A n c l) (hE : Env w0) (hg : GetsAll l) (hb : Below w0.heap.size w0 w) (hx : w.heap[xb]? = some (.cells #[.int .i64 0, .int .i32 0, .int .i64 0, .int .i64 0, .int .i32 0, .string ⟨#[]⟩, .slice none 0 0, .slice none 0 0, .int .i64 0, .int .i32 0, .int .i32 0, .bool false, .int .i64 0, .int .i64 0, .int .i64 0, .int .i32 0, .slice none 0 0, .slice none 0 0, .int .i32 0, .slice none 0 0] 35 (0, 0))) (hxl : w0.heap.size ≤ xb) :
    Calls Tryz.prog 111 #[.slice A n c, .func (.func 62) #[] #[.pointer (some ⟨xb, 0, none⟩)]] w (ReadOut (readP l) (fun W v w' => DlC xb W.heap.size v w') (fun _ _ => True) [xb] w) := by
  have hlt := (Array.getElem?_eq_some_iff.1 hx).1
  refine read_any (readP l) (fun W v w' => DlC xb W.heap.size v w') (fun _ _ => True) [xb] _ #[] #[.pointer (some ⟨xb, 0, none⟩)] (hB.1.belowMore hb hb.size) hB.2.2.1 hB.2.2.2 hB.2.1 (enters_of Tryz.func62 (by kernel_rfl) rfl) (by simpa using hlt) (fun W v w1 w2 own H hf ho => ?_) (fun _ _ _ _ _ _ _ => trivial) (fun W rb hW hrb hR => ?_)
  · exact H.fr hf (fun hm => by have := ho _ hm; omega) (fun g hm => by have := ho _ hm; omega)
  · have hWb : Below w0.heap.size w0 W := hb.trans (hW.mono hb.size)
    have hT := TabsR.ofE hE hWb (Nat.le_trans hb.size hrb)
    refine (decode1_any hR hT ((hW.block xb hlt).trans hx) (by omega) (fun a ha h0 => ?_) ?_ ?_ hg).mono fun e w' H => by
      unfold ClOut at H
      generalize readP l = x at H ⊢
      rcases x with ⟨q, k⟩ | ⟨v, q⟩ <;> exact H
    · obtain ⟨b, off, e, hbb, _⟩ := hB.1.2 h0
      rw [ha] at e; injection e with e
      rw [e]
      show b ≠ xb
      omega
    · have := World.block_lt_of_cell? w0 _ (hE.tabs.1 0 (by decide))
      intro e
      rw [e] at this
      exact absurd this (by show ¬ xb < _; omega)
    · have := World.block_lt_of_cell? w0 _ (hE.tabs.2 0 (by decide)).1
      intro e
      rw [e] at this
      exact absurd this (by show ¬ xb < _; omega)
/-- how All ends -/
def AllD (xb : Nat) (l : Bs) (w : World) (e : Ending) (w' : World) : Prop := Fr [xb] w w' ∧ ∃ (p : Nat) (k : Int), e = .returned (.tuple #[.int .i64 (p : Int), .int .i64 k]) ∧ ((k ≠ 0 ∧ allP l = .error (p, k)) ∨ (k = 0 ∧ ∃ v B, allP l = .ok (v, p) ∧ w.heap.size ≤ B ∧ DlC xb B v w'))
set_option linter.unusedSimpArgs false in
set_option maxRecDepth 100000 in
set_option maxHeartbeats 4000000 in
theorem allDl_any {w w0 : World} {xb n c : Nat} {A : Option Addr} {l : Bs} (hB : ArgC w0 A n c l) (hE : Env w0) (hg : GetsAll l) (hb : Below w0.heap.size w0 w) (hx : w.heap[xb]? = some (.cells #[.int .i64 0, .int .i32 0, .int .i64 0, .int .i64 0, .int .i32 0, .string ⟨#[]⟩, .slice none 0 0, .slice none 0 0, .int .i64 0, .int .i32 0, .int .i32 0, .bool false, .int .i64 0, .int .i64 0, .int .i64 0, .int .i32 0, .slice none 0 0, .slice none 0 0, .int .i32 0, .slice none 0 0] 35 (0, 0))) (hxl : w0.heap.size ≤ xb) :
    Calls Tryz.prog 61 #[.slice A n c, .func (.func 62) #[] #[.pointer (some ⟨xb, 0, none⟩)]] w (AllD xb l w) := by
  have HR := Lib.hid (readDl_any hB hE hg hb hx hxl)
  have hlen := hB.1.len
  have HIN := Lib.hid (readP_in l)
  have HB := Lib.hid hb.size
  have HAL := Lib.hid (show allP l = match readP l with | .error e => .error e | .ok (d, p) => if p < l.length then .error (p, 21) else .ok (d, p) from rfl)
  clear hB hE hg hb hx hxl
  go_enter Tryz.func61, Tryz.ntmps61
  go_wp2_with fail
  refine HR.out.mono ?_
  rintro e w' ⟨hf, W, hW, hm⟩
  rcases hX : readP l with ⟨q, k⟩ | ⟨v, q⟩
  · rw [hX] at hm
    obtain ⟨rfl, -⟩ := hm
    have hk : k ≠ 0 := by have := HIN.out; rw [hX] at this; exact this.2
    have hk1 : (k == 0) = false := beq_eq_false_iff_ne.2 hk
    have HEND := Lib.hid (show AllD xb l w (.returned (.tuple #[.int .i64 (q : Int), .int .i64 k])) w' from ⟨hf, q, k, rfl, .inl ⟨hk, by rw [HAL.out, hX]⟩⟩)
    clear hf hW hk hX
    go_wp2_with fail
    go_ret2
    exact HEND.out
  · rw [hX] at hm
    obtain ⟨rfl, hP⟩ := hm
    have HDC := Lib.hid hP
    have hWs : w.heap.size ≤ W.heap.size := hW.size
    by_cases hq : q < l.length
    · have hq1 : (q : Int) < (n : Int) := by omega
      have HEND := Lib.hid (show AllD xb l w (.returned (.tuple #[.int .i64 (q : Int), .int .i64 21])) w' from ⟨hf, q, 21, rfl, .inl ⟨by decide, by rw [HAL.out, hX]; show (if _ then _ else _) = _; rw [if_pos hq]⟩⟩)
      clear hf hW hX hP
      go_wp2_with fail
      go_ret2
      exact HEND.out
    · have hq1 : ¬ (q : Int) < (n : Int) := by omega
      have HEND := Lib.hid (show AllD xb l w (.returned (.tuple #[.int .i64 (q : Int), .int .i64 0])) w' from ⟨hf, q, 0, rfl, .inr ⟨rfl, v, W.heap.size, by rw [HAL.out, hX]; show (if _ then _ else _) = _; rw [if_neg hq], hWs, HDC.out⟩⟩)
      clear hf hW hX hP
      go_wp2_with fail
      go_ret2
      exact HEND.out
theorem wpList_bdDl {ops : Array Oper} {rest : List Oper} {o : Oper} {a : Act} {w : World} {Q : Exit → Act → World → Prop} (hg : o.guard = none) (ho : o.op = .build 35 #[]) (h : wpList Tryz.prog ops Q rest (a.put o.dst (.agg #[.int .i64 0, .int .i32 0, .int .i64 0, .int .i64 0, .int .i32 0, .string ⟨#[]⟩, .slice none 0 0, .slice none 0 0, .int .i64 0, .int .i32 0, .int .i32 0, .bool false, .int .i64 0, .int .i64 0, .int .i64 0, .int .i32 0, .slice none 0 0, .slice none 0 0, .int .i32 0, .slice none 0 0])) w) : wpList Tryz.prog ops Q (o :: rest) a w := by
  have e : Tryz.prog.built 35 ((#[] : Array (Nat × Operand)).map fun (i, x) => (i, a.eval x)).toList = some #[.int .i64 0, .int .i32 0, .int .i64 0, .int .i64 0, .int .i32 0, .string ⟨#[]⟩, .slice none 0 0, .slice none 0 0, .int .i64 0, .int .i32 0, .int .i32 0, .bool false, .int .i64 0, .int .i64 0, .int .i64 0, .int .i32 0, .slice none 0 0, .slice none 0 0, .int .i32 0, .slice none 0 0] := by
    have : Tryz.prog.built 35 [] = some #[.int .i64 0, .int .i32 0, .int .i64 0, .int .i64 0, .int .i32 0, .string ⟨#[]⟩, .slice none 0 0, .slice none 0 0, .int .i64 0, .int .i32 0, .int .i32 0, .bool false, .int .i64 0, .int .i64 0, .int .i64 0, .int .i32 0, .slice none 0 0, .slice none 0 0, .int .i32 0, .slice none 0 0] := by kernel_rfl
    simpa using this
  refine wpList_build hg 35 #[] ho (by rw [e]; rfl) ?_
  rw [e]
  exact h
theorem oneDl (h : DlH) : (encDl h).toArray.all (·.oneCell') = true := by simp [encDl, encTx, Value.oneCell']
theorem results_cellT3 {fn : Func} {p q r : Tmp} {ty : TypeId} (h : fn.results = #[.cell p ty, .tmp q, .tmp r]) (tmps : Array Value) (P : Program) (w : World) :
    (results fn tmps).run P w = ((asAddr (tmps.getD p undef)).run P w).andThen fun a w₁ => ((loadVar ty a).run P w₁).andThen fun v w₂ => .ok (.tuple #[v, tmps.getD q undef, tmps.getD r undef]) w₂ := by
  simp only [results, h]
  simp [Sem.run_bind, Result.andThen]
/-- a function's end whose results are a struct in a variable and two values -/
theorem bodyPost_cellT3 {P : Program} {fn : Func} {Q : Ending → World → Prop} {a : Act} {w : World} {p q r : Tmp} {ty t : TypeId} {g : Nat} {cs : Array Value} {d : TypeDesc} {v u : Value} (h : fn.results = #[.cell p ty, .tmp q, .tmp r]) (hx : a.tmps.getD p undef = .pointer (some ⟨g, 0, none⟩))
    (hv : a.tmps.getD q undef = v) (hv2 : a.tmps.getD r undef = u) (hg : w.heap[g]? = some (.cells cs t (0, 0))) (hu : P.underlying ty = some d) (hd : d.isRow = true) (hi : (P.info? ty).map (·.size) = some cs.size) (hdf : a.defers = []) (hq : Q (.returned (.tuple #[.agg cs, v, u])) w) : bodyPost P fn Q .ret a w := by
  refine bodyPost_ret ((results_cellT3 h _ _ _).trans ?_) hdf hq
  have h1 := res_cell (P := P) (w := w) hx hg hu hd hi
  rw [hv, hv2]
  cases hx2 : (asAddr (a.tmps.getD p undef)).run P w with
  | ok ad w1 =>
    rw [hx2] at h1
    simp only [Result.andThen_ok] at h1 ⊢
    rw [h1]; rfl
  | _ => rw [hx2] at h1; cases h1
/-- what Decode answers -/
def DecP (w : World) (l : Bs) (e : Ending) (w' : World) : Prop := Below w.heap.size w w' ∧ ∃ h : DlH, e = .returned (.tuple #[dlV h, .int .i64 ((decD l).2.1 : Int), .int .i64 (decD l).2.2]) ∧ DlAt w' (NfR w' w.heap.size) h (decD l).1
def zDl : DlH := ⟨0, 0, 0, 0, ⟨⟨0, ⟨#[]⟩, 0, 0, 0, false, 0, 0, 0, 0, 0⟩, (none, 0, 0), (none, 0, 0), (none, 0, 0), (none, 0, 0), (none, 0, 0)⟩⟩
theorem noDl_at (w : World) (R : Nat → Prop) : DlAt w R zDl noDl :=
  ⟨⟨rfl, rfl, rfl, rfl⟩, TrAt.of_subs (L := []) ⟨rfl, SlR.nil_, SlR.nil_, SlR.nil_, SlR.nil_⟩ rfl SlR.nil_ (fun j hj => absurd hj (by show ¬ j < 0; omega))⟩
set_option linter.unusedSimpArgs false in
set_option maxRecDepth 100000 in
set_option maxHeartbeats 8000000 in
theorem decode_of {w : World} {n c : Nat} {A : Option Addr} {l : Bs} (hB : ArgC w A n c l) (hE : Env w) (hg : GetsAll l) (hsm : ∀ d p, readP l = .ok (d, p) → DlSm 1048576 d) : Calls Tryz.prog 28 #[.slice A n c] w (DecP w l) := by
  have hb1 : Below w.heap.size w (w.alloc (.cells #[.int .i64 0, .int .i32 0, .int .i64 0, .int .i64 0, .int .i32 0, .string ⟨#[]⟩, .slice none 0 0, .slice none 0 0, .int .i64 0, .int .i32 0, .int .i32 0, .bool false, .int .i64 0, .int .i64 0, .int .i64 0, .int .i32 0, .slice none 0 0, .slice none 0 0, .int .i32 0, .slice none 0 0] 35)) := (Below.refl _ w).alloc (Nat.le_refl _) _
  have hb2 : Below w.heap.size w ((w.alloc (.cells #[.int .i64 0, .int .i32 0, .int .i64 0, .int .i64 0, .int .i32 0, .string ⟨#[]⟩, .slice none 0 0, .slice none 0 0, .int .i64 0, .int .i32 0, .int .i32 0, .bool false, .int .i64 0, .int .i64 0, .int .i64 0, .int .i32 0, .slice none 0 0, .slice none 0 0, .int .i32 0, .slice none 0 0] 35)).alloc (.cells #[.int .i64 0, .int .i32 0, .int .i64 0, .int .i64 0, .int .i32 0, .string ⟨#[]⟩, .slice none 0 0, .slice none 0 0, .int .i64 0, .int .i32 0, .int .i32 0, .bool false, .int .i64 0, .int .i64 0, .int .i64 0, .int .i32 0, .slice none 0 0, .slice none 0 0, .int .i32 0, .slice none 0 0] 35)) := hb1.alloc hb1.size _
  have HA := Lib.hid (allDl_any hB hE hg hb2 (heap_s1 w (.cells #[.int .i64 0, .int .i32 0, .int .i64 0, .int .i64 0, .int .i32 0, .string ⟨#[]⟩, .slice none 0 0, .slice none 0 0, .int .i64 0, .int .i32 0, .int .i32 0, .bool false, .int .i64 0, .int .i64 0, .int .i64 0, .int .i32 0, .slice none 0 0, .slice none 0 0, .int .i32 0, .slice none 0 0] 35) (.cells #[.int .i64 0, .int .i32 0, .int .i64 0, .int .i64 0, .int .i32 0, .string ⟨#[]⟩, .slice none 0 0, .slice none 0 0, .int .i64 0, .int .i32 0, .int .i32 0, .bool false, .int .i64 0, .int .i64 0, .int .i64 0, .int .i32 0, .slice none 0 0, .slice none 0 0, .int .i32 0, .slice none 0 0] 35)) (Nat.le_succ _))
  have hmf : ∀ (fn : Fn) (first cap : Array Value) (w : World), (Instr.makeFunc fn first cap).run Tryz.prog w = .ok (.func fn first cap) w := fun _ _ _ _ => rfl
  have HG0 := Lib.hid (heap_under (o := (.cells #[.int .i64 0, .int .i32 0, .int .i64 0, .int .i64 0, .int .i32 0, .string ⟨#[]⟩, .slice none 0 0, .slice none 0 0, .int .i64 0, .int .i32 0, .int .i32 0, .bool false, .int .i64 0, .int .i64 0, .int .i64 0, .int .i32 0, .slice none 0 0, .slice none 0 0, .int .i32 0, .slice none 0 0] 35)) (heap_s0 w (.cells #[.int .i64 0, .int .i32 0, .int .i64 0, .int .i64 0, .int .i32 0, .string ⟨#[]⟩, .slice none 0 0, .slice none 0 0, .int .i64 0, .int .i32 0, .int .i32 0, .bool false, .int .i64 0, .int .i64 0, .int .i64 0, .int .i32 0, .slice none 0 0, .slice none 0 0, .int .i32 0, .slice none 0 0] 35)))
  have HZ := Lib.hid (sz2 w (.cells #[.int .i64 0, .int .i32 0, .int .i64 0, .int .i64 0, .int .i32 0, .string ⟨#[]⟩, .slice none 0 0, .slice none 0 0, .int .i64 0, .int .i32 0, .int .i32 0, .bool false, .int .i64 0, .int .i64 0, .int .i64 0, .int .i32 0, .slice none 0 0, .slice none 0 0, .int .i32 0, .slice none 0 0] 35) (.cells #[.int .i64 0, .int .i32 0, .int .i64 0, .int .i64 0, .int .i32 0, .string ⟨#[]⟩, .slice none 0 0, .slice none 0 0, .int .i64 0, .int .i32 0, .int .i32 0, .bool false, .int .i64 0, .int .i64 0, .int .i64 0, .int .i32 0, .slice none 0 0, .slice none 0 0, .int .i32 0, .slice none 0 0] 35))
  have HB := Lib.hid hb2; have HE := Lib.hid hE
  have HLEN := Lib.hid hB.1.len
  have HSM := Lib.hid (fun d p (h : allP l = .ok (d, p)) => hsm d p (by
    unfold allP at h
    split at h
    · cases h
    · rename_i d2 p2 he
      split at h
      · cases h
      · rw [he, h]))
  clear hb1 hb2 hB hE hg hsm
  go_enter Tryz.func28, Tryz.ntmps28
  go_upto_region 2 with fail
  generalize (w.alloc (.cells #[.int .i64 0, .int .i32 0, .int .i64 0, .int .i64 0, .int .i32 0, .string ⟨#[]⟩, .slice none 0 0, .slice none 0 0, .int .i64 0, .int .i32 0, .int .i32 0, .bool false, .int .i64 0, .int .i64 0, .int .i64 0, .int .i32 0, .slice none 0 0, .slice none 0 0, .int .i32 0, .slice none 0 0] 35)).alloc (.cells #[.int .i64 0, .int .i32 0, .int .i64 0, .int .i64 0, .int .i32 0, .string ⟨#[]⟩, .slice none 0 0, .slice none 0 0, .int .i64 0, .int .i32 0, .int .i32 0, .bool false, .int .i64 0, .int .i64 0, .int .i64 0, .int .i32 0, .slice none 0 0, .slice none 0 0, .int .i32 0, .slice none 0 0] 35) = W at *
  go_wp2_with fail
  refine HA.out.mono ?_
  rintro e w1 ⟨hf, p, k, rfl, hm⟩
  have HB1 := Lib.hid (HB.out.trans (hf.below HB.out.size (by simp)))
  have gZ := (hf.block w.heap.size (by have := HZ.out; omega) (by simp)).trans HG0.out
  clear hf hmf
  rcases hm with ⟨hk, hal⟩ | ⟨rfl, v, B, hal, hBw, hdc⟩
  · have HD := Lib.hid (show decD l = (noDl, p, k) by rw [decD_all, hal])
    have hk1 : (k == 0) = false := beq_eq_false_iff_ne.2 hk
    have hk2 : (k != 0) = true := bne_iff_ne.2 hk
    clear hk hal
    go_wp2_with (first | (refine wpList_bdDl rfl rfl ?_) | (apply wpList_storeRow 35 35; exact rfl; exact rfl; exact rfl; exact rfl; assumption; exact infDl; exact rfl; (first | exact oneDl _ | simp [Value.oneCell'])) | fail)
    refine bodyPost_cellT3 rfl rfl rfl rfl (setRow_heap _ _ _ _ _ _ gZ) undDl rfl infDl rfl ?_
    refine ⟨below_setRow HB1.out (Nat.le_refl _) _, zDl, ?_, ?_⟩
    · rw [HD.out]; rfl
    · rw [HD.out]; exact noDl_at _ _
  · obtain ⟨h, hr, hd1, hd2⟩ := hdc
    have hsm := HSM.out v p hal
    have HRI := Lib.hid (right13_any h v w1 _ ⟨hd1, hd2⟩ (HE.out.below (Nat.le_refl _) HB1.out) hsm)
    have HDA := Lib.hid (show DlAt w1 (NfR w1 (w.heap.size + 2)) h v from ⟨hd1, TrAt.fr kTxOk hd2 (Fr.refl [] w1) fun b _ hb => ⟨by simp, by have := hb.1; have := HZ.out; omega, hb.2⟩⟩)
    have hll : ((l.length : Nat) : Int) = (n : Int) := by rw [HLEN.out]
    have HAL := Lib.hid hal
    have y5 := hr
    clear hd1 hd2 hsm hal hr
    go_wp2_with (first | (apply wpList_loadMid 35; exact rfl; exact rfl; exact rfl; exact (by assumption); exact undDl; exact rfl; exact infDl) | fail)
    refine HRI.out.mono ?_
    rintro e w2 ⟨rfl, hb2⟩
    have HB2 := Lib.hid (HB1.out.trans (hb2.mono HB1.out.size))
    have gZ2 := (hb2.block w.heap.size (Array.getElem?_eq_some_iff.1 gZ).1).trans gZ
    have y6 : w2.rangeAt (w.heap.size + 1) 0 (encDl h) := fun i u hu => (hb2.cell (World.block_lt_of_cell? w1 _ (y5 i u hu))).trans (y5 i u hu)
    have HDA2 := Lib.hid (show DlAt w2 (NfR w2 (w.heap.size + 2)) h v from ⟨HDA.out.1, TrAt.fr kTxOk HDA.out.2 (Fr.of_below (own := []) hb2) fun b _ hb => ⟨by simp, hb.below hb2⟩⟩)
    clear hb2 y5 gZ HDA HRI
    by_cases hr0 : rightE v = 0
    case neg =>
      have HD := Lib.hid (show decD l = (noDl, l.length, rightE v) by rw [decD_all, HAL.out]; show (if _ then _ else _) = _; rw [if_pos hr0])
      rw [← hll] at *
      generalize rightE v = x at *
      have hk2 : (x != 0) = true := bne_iff_ne.2 hr0
      clear hr0 y6
      go_wp2_with (first | (refine wpList_bdDl rfl rfl ?_) | (apply wpList_storeRow 35 35; exact rfl; exact rfl; exact rfl; exact rfl; assumption; exact infDl; exact rfl; (first | exact oneDl _ | simp [Value.oneCell'])) | fail)
      refine bodyPost_cellT3 rfl rfl rfl rfl (setRow_heap _ _ _ _ _ _ gZ2) undDl rfl infDl rfl ?_
      refine ⟨below_setRow HB2.out (Nat.le_refl _) _, zDl, ?_, ?_⟩
      · rw [HD.out]; rfl
      · rw [HD.out]; exact noDl_at _ _
    have HD := Lib.hid (show decD l = (v, 0, 0) by rw [decD_all, HAL.out]; show (if _ then _ else _) = _; rw [if_neg (by rw [hr0]; simp)])
    rw [hr0]
    clear hr0
    have hfz := fr_setRow9 w2 w.heap.size (encDl h).toArray
    go_wp2_with (first | (apply wpList_loadMid 35; exact rfl; exact rfl; exact rfl; exact (by assumption); exact undDl; exact rfl; exact infDl) | (apply wpList_storeRow 35 35; exact rfl; exact rfl; exact rfl; exact rfl; assumption; exact infDl; exact rfl; (first | exact oneDl _ | simp [Value.oneCell'])) | fail)
    refine bodyPost_cellT3 rfl rfl rfl rfl (setRow_heap _ _ _ _ _ _ gZ2) undDl rfl infDl rfl ?_
    refine ⟨below_setRow HB2.out (Nat.le_refl _) _, h, ?_, ?_⟩
    · rw [HD.out]; rfl
    · rw [HD.out]
      refine ⟨HDA2.out.1, TrAt.fr kTxOk HDA2.out.2 hfz fun b _ hb => ⟨?_, hb.fr hfz ?_ (Nat.le_add_right _ 2)⟩⟩
      all_goals (have := hb.1; simp; omega)
end Go.Proofs.YthpjneobmmpbnaaGreatDoor
namespace Go.Proofs.YthpjneobmmpbnaaGreatDoor
open Go.RowKit Go.MapKept Go.Maps
/-- blocks of what a function made: kept through frames -/
structure RKind (RR : World → Nat → Nat → Prop) : Prop where
  fr : ∀ {w w' : World} {B B' b : Nat} {own : List Nat}, b < w.heap.size → RR w B b → Fr own w w' → b ∉ own → B' ≤ B → RR w' B' b
theorem kNf : RKind NfR := ⟨fun _ h hf hn hB => h.fr hf hn hB⟩
theorem kGe : RKind (fun _ B b => B ≤ b) := ⟨fun _ h _ _ hB => Nat.le_trans hB h⟩
/-- the transaction that takes a node away -/
def delN (p : ByteArray) : TxN := ⟨2, p, 0, 0, 0, false, 0, 0, 0, 0, 0⟩
def delH (p : ByteArray) : TxH := ⟨delN p, (none, 0, 0), (none, 0, 0), (none, 0, 0), (none, 0, 0), (none, 0, 0)⟩
def delT (p : ByteArray) : TxT := .mk ⟨delN p, [], [], [], []⟩ []
theorem del_at (w : World) (R : Nat → Prop) (p : ByteArray) : TxAt w R (delH p) (delT p) :=
  .mk _ _ [] (fun _ => default) 0 0 ⟨rfl, SlR.nil_, SlR.nil_, SlR.nil_, SlR.nil_⟩ rfl ⟨fun _ => ⟨rfl, rfl⟩, Nat.le_refl _⟩ (fun h => absurd h (by show ¬ 0 < 0; omega)) (fun j hj => absurd hj (by show ¬ j < 0; omega)) (fun j hj => absurd hj (by show ¬ j < 0; omega))
theorem del_ok {p : ByteArray} (hp : p.size ≤ 1048576) : TxOk 1048576 (delT p) := by
  have z32 : in32 0 := by unfold in32; omega
  have z64 : in64 0 := by unfold in64; omega
  refine .mk _ _ ?_ (fun j hj => absurd hj (by simp))
  refine ⟨⟨by show in32 2; unfold in32; omega, z64, z32, z32, z64, z64, z64, z32, z32⟩, hp, Nat.zero_le _, Nat.zero_le _, Nat.zero_le _, Nat.zero_le _, Nat.zero_le _, ?_, ?_, ?_⟩ <;> exact fun j hj => absurd hj (by simp)
/-- a delta's transactions, one by one -/
def stepsL (t : TxT) : List TxT := if t.v.n.ty = 14 then t.subs else if t.v.n.ty = -11 then t.v.paths.map delT else if t.v.n.ty = -1 ∨ t.v.n.ty = -10 then [] else [t]
def notCk (t : TxT) : Bool := t.v.n.ty != 13
noncomputable def stepsD (d : DlT) : List TxT := if rightE d ≠ 0 then [] else (stepsL d.t).filter notCk
/-- the first k of a list that are no checks -/
def stK (l : List TxT) (k : Nat) : List TxT := (l.take k).filter notCk
theorem takeS {α : Type} [Inhabited α] (l : List α) {k : Nat} (hk : k < l.length) : l.take (k + 1) = l.take k ++ [l[k]!] := by
  rw [List.take_succ_eq_append_getElem hk, getElem!_pos l k hk]
theorem stK_skip {l : List TxT} {k : Nat} (hk : k < l.length) (h : notCk l[k]! = false) : stK l (k + 1) = stK l k := by
  unfold stK; rw [takeS l hk, List.filter_append, List.filter_cons_of_neg (by rw [h]; simp), List.filter_nil, List.append_nil]
theorem stK_next {l : List TxT} {k : Nat} (hk : k < l.length) (h : notCk l[k]! = true) : stK l (k + 1) = stK l k ++ [l[k]!] := by
  unfold stK; rw [takeS l hk, List.filter_append, List.filter_cons_of_pos h, List.filter_nil]
theorem stK_all (l : List TxT) : stK l l.length = l.filter notCk := by unfold stK; rw [List.take_length]
theorem stK_le (l : List TxT) (k : Nat) : (stK l k).length ≤ k := by
  unfold stK; exact Nat.le_trans (List.length_filter_le _ _) (by rw [List.length_take]; omega)
/-- the list that Steps makes, behind the world W: m transactions, those of xs -/
structure LsR (RR : World → Nat → Nat → Prop) (B : Nat) (xs : List TxT) (A : Option Addr) (c : Nat) (wr : World) : Prop where
  r : ∃ Hs : List TxH, wr.ownsRow B 33 16 (.slice A xs.length c) xs.length (Hs.flatMap encTx) ∧ Hs.length = xs.length ∧ ∀ j, j < xs.length → TxAt wr (fun b => RR wr B b ∧ offRow A b) Hs[j]! xs[j]!
theorem LsR.nil {RR : World → Nat → Nat → Prop} {B : Nat} {wr : World} : LsR RR B [] none 0 wr := ⟨⟨[], World.ownsRow_nil _ _ _ _, rfl, fun j hj => absurd hj (by simp)⟩⟩
theorem LsR.below {RR : World → Nat → Nat → Prop} (K : RKind RR) {B : Nat} {xs : List TxT} {A : Option Addr} {c : Nat} {wr w6 : World} (H : LsR RR B xs A c wr) (hb : Below wr.heap.size wr w6) : LsR RR B xs A c w6 := by
  obtain ⟨Hs, h1, h2, h3⟩ := H.r
  exact ⟨⟨Hs, own_later h1 hb, h2, fun j hj => (h3 j hj).fr kTxOk (Fr.of_below (own := []) hb) (fun b hlt h => ⟨by simp, K.fr hlt h.1 (Fr.of_below (own := []) hb) (by simp) (Nat.le_refl _), h.2⟩)⟩⟩
theorem LsR.mono {RR : World → Nat → Nat → Prop} (K : RKind RR) {B B' : Nat} {xs : List TxT} {A : Option Addr} {c : Nat} {wr : World} (H : LsR RR B xs A c wr) (hB : B' ≤ B) : LsR RR B' xs A c wr := by
  obtain ⟨Hs, h1, h2, h3⟩ := H.r
  exact ⟨⟨Hs, own_mono h1 hB, h2, fun j hj => (h3 j hj).fr kTxOk (Fr.refl [] wr) (fun b hlt h => ⟨by simp, K.fr hlt h.1 (Fr.refl [] wr) (by simp) hB, h.2⟩)⟩⟩
/-- one more: its parts lie in blocks made behind wr, its row is appended -/
theorem LsR.step {RR : World → Nat → Nat → Prop} (K : RKind RR) {B : Nat} {xs : List TxT} {x : TxT} {A : Option Addr} {c : Nat} {wr w6 w7 w8 : World} (hb : Below wr.heap.size wr w6) {h6 : TxH} (ht : TxAt w6 (fun b => wr.heap.size ≤ b ∧ RR w6 B b) h6 x) (hb7 : Below w6.heap.size w6 w7) {A' : Option Addr} {c' : Nat} {Hs : List TxH}
    (hr : wr.ownsRow B 33 16 (.slice A xs.length c) xs.length (Hs.flatMap encTx)) (hHl : Hs.length = xs.length) (hHt : ∀ j, j < xs.length → TxAt wr (fun b => RR wr B b ∧ offRow A b) Hs[j]! xs[j]!)
    (hown : w8.ownsRow B 33 16 (.slice A' (xs.length + 1) c') (xs.length + 1) ((Hs ++ [h6]).flatMap encTx)) (hon : OnT A A' w7 w8) : LsR RR B (xs ++ [x]) A' c' w8 := by
  have hb67 : Below wr.heap.size wr w7 := hb.trans (hb7.mono hb.size)
  obtain ⟨own, hf, hk, hoA⟩ := hon.keep
  have hAlt : ∀ b, wr.heap.size ≤ b → offRow A b := fun b hb o e => by
    rcases own_at hr with ⟨e2, _⟩ | ⟨g2, cur, e2, _, h3, _⟩
    · rw [e2] at e; cases e
    · rw [e2] at e; injection e with e; injection e with e3 _
      have := (Array.getElem?_eq_some_iff.1 h3).1; omega
  have hF : Fr own wr w8 := ⟨hf.os.trans hb67.os, hf.tape.trans hb67.tape, hf.output.trans hb67.output, Nat.le_trans hb67.size hf.size, fun g hg hn => (hf.block g (Nat.lt_of_lt_of_le hg hb67.size) hn).trans (hb67.block g hg)⟩
  have mv : ∀ b, b < wr.heap.size → (RR wr B b ∧ offRow A b) → b ∉ own ∧ RR w8 B b ∧ offRow A' b := fun b hlt h => by
    have h1 := hk b (Nat.lt_of_lt_of_le hlt hb67.size) h.2
    exact ⟨h1.1, K.fr hlt h.1 hF h1.1 (Nat.le_refl _), h1.2⟩
  refine ⟨⟨Hs ++ [h6], by rw [List.length_append]; exact hown, by rw [List.length_append, List.length_append, hHl]; rfl, fun j hj => ?_⟩⟩
  by_cases e : j < xs.length
  · rw [nth_snoc _ _ _ (by rw [hHl]; exact e), nth_snoc _ _ _ e]
    exact (hHt j e).fr kTxOk hF mv
  · obtain rfl : j = xs.length := by rw [List.length_append] at hj; simp at hj; omega
    rw [show (Hs ++ [h6])[xs.length]! = h6 by have := nth_last Hs h6; rw [hHl] at this; exact this, nth_last]
    have hFb := Fr.of_below (own := []) hb7
    refine (ht.fr kTxOk (R' := fun b => wr.heap.size ≤ b ∧ RR w7 B b) hFb (fun b hlt h => ⟨by simp, h.1, K.fr hlt h.2 hFb (by simp) (Nat.le_refl _)⟩)).fr kTxOk hf (fun b hlt h => ?_)
    have h1 := hk b hlt (hAlt b h.1)
    exact ⟨h1.1, K.fr hlt h.2 hf h1.1 (Nat.le_refl _), h1.2⟩
/-- where the transactions lie that a loop of Steps reads -/
structure SrR (ls : List TxT) (A : Option Addr) (n c : Nat) (W : World) : Prop where
  r : ∃ Ls : List TxH, SlR W (fun _ => True) encTx 16 (A, n, c) Ls ∧ (∀ j, j < n → TxAt W (fun _ => True) Ls[j]! ls[j]!) ∧ ls.length = n ∧ n ≤ 1048576 ∧ ∀ j, j < n → TxOk 1048576 ls[j]!
theorem SrR.below {ls : List TxT} {A : Option Addr} {n c : Nat} {W W' : World} (H : SrR ls A n c W) (hb : Below W.heap.size W W') : SrR ls A n c W' := by
  obtain ⟨Ls, h1, h2, h3⟩ := H.r
  exact ⟨⟨Ls, h1.fr (Fr.of_below (own := []) hb) (fun b _ _ => ⟨by simp, trivial⟩) (fun _ => by simp [encTx]), fun j hj => (h2 j hj).fr kTxOk (Fr.of_below (own := []) hb) (fun b _ _ => ⟨by simp, trivial⟩), h3⟩⟩
/-- the contract of Steps -/
def StepsP (RR : World → Nat → Nat → Prop) (l : List TxT) (w : World) (e : Ending) (w' : World) : Prop := (∃ A c, e = .returned (.slice A l.length c) ∧ LsR RR w.heap.size l A c w') ∧ Below w.heap.size w w'
theorem stepsD_no {d : DlT} (h : rightE d ≠ 0) : stepsD d = [] := by unfold stepsD; rw [if_pos h]
theorem stepsD_ok {d : DlT} (h : rightE d = 0) : stepsD d = (stepsL d.t).filter notCk := by unfold stepsD; rw [if_neg (by simp [h])]
end Go.Proofs.YthpjneobmmpbnaaGreatDoor
namespace Go.Proofs.YthpjneobmmpbnaaGreatDoor
open Go.RowKit Go.MapKept Go.Maps
theorem SlR.tru {α : Type} [Inhabited α] {w w' : World} {R : Nat → Prop} {enc : α → List Value} {k : Nat} {h : SlC} {zs : List α} (H : SlR w R enc k h zs) (hb : Below w.heap.size w w') (hk : ∀ x, 0 < (enc x).length) : SlR w' (fun _ => True) enc k h zs := H.fr (Fr.of_below (own := []) hb) (fun b _ _ => ⟨by simp, trivial⟩) hk
theorem TxAt.tru {w w' : World} {R : Nat → Prop} {h : TxH} {t : TxT} (H : TxAt w R h t) (hb : Below w.heap.size w w') : TxAt w' (fun _ => True) h t := TrAt.fr kTxOk H (Fr.of_below (own := []) hb) (fun b _ _ => ⟨by simp, trivial⟩)
theorem OnT.bel {T : TypeId} {k n c B : Nat} {xs : List Value} {A A' : Option Addr} {w w' : World} (h : OnT A A' w w') (hr : w.ownsRow B T k (.slice A n c) n xs) (hB : B ≤ w.heap.size) : Below B w w' := by
  obtain ⟨own, hf, _, hoA⟩ := h.keep
  refine hf.below hB (fun g hg => ?_)
  have e := hoA g hg
  rcases own_at hr with ⟨e2, _⟩ | ⟨g2, cur, e2, h2, _⟩
  · rw [e2] at e; cases e
  · rw [e2] at e; injection e with e; injection e with e3 _; omega
/-- the list of those that take paths away -/
structure DsR (W : World) (ps : List ByteArray) (k : Nat) (A : Option Addr) (c : Nat) (wr : World) : Prop where
  b : Below W.heap.size W wr
  r : wr.ownsRow W.heap.size 33 16 (.slice A k c) k ((ps.take k).map delH |>.flatMap encTx)
theorem DsR.src {W : World} {ps : List ByteArray} {A : Option Addr} {c : Nat} {wr : World} (H : DsR W ps ps.length A c wr) (hn : ps.length ≤ 1048576) (hs : ∀ j, j < ps.length → ps[j]!.size ≤ 1048576) : SrR (ps.map delT) A ps.length c wr := by
  have hr := H.r
  rw [List.take_length] at hr
  have hg : ∀ j, j < ps.length → (ps.map delH)[j]! = delH ps[j]! ∧ (ps.map delT)[j]! = delT ps[j]! := fun j hj => by
    rw [getElem!_pos ps _ hj]
    refine ⟨?_, ?_⟩
    · rw [getElem!_pos (ps.map delH) j (by rw [List.length_map]; exact hj), List.getElem_map]
    · rw [getElem!_pos (ps.map delT) j (by rw [List.length_map]; exact hj), List.getElem_map]
  refine ⟨⟨ps.map delH, (own_slr hr (fun _ => rfl) (by simp)).tru (Below.refl _ _) (fun _ => by simp [encTx]), fun j hj => ?_, by simp, hn, fun j hj => ?_⟩⟩
  · rw [(hg j hj).1, (hg j hj).2]; exact del_at _ _ _
  · rw [(hg j hj).2]; exact del_ok (hs j hj)
/-- what the loop reads: the transactions of a delta -/
def SrcV (t : TxT) (w : World) (v : Value) (wx : World) : Prop := ∃ A n c, v = .slice A n c ∧ SrR (stepsL t) A n c wx ∧ Below w.heap.size w wx
/-- the second loop's state -/
structure StL (RR : World → Nat → Nat → Prop) (W : World) (ls : List TxT) (k : Nat) (v : Value) (wr : World) : Prop where
  b : Below W.heap.size W wr
  r : ∃ A c, v = .slice A (stK ls k).length c ∧ LsR RR W.heap.size (stK ls k) A c wr
set_option linter.unusedSimpArgs false in
set_option maxRecDepth 100000 in
set_option maxHeartbeats 20000000 in
theorem steps13_any {RR : World → Nat → Nat → Prop} (K : RKind RR) (hge : ∀ w B b, RR w B b → B ≤ b) (hcl : ∀ (t : TxT) (h : TxH) (w : World) (R : Nat → Prop), TxAt w R h t → TxOk 1048576 t → Calls Tryz.prog 56 #[txV h] w (fun e w' => (∃ h', e = .returned (txV h') ∧ TxAt w' (RR w' w.heap.size) h' t) ∧ Below w.heap.size w w'))
    (h : DlH) (d : DlT) (w : World) (R : Nat → Prop) (hd : DlAt w R h d) (hE : Env w) (hsm : DlSm 1048576 d) : Calls Tryz.prog 23 #[dlV h] w (StepsP RR (stepsD d) w) := by
  have hl := hd.2.loc
  obtain ⟨L, hL, hsub⟩ := hd.2.subs_at
  have hn := hl.1
  have hlen := hd.2.len
  have htop := hsm.2.top
  have HRI := Lib.hid (fun (V : World) (hV : Below w.heap.size w V) => right13_any h d V (fun _ => True) ⟨hd.1, TxAt.tru hd.2 hV⟩ (hE.below (Nat.le_refl _) hV) hsm)
  have HTY := Lib.hid (show d.t.v.n.ty = h.t.n.ty by rw [hn])
  have HSUBS := Lib.hid (fun (V : World) (hV : Below w.heap.size w V) => (show SrR d.t.subs h.t.s.1 h.t.s.2.1 h.t.s.2.2 V from ⟨⟨L, SlR.tru (enc := encTx) (k := 16) hL hV (fun _ => by simp [encTx]), fun j hj => TxAt.tru (hsub j hj) hV, hlen, by have := htop.2.2.2.2.2.2.1; rw [hlen] at this; exact this, fun j hj => hsm.2.subAt (j := j) (by rw [hlen]; exact hj)⟩⟩))
  have HONE := Lib.hid (fun (V : World) (hV : Below w.heap.size w V) => (show TxAt V (fun _ => True) h.t d.t from TxAt.tru hd.2 hV))
  have HPS := Lib.hid hl.2.2.2.2
  have HPN := Lib.hid (show d.t.v.paths.length ≤ 1048576 from htop.2.2.2.2.2.1)
  have HPZ := Lib.hid (show ∀ j, j < d.t.v.paths.length → d.t.v.paths[j]!.size ≤ 1048576 from htop.2.2.2.2.2.2.2.2.2)
  have HOK := Lib.hid hsm.2
  have HK := Lib.hid K; have HCL := Lib.hid hcl; have HGE := Lib.hid hge
  clear hl hL hsub hn hlen htop hd hE hsm K hcl hge
  have hb0 : Below w.heap.size w (w.alloc (.cells #[.int .i64 h.se, .int .i32 h.xi, .int .i64 h.zx, .int .i64 h.ti, .int .i32 h.t.n.ty, .string h.t.n.path, slV h.t.d, slV h.t.a, .int .i64 h.t.n.ow, .int .i32 h.t.n.ve, .int .i32 h.t.n.cr, .bool h.t.n.qh, .int .i64 h.t.n.qc, .int .i64 h.t.n.qb, .int .i64 h.t.n.si, .int .i32 h.t.n.st, slV h.t.i, slV h.t.p, .int .i32 h.t.n.co, slV h.t.s] 35)) := (Below.refl _ w).alloc (Nat.le_refl _) _
  have HG0 := Lib.hid (heap_s0 w (.cells #[.int .i64 h.se, .int .i32 h.xi, .int .i64 h.zx, .int .i64 h.ti, .int .i32 h.t.n.ty, .string h.t.n.path, slV h.t.d, slV h.t.a, .int .i64 h.t.n.ow, .int .i32 h.t.n.ve, .int .i32 h.t.n.cr, .bool h.t.n.qh, .int .i64 h.t.n.qc, .int .i64 h.t.n.qb, .int .i64 h.t.n.si, .int .i32 h.t.n.st, slV h.t.i, slV h.t.p, .int .i32 h.t.n.co, slV h.t.s] 35))
  have HZ0 := Lib.hid (sz1 w (.cells #[.int .i64 h.se, .int .i32 h.xi, .int .i64 h.zx, .int .i64 h.ti, .int .i32 h.t.n.ty, .string h.t.n.path, slV h.t.d, slV h.t.a, .int .i64 h.t.n.ow, .int .i32 h.t.n.ve, .int .i32 h.t.n.cr, .bool h.t.n.qh, .int .i64 h.t.n.qc, .int .i64 h.t.n.qb, .int .i64 h.t.n.si, .int .i32 h.t.n.st, slV h.t.i, slV h.t.p, .int .i32 h.t.n.co, slV h.t.s] 35))
  have HB := Lib.hid hb0
  clear hb0
  go_enter Tryz.func23, Tryz.ntmps23
  go_upto_region 1 with fail
  generalize w.alloc (.cells #[.int .i64 h.se, .int .i32 h.xi, .int .i64 h.zx, .int .i64 h.ti, .int .i32 h.t.n.ty, .string h.t.n.path, slV h.t.d, slV h.t.a, .int .i64 h.t.n.ow, .int .i32 h.t.n.ve, .int .i32 h.t.n.cr, .bool h.t.n.qh, .int .i64 h.t.n.qc, .int .i64 h.t.n.qb, .int .i64 h.t.n.si, .int .i32 h.t.n.st, slV h.t.i, slV h.t.p, .int .i32 h.t.n.co, slV h.t.s] 35) = W at *
  have g0 := HG0.out
  have HX4 := Lib.hid (fun (V : World) (hV : Below W.heap.size W V) => (show V.rangeAt w.heap.size 4 (encTx h.t) from rangeAt_heapC (pre := [.int .i64 h.se, .int .i32 h.xi, .int .i64 h.zx, .int .i64 h.ti]) (mid := encTx h.t) (post := []) ((hV.block _ (by have := HZ0.out; omega)).trans HG0.out) rfl rfl))
  have HD4 := Lib.hid (fun (V : World) (hV : Below W.heap.size W V) => (show V.cell? ⟨w.heap.size, 4, none⟩ = some (.int .i32 h.t.n.ty) by rw [cellH ((hV.block _ (by have := HZ0.out; omega)).trans HG0.out)]; rfl))
  have HD17 := Lib.hid (fun (V : World) (hV : Below W.heap.size W V) => (show V.cell? ⟨w.heap.size, 17, none⟩ = some (slV h.t.p) by rw [cellH ((hV.block _ (by have := HZ0.out; omega)).trans HG0.out)]; rfl))
  have HD19 := Lib.hid (fun (V : World) (hV : Below W.heap.size W V) => (show V.cell? ⟨w.heap.size, 19, none⟩ = some (slV h.t.s) by rw [cellH ((hV.block _ (by have := HZ0.out; omega)).trans HG0.out)]; rfl))

  have hri := (HRI.out W HB.out)
  go_wp2_with (first
    | (apply wpList_loadRow 35 35; exact rfl; exact rfl; exact rfl; (first | assumption | (refine heap_under ?_; assumption) | (exact heap_s0 _ _) | (exact heap_s1 _ _ _) | (exact heap_under (heap_s0 _ _))); exact undDl; exact rfl; exact infDl)
    | fail)
  refine hri.mono ?_
  rintro e w1 ⟨rfl, hb1⟩
  have HB1 := Lib.hid hb1
  clear hri hb1 g0 HRI
  by_cases hr0 : rightE d = 0
  case neg =>
    have HV := Lib.hid (stepsD_no hr0)
    generalize rightE d = x at *
    have d1 : (x != 0) = true := bne_iff_ne.2 hr0
    clear hr0
    go_wp2_with fail
    go_ret
    exact ⟨⟨none, 0, by rw [HV.out]; rfl, by rw [HV.out]; exact LsR.nil⟩, HB.out.trans (HB1.out.mono HB.out.size)⟩
  rw [hr0]
  have HV := Lib.hid (stepsD_ok hr0)
  clear hr0
  have y1 := HX4.out w1 HB1.out
  have HG3 := Lib.hid (heap_s0 w1 (.cells #[.int .i32 h.t.n.ty, .string h.t.n.path, slV h.t.d, slV h.t.a, .int .i64 h.t.n.ow, .int .i32 h.t.n.ve, .int .i32 h.t.n.cr, .bool h.t.n.qh, .int .i64 h.t.n.qc, .int .i64 h.t.n.qb, .int .i64 h.t.n.si, .int .i32 h.t.n.st, slV h.t.i, slV h.t.p, .int .i32 h.t.n.co, slV h.t.s] 33))
  have HZ3 := Lib.hid (sz1 w1 (.cells #[.int .i32 h.t.n.ty, .string h.t.n.path, slV h.t.d, slV h.t.a, .int .i64 h.t.n.ow, .int .i32 h.t.n.ve, .int .i32 h.t.n.cr, .bool h.t.n.qh, .int .i64 h.t.n.qc, .int .i64 h.t.n.qb, .int .i64 h.t.n.si, .int .i32 h.t.n.st, slV h.t.i, slV h.t.p, .int .i32 h.t.n.co, slV h.t.s] 33))
  have hb3 : Below w1.heap.size w1 (w1.alloc (.cells #[.int .i32 h.t.n.ty, .string h.t.n.path, slV h.t.d, slV h.t.a, .int .i64 h.t.n.ow, .int .i32 h.t.n.ve, .int .i32 h.t.n.cr, .bool h.t.n.qh, .int .i64 h.t.n.qc, .int .i64 h.t.n.qb, .int .i64 h.t.n.si, .int .i32 h.t.n.st, slV h.t.i, slV h.t.p, .int .i32 h.t.n.co, slV h.t.s] 33)) := (Below.refl _ w1).alloc (Nat.le_refl _) _
  have HB2 := Lib.hid (HB1.out.trans (hb3.mono HB1.out.size))
  clear hb3
  go_upto_region 4 with (first
    | (apply wpList_loadMid 33; exact rfl; exact rfl; exact rfl; exact (by assumption); exact undTx; exact rfl; exact infTx)
    | fail)
  generalize w1.alloc (.cells #[.int .i32 h.t.n.ty, .string h.t.n.path, slV h.t.d, slV h.t.a, .int .i64 h.t.n.ow, .int .i32 h.t.n.ve, .int .i32 h.t.n.cr, .bool h.t.n.qh, .int .i64 h.t.n.qc, .int .i64 h.t.n.qb, .int .i64 h.t.n.si, .int .i32 h.t.n.st, slV h.t.i, slV h.t.p, .int .i32 h.t.n.co, slV h.t.s] 33) = W2 at *
  clear y1
  have y4 := HD4.out W2 HB2.out
  go_upto_block 0 with fail
  clear y4
  have HB3 := Lib.hid (HB.out.trans (HB2.out.mono HB.out.size))
  have HO1 := Lib.hid (show SrR [d.t] (some ⟨w1.heap.size, 0, none⟩) 1 1 W2 from by
    refine ⟨⟨[h.t], ⟨rfl, ⟨fun e => (by cases e), Nat.le_refl _⟩, fun _ => ⟨w1.heap.size, 0, rfl, trivial, fun j hj i u hu => ?_⟩⟩, fun j hj => ?_, rfl, by decide, fun j hj => ?_⟩⟩
    · obtain rfl : j = 0 := by simp at hj; omega
      exact rangeAt_heapC (pre := []) (mid := encTx h.t) (post := []) HG3.out rfl rfl i u hu
    · obtain rfl : j = 0 := by omega
      exact HONE.out W2 HB3.out
    · obtain rfl : j = 0 := by omega
      exact HOK.out)
  have y19 := HD19.out W2 HB2.out
  have y17 := HD17.out W2 HB2.out
  have HTYN := Lib.hid (rfl : h.t.n.ty = h.t.n.ty)
  clear HG3
  go_cut [3, 5] from 12 to 41 (fun v _ wx => SrcV d.t w v wx)
  case first =>
    generalize h.t.n.ty = ty at *
    by_cases h14 : ty = 14
    · have HX := Lib.hid (show stepsL d.t = d.t.subs by unfold stepsL; rw [HTY.out, if_pos h14])
      have b1 : (ty == 14) = true := by rw [h14]; rfl
      clear h14
      go_wp2_with fail
      go_meet
      exact ⟨_, _, _, rfl, by rw [HX.out]; exact HSUBS.out W2 HB3.out, HB3.out⟩
    have b1 : (ty == 14) = false := beq_eq_false_iff_ne.2 h14
    by_cases h11 : ty = -11
    · have HX := Lib.hid (show stepsL d.t = d.t.v.paths.map delT by unfold stepsL; rw [HTY.out, if_neg h14, if_pos h11])
      have b2 : (ty == -11) = true := by rw [h11]; rfl
      clear h14 h11
      go_wp2_with fail
      have HPL := Lib.hid (show d.t.v.paths.length = h.t.p.2.1 from HPS.out.len)
      go_loopw [3, 5, 29] (fun v _ i wr => ∃ (k : Nat) (A : Option Addr) (c : Nat), i = .int .i64 ↑k ∧ k ≤ h.t.p.2.1 ∧ v = .slice A k c ∧ DsR W2 d.t.v.paths k A c wr) (fun _ _ i _ => h.t.p.2.1 - (RowKit.intOf i).toNat)
      case atStart => exact ⟨0, none, 0, rfl, Nat.zero_le _, rfl, ⟨Below.refl _ _, World.ownsRow_nil _ _ _ _⟩⟩
      case round =>
      obtain ⟨k, A, c, rfl, hk, rfl, hR⟩ := hrel
      have HR := Lib.hid hR
      clear hR
      have hpn := HPN.out
      rw [HPL.out] at hpn
      by_cases hlt : k < h.t.p.2.1
      · obtain ⟨b, off, ea, _, hca⟩ := HPS.out.2.2 (Nat.lt_of_le_of_lt (Nat.zero_le _) hlt)
        have y5 : wr.cell? ⟨b, off + k, none⟩ = some (.string d.t.v.paths[k]!) := by
          have := keep1 (hca k hlt 0 (.string d.t.v.paths[k]!) (by simp [encStr])) (HB3.out.trans (HR.out.b.mono HB3.out.size))
          rwa [show off + k * 1 + 0 = off + k by omega] at this
        have hki : (k : Int) < (h.t.p.2.1 : Int) := by omega
        have hk0 : (0 : Int) ≤ (k : Int) := by omega
        have hsl : slV h.t.p = .slice (some ⟨b, off, none⟩) h.t.p.2.1 h.t.p.2.2 := by rw [← ea]
        rw [hsl]
        have HSL := Lib.hid hsl
        have HTK := Lib.hid (show ((d.t.v.paths.take (k + 1)).map delH).flatMap encTx = ((d.t.v.paths.take k).map delH ++ [delH d.t.v.paths[k]!]).flatMap encTx by rw [takeS _ (by rw [HPL.out]; exact hlt), List.map_append]; rfl)
        have HLK := Lib.hid (show ((d.t.v.paths.take k).map delH).length = k by rw [List.length_map, List.length_take]; have := HPL.out; omega)
        have HOW := Lib.hid (own_later HR.out.r (show Below wr.heap.size wr (wr.alloc (.cells (encTx (delH d.t.v.paths[k]!)).toArray 33)) from (Below.refl _ wr).alloc (Nat.le_refl _) _))
        have HX7 := Lib.hid (show (wr.alloc (.cells (encTx (delH d.t.v.paths[k]!)).toArray 33)).rangeAt wr.heap.size 0 (encTx (delH d.t.v.paths[k]!)) from rangeAt_heapC (pre := []) (mid := encTx (delH d.t.v.paths[k]!)) (post := []) (heap_s0 wr _) (by simp) rfl)
        have HSZ := Lib.hid (show W2.heap.size ≤ (wr.alloc (.cells (encTx (delH d.t.v.paths[k]!)).toArray 33)).heap.size from Nat.le_trans HR.out.b.size (by rw [sz1]; exact Nat.le_succ _))
        have HBN := Lib.hid (show Below W2.heap.size W2 (wr.alloc (.cells (encTx (delH d.t.v.paths[k]!)).toArray 33)) from HR.out.b.alloc HR.out.b.size _)
        clear hca ea hsl
        generalize d.t.v.paths[k]! = pk at *
        go_upto_region 12 with fail
        clear y5
        go_wp2_with (first
          | (at_builtin; refine wpList_appT elemBTx HOW.out HLK.out (delH pk) wr.heap.size rfl _ _ rfl ?hx8 ?hy8 HX7.out (by omega) HSZ.out ?hk8)
          | fail)
        (try case hx8 => rfl)
        (try case hy8 => rfl)
        case hk8 =>
        intro A8 c8 w8 hv8 hon8
        have HRN := Lib.hid (show DsR W2 d.t.v.paths (k + 1) A8 c8 w8 from ⟨HBN.out.trans ((OnT.bel hon8 HOW.out HSZ.out).mono (Nat.le_refl _)), by rw [HTK.out, List.flatMap_append, List.flatMap_singleton]; simpa using hv8⟩)
        clear hv8 hon8 HR HX7 HOW HSZ HBN HTK HLK
        go_wp2_with fail
        go_roundw
        case rel => ((try rw [← HSL.out]); exact ⟨k + 1, A8, c8, by go_num, by omega, rfl, HRN.out⟩)
        case measure => simp [RowKit.intOf]; omega
      · obtain rfl : k = d.t.v.paths.length := by have := HPL.out; omega
        have hki : ¬ ((d.t.v.paths.length : Int) < (h.t.p.2.1 : Int)) := by omega
        have HSRC := Lib.hid (HR.out.src HPN.out HPZ.out)
        have HBF := Lib.hid (HB3.out.trans (HR.out.b.mono HB3.out.size))
        clear HR
        go_wp2_with fail
        go_meet
        exact ⟨_, _, _, rfl, by rw [HX.out]; exact HSRC.out, HBF.out⟩
    have b2 : (ty == -11) = false := beq_eq_false_iff_ne.2 h11
    by_cases h1 : ty = -1
    · have HX := Lib.hid (show stepsL d.t = [] by unfold stepsL; rw [HTY.out, if_neg h14, if_neg h11, if_pos (Or.inl h1)])
      have b3 : (ty == -1) = true := by rw [h1]; rfl
      clear h14 h11 h1
      go_wp2_with fail
      go_ret
      exact ⟨⟨none, 0, by rw [HV.out, HX.out]; rfl, by rw [HV.out, HX.out]; exact LsR.nil⟩, HB3.out⟩
    have b3 : (ty == -1) = false := beq_eq_false_iff_ne.2 h1
    by_cases h10 : ty = -10
    · have HX := Lib.hid (show stepsL d.t = [] by unfold stepsL; rw [HTY.out, if_neg h14, if_neg h11, if_pos (Or.inr h10)])
      have b4 : (ty == -10) = true := by rw [h10]; rfl
      clear h14 h11 h1 h10
      go_wp2_with fail
      go_ret
      exact ⟨⟨none, 0, by rw [HV.out, HX.out]; rfl, by rw [HV.out, HX.out]; exact LsR.nil⟩, HB3.out⟩
    have b4 : (ty == -10) = false := beq_eq_false_iff_ne.2 h10
    have HX := Lib.hid (show stepsL d.t = [d.t] by unfold stepsL; rw [HTY.out, if_neg h14, if_neg h11, if_neg (by intro h; rcases h with h | h; exact h1 h; exact h10 h)])
    clear h14 h11 h1 h10
    go_wp2_with fail
    go_meet
    exact ⟨_, _, _, rfl, by rw [HX.out]; exact HO1.out, HB3.out⟩
  case rest =>
  obtain ⟨A0, n, c0, rfl, hsr, hbx⟩ := hcut
  have HBX := Lib.hid hbx
  obtain ⟨Ls, hLs⟩ := hsr.r
  have HLS := Lib.hid hLs
  clear hsr hbx hLs HSUBS HONE HPS HPN HPZ HOK HX4 HD4 HD17 HD19 HO1
  go_wp2_with fail
  go_loopw [6, 8, 44] (fun v _ i wr => ∃ k : Nat, i = .int .i64 ↑k ∧ k ≤ n ∧ StL RR wc (stepsL d.t) k v wr) (fun _ _ i _ => n - (RowKit.intOf i).toNat)
  case atStart => exact ⟨0, rfl, Nat.zero_le _, ⟨Below.refl _ _, none, 0, rfl, LsR.nil⟩⟩
  case round =>
  obtain ⟨k, rfl, hk, hR⟩ := hrel
  obtain ⟨hbR, A, c, rfl, hls⟩ := hR
  have HBR := Lib.hid hbR; have HLR := Lib.hid hls
  clear hbR hls
  have HNM := Lib.hid HLS.out.2.2.2.1
  have HLL := Lib.hid HLS.out.2.2.1
  by_cases hlt : k < n
  · obtain ⟨b, off, ea, _, hca⟩ := HLS.out.1.2.2 (Nat.lt_of_le_of_lt (Nat.zero_le _) hlt)
    have ea : A0 = some ⟨b, off, none⟩ := ea
    subst ea
    have y6 : wr.rangeAt b (off + k * 16) (encTx Ls[k]!) := fun i u hu => keep1 (hca k hlt i u hu) HBR.out
    have HKL := Lib.hid (show k < (stepsL d.t).length by rw [HLL.out]; exact hlt)
    have HCK := Lib.hid (fun (V : World) (hV : Below wc.heap.size wc V) => HCL.out (stepsL d.t)[k]! Ls[k]! V _ (TxAt.tru (HLS.out.2.1 k hlt) hV) (HLS.out.2.2.2.2 k hlt))
    have HNK := Lib.hid (show notCk (stepsL d.t)[k]! = (Ls[k]!.n.ty != 13) by unfold notCk; rw [(HLS.out.2.1 k hlt).loc.1])
    have HMM := Lib.hid (show (stK (stepsL d.t) k).length ≤ 1048576 by have h1 := stK_le (stepsL d.t) k; have h2 := HNM.out; omega)
    have hnm := HNM.out
    have hki : (k : Int) < (n : Int) := by omega
    have hk0 : (0 : Int) ≤ (k : Int) := by omega
    clear hca
    generalize Ls[k]! = hj at *
    have g5 := heap_s0 wr (.cells #[.int .i32 hj.n.ty, .string hj.n.path, slV hj.d, slV hj.a, .int .i64 hj.n.ow, .int .i32 hj.n.ve, .int .i32 hj.n.cr, .bool hj.n.qh, .int .i64 hj.n.qc, .int .i64 hj.n.qb, .int .i64 hj.n.si, .int .i32 hj.n.st, slV hj.i, slV hj.p, .int .i32 hj.n.co, slV hj.s] 33)
    have HB5 := Lib.hid (show Below wr.heap.size wr (wr.alloc (.cells #[.int .i32 hj.n.ty, .string hj.n.path, slV hj.d, slV hj.a, .int .i64 hj.n.ow, .int .i32 hj.n.ve, .int .i32 hj.n.cr, .bool hj.n.qh, .int .i64 hj.n.qc, .int .i64 hj.n.qb, .int .i64 hj.n.si, .int .i32 hj.n.st, slV hj.i, slV hj.p, .int .i32 hj.n.co, slV hj.s] 33)) from (Below.refl _ wr).alloc (Nat.le_refl _) _)
    cases h13 : (hj.n.ty != 13) with
    | false =>
      have HRN := Lib.hid (show StL RR wc (stepsL d.t) (k + 1) (.slice A (stK (stepsL d.t) k).length c) (wr.alloc (.cells #[.int .i32 hj.n.ty, .string hj.n.path, slV hj.d, slV hj.a, .int .i64 hj.n.ow, .int .i32 hj.n.ve, .int .i32 hj.n.cr, .bool hj.n.qh, .int .i64 hj.n.qc, .int .i64 hj.n.qb, .int .i64 hj.n.si, .int .i32 hj.n.st, slV hj.i, slV hj.p, .int .i32 hj.n.co, slV hj.s] 33)) from ⟨HBR.out.trans (HB5.out.mono HBR.out.size), A, c, by rw [stK_skip HKL.out (by rw [HNK.out, h13])], by rw [stK_skip HKL.out (by rw [HNK.out, h13])]; exact HLR.out.below HK.out HB5.out⟩)
      go_wp2_with (first
        | (apply wpList_loadMid 33; exact rfl; exact rfl; exact rfl; exact (by assumption); exact undTx; exact rfl; exact infTx)
        | (apply wpList_storeTop 33 33; exact rfl; exact rfl; exact rfl; (first | (with_reducible rfl) | (exact sz1 _ _) | (exact sz2 _ _ _)); exact rfl; exact infTx; exact rfl; (first | exact oneTx _ | simp [Value.oneCell']))
        | (apply wpList_loadRow 33 33; exact rfl; exact rfl; exact rfl; (first | assumption | (refine heap_under ?_; assumption) | (exact heap_s0 _ _) | (exact heap_s1 _ _ _) | (exact heap_under (heap_s0 _ _))); exact undTx; exact rfl; exact infTx)
        | fail)
      go_roundw
      case rel => exact ⟨k + 1, by go_num, by omega, HRN.out⟩
      case measure => simp [RowKit.intOf]; omega
    | true =>
      have HNX := Lib.hid (show stK (stepsL d.t) (k + 1) = stK (stepsL d.t) k ++ [(stepsL d.t)[k]!] from stK_next HKL.out (by rw [HNK.out, h13]))
      go_upto_region 22 with (first
        | (apply wpList_loadMid 33; exact rfl; exact rfl; exact rfl; exact (by assumption); exact undTx; exact rfl; exact infTx)
        | (apply wpList_storeTop 33 33; exact rfl; exact rfl; exact rfl; (first | (with_reducible rfl) | (exact sz1 _ _) | (exact sz2 _ _ _)); exact rfl; exact infTx; exact rfl; (first | exact oneTx _ | simp [Value.oneCell']))
        | (apply wpList_loadRow 33 33; exact rfl; exact rfl; exact rfl; (first | assumption | (refine heap_under ?_; assumption) | (exact heap_s0 _ _) | (exact heap_s1 _ _ _) | (exact heap_under (heap_s0 _ _))); exact undTx; exact rfl; exact infTx)
        | fail)
      generalize wr.alloc (.cells #[.int .i32 hj.n.ty, .string hj.n.path, slV hj.d, slV hj.a, .int .i64 hj.n.ow, .int .i32 hj.n.ve, .int .i32 hj.n.cr, .bool hj.n.qh, .int .i64 hj.n.qc, .int .i64 hj.n.qb, .int .i64 hj.n.si, .int .i32 hj.n.st, slV hj.i, slV hj.p, .int .i32 hj.n.co, slV hj.s] 33) = w5 at *
      clear y6
      go_wp2_with (first
        | (apply wpList_loadRow 33 33; exact rfl; exact rfl; exact rfl; (first | assumption | (refine heap_under ?_; assumption) | (exact heap_s0 _ _) | (exact heap_s1 _ _ _) | (exact heap_under (heap_s0 _ _))); exact undTx; exact rfl; exact infTx)
        | fail)
      refine (HCK.out w5 (HBR.out.trans (HB5.out.mono HBR.out.size))).mono ?_
      rintro e w6 ⟨⟨h6, rfl, ht6⟩, hb6⟩
      have HB6 := Lib.hid (HB5.out.trans (hb6.mono HB5.out.size))
      have HT6 := Lib.hid (TrAt.fr kTxOk (R' := fun b => wr.heap.size ≤ b ∧ RR w6 wc.heap.size b) ht6 (Fr.refl [] w6) (fun b hlt h => ⟨by simp, Nat.le_trans HB5.out.size (HGE.out _ _ _ h), HK.out.fr hlt h (Fr.refl [] w6) (by simp) (Nat.le_trans HBR.out.size HB5.out.size)⟩))
      clear ht6 hb6 g5
      obtain ⟨Hs, hrow, hHl, hHt⟩ := HLR.out.r
      have hb7 : Below w6.heap.size w6 (w6.alloc (.cells (encTx h6).toArray 33)) := (Below.refl _ w6).alloc (Nat.le_refl _) _
      have HB7 := Lib.hid hb7
      have HX7 := Lib.hid (show (w6.alloc (.cells (encTx h6).toArray 33)).rangeAt w6.heap.size 0 (encTx h6) from rangeAt_heapC (pre := []) (mid := encTx h6) (post := []) (heap_s0 w6 _) (by simp) rfl)
      have HRW := Lib.hid hrow; have HHL := Lib.hid hHl; have HHT := Lib.hid hHt
      have HOW := Lib.hid (own_later hrow (HB6.out.trans (hb7.mono HB6.out.size)))
      have HSZ := Lib.hid (show wc.heap.size ≤ (w6.alloc (.cells (encTx h6).toArray 33)).heap.size from Nat.le_trans HBR.out.size (Nat.le_trans HB6.out.size hb7.size))
      clear hrow hHl hHt hb7
      go_wp2_with (first
        | (at_builtin; refine wpList_appT elemBTx HOW.out HHL.out h6 w6.heap.size rfl _ _ rfl ?hx9 ?hy9 HX7.out HMM.out HSZ.out ?hk9)
        | fail)
      (try case hx9 => rfl)
      (try case hy9 => rfl)
      case hk9 =>
      intro A9 c9 w9 hv9 hon9
      have HRN := Lib.hid (LsR.step HK.out HB6.out HT6.out HB7.out HRW.out HHL.out HHT.out (by rw [List.flatMap_append, List.flatMap_singleton]; exact hv9) hon9)
      have HBN := Lib.hid (HBR.out.trans (((HB6.out.trans (HB7.out.mono HB6.out.size)).mono HBR.out.size).trans (OnT.bel hon9 HOW.out HSZ.out)))
      clear hv9 hon9
      go_wp2_with fail
      go_roundw
      case rel =>
        refine ⟨k + 1, by go_num, by omega, ⟨HBN.out, A9, c9, ?_, ?_⟩⟩
        · rw [HNX.out, List.length_append]; rfl
        · rw [HNX.out]; exact HRN.out
      case measure => simp [RowKit.intOf]; omega
  · obtain rfl : k = n := by omega
    have hki : ¬ ((k : Int) < (k : Int)) := by omega
    have HFIN := Lib.hid (show stK (stepsL d.t) k = stepsD d by rw [HV.out, ← HLL.out, stK_all])
    rw [HFIN.out] at HLR
    have HF2 := Lib.hid (HLR.out.mono HK.out HBX.out.size)
    have HF3 := Lib.hid (HBX.out.trans (HBR.out.mono HBX.out.size))
    rw [HFIN.out]
    clear HLR
    go_wp2_with fail
    go_ret
    exact ⟨⟨A, c, rfl, HF2.out⟩, HF3.out⟩
/-- with the copies in blocks made behind -/
abbrev geK : World → Nat → Nat → Prop := fun _ B b => B ≤ b
theorem steps_any (h : DlH) (d : DlT) (w : World) (R : Nat → Prop) (hd : DlAt w R h d) (hE : Env w) (hsm : DlSm 1048576 d) : Calls Tryz.prog 23 #[dlV h] w (StepsP geK (stepsD d) w) :=
  steps13_any (RR := geK) kGe (fun _ _ _ h => h) (fun t h w R ht hok => cloned_any t h w R ht hok) h d w R hd hE hsm
end Go.Proofs.YthpjneobmmpbnaaGreatDoor
namespace Go.Proofs.YthpjneobmmpbnaaGreatDoor
open Go.RowKit Go.MapKept Go.Maps
/-- the loop's state: the first k parts are copied -/
structure CtR (w : World) (h' : TxH) (v : TxF) (subs : List TxT) (Z : Array Value) (k : Nat) (A : Option Addr) (c : Nat) (wr : World) : Prop where
  s : CnSt w wr (encTx h').toArray Z 33
  l : locTx wr (fun b => NfR wr (w.heap.size + 2) b ∧ offRow A b) h' v
  r : ∃ Hs : List TxH, wr.ownsRow (w.heap.size + 2) 33 16 (.slice A k c) k (Hs.flatMap encTx) ∧ Hs.length = k ∧ ∀ j, j < k → TxAt wr (fun b => NfR wr (w.heap.size + 2) b ∧ offRow A b) Hs[j]! subs[j]!
theorem CtR.step {w : World} {h' : TxH} {v : TxF} {subs : List TxT} {Z : Array Value} {k : Nat} {A : Option Addr} {c : Nat} {wr w6 w7 w8 : World} (H : CtR w h' v subs Z k A c wr) (hb : Below wr.heap.size wr w6) {h6 : TxH} (ht : TxAt w6 (NfR w6 wr.heap.size) h6 subs[k]!) (hb7 : Below w6.heap.size w6 w7) {A' : Option Addr} {c' : Nat} {Hs : List TxH}
    (hr : wr.ownsRow (w.heap.size + 2) 33 16 (.slice A k c) k (Hs.flatMap encTx)) (hHl : Hs.length = k) (hHt : ∀ j, j < k → TxAt wr (fun b => NfR wr (w.heap.size + 2) b ∧ offRow A b) Hs[j]! subs[j]!)
    (hown : w8.ownsRow (w.heap.size + 2) 33 16 (.slice A' (k + 1) c') (k + 1) ((Hs ++ [h6]).flatMap encTx)) (hon : OnT A A' w7 w8) : CtR w h' v subs Z (k + 1) A' c' w8 := by
  have hb67 : Below wr.heap.size wr w7 := hb.trans (hb7.mono hb.size)
  have hs7 := H.s.call hb67
  obtain ⟨own, hf, hk, hoA⟩ := hon.keep
  have hA : ∀ g ∈ own, w.heap.size + 2 ≤ g := fun g hg => by
    have e := hoA g hg
    rcases own_at hr with ⟨e2, _⟩ | ⟨g2, cur, e2, h2, _⟩
    · rw [e2] at e; cases e
    · rw [e2] at e; injection e with e; injection e with e3 _; rw [← e3]; exact h2
  have hAlt : ∀ b, wr.heap.size ≤ b → offRow A b := fun b hb o e => by
    rcases own_at hr with ⟨e2, _⟩ | ⟨g2, cur, e2, _, h3, _⟩
    · rw [e2] at e; cases e
    · rw [e2] at e; injection e with e; injection e with e3 _
      have := (Array.getElem?_eq_some_iff.1 h3).1; omega
  have mv : ∀ b, b < wr.heap.size → (NfR wr (w.heap.size + 2) b ∧ offRow A b) → b ∉ own ∧ NfR w8 (w.heap.size + 2) b ∧ offRow A' b := fun b hlt h => by
    have h1 := hk b (Nat.lt_of_lt_of_le hlt hb67.size) h.2
    exact ⟨h1.1, (h.1.below hb67).fr hf h1.1 (Nat.le_refl _), h1.2⟩
  have hF : Fr own wr w8 := ⟨hf.os.trans hb67.os, hf.tape.trans hb67.tape, hf.output.trans hb67.output, Nat.le_trans hb67.size hf.size, fun g hg hn => (hf.block g (Nat.lt_of_lt_of_le hg hb67.size) hn).trans (hb67.block g hg)⟩
  refine ⟨hs7.fr hf (fun g hg => by have := hA g hg; omega), kTxOk.loc H.l hF mv, ⟨Hs ++ [h6], hown, by rw [List.length_append, hHl]; rfl, fun j hj => ?_⟩⟩
  by_cases e : j < k
  · rw [nth_snoc _ _ _ (by rw [hHl]; exact e)]
    exact (hHt j e).fr kTxOk hF mv
  · obtain rfl : j = k := by omega
    rw [show (Hs ++ [h6])[j]! = h6 by have := nth_last Hs h6; rw [hHl] at this; exact this]
    refine (ht.fr kTxOk (R' := NfR w7 wr.heap.size) (Fr.of_below (own := []) hb7) (fun b _ h => ⟨by simp, h.below hb7⟩)).fr kTxOk hf (fun b hlt h => ?_)
    have h1 := hk b hlt (hAlt b h.1)
    exact ⟨h1.1, h.fr hf h1.1 (by have := H.s.s; omega), h1.2⟩
def refCloneTxP (t : TxT) (w : World) (e : Ending) (w' : World) : Prop := (∃ h', e = .returned (txV h') ∧ TxAt w' (NfR w' w.heap.size) h' t) ∧ Below w.heap.size w w'
set_option linter.unusedSimpArgs false in
set_option maxRecDepth 100000 in
set_option maxHeartbeats 20000000 in
theorem refCloneTx_any : ∀ (t : TxT) (h : TxH) (w : World) (R : Nat → Prop), TxAt w R h t → TxOk 1048576 t → Calls Tryz.prog 36 #[txV h] w (refCloneTxP t w) := by
  refine Tr.ind ?_
  intro v subs ih h w R ht0 hok
  have ht : TxAt w (· < w.heap.size) h (.mk v subs) := ht0.more (fun b hb _ => hb)
  have hl := ht.loc
  obtain ⟨L, hL, hsub⟩ := ht.subs_at
  have hlen := ht.len
  have hsm := hok.top
  have HS := Lib.hid (CnSt.start w #[.int .i32 h.n.ty, .string h.n.path, slV h.d, slV h.a, .int .i64 h.n.ow, .int .i32 h.n.ve, .int .i32 h.n.cr, .bool h.n.qh, .int .i64 h.n.qc, .int .i64 h.n.qb, .int .i64 h.n.si, .int .i32 h.n.st, slV h.i, slV h.p, .int .i32 h.n.co, slV h.s] #[.int .i32 0, .string ⟨#[]⟩, .slice none 0 0, .slice none 0 0, .int .i64 0, .int .i32 0, .int .i32 0, .bool false, .int .i64 0, .int .i64 0, .int .i64 0, .int .i32 0, .slice none 0 0, .slice none 0 0, .int .i32 0, .slice none 0 0] 33)
  have HZd := Lib.hid (fun (W : World) (hW : Below w.heap.size w W) => (hl.2.1.sl (fun _ => by simp [enc8])).belowMore hW hW.size)
  have HHd := Lib.hid hl.2.1.hd.1; have HLd := Lib.hid hl.2.1.len
  have HMd := Lib.hid (show h.d.2.1 ≤ 1048576 by have h1 := hsm.2.2.1; have h2 := hl.2.1.1; simp only [Tr.v, Tr.subs] at *; omega)
  have HZa := Lib.hid (fun (W : World) (hW : Below w.heap.size w W) => (hl.2.2.1.sl (fun _ => by simp [encAcl])).belowMore hW hW.size)
  have HHa := Lib.hid hl.2.2.1.hd.1; have HLa := Lib.hid hl.2.2.1.len
  have HMa := Lib.hid (show h.a.2.1 ≤ 1048576 by have h1 := hsm.2.2.2.1; have h2 := hl.2.2.1.1; simp only [Tr.v, Tr.subs] at *; omega)
  have HZi := Lib.hid (fun (W : World) (hW : Below w.heap.size w W) => (hl.2.2.2.1.sl (fun _ => by simp [encId])).belowMore hW hW.size)
  have HHi := Lib.hid hl.2.2.2.1.hd.1; have HLi := Lib.hid hl.2.2.2.1.len
  have HMi := Lib.hid (show h.i.2.1 ≤ 1048576 by have h1 := hsm.2.2.2.2.1; have h2 := hl.2.2.2.1.1; simp only [Tr.v, Tr.subs] at *; omega)
  have HZp := Lib.hid (fun (W : World) (hW : Below w.heap.size w W) => (hl.2.2.2.2.sl (fun _ => by simp [encStr])).belowMore hW hW.size)
  have HHp := Lib.hid hl.2.2.2.2.hd.1; have HLp := Lib.hid hl.2.2.2.2.len
  have HMp := Lib.hid (show h.p.2.1 ≤ 1048576 by have h1 := hsm.2.2.2.2.2.1; have h2 := hl.2.2.2.2.1; simp only [Tr.v, Tr.subs] at *; omega)
  have HSUB := Lib.hid hsub; have HLEN := Lib.hid (show subs.length = h.s.2.1 from hlen); have HN := Lib.hid hl.1
  have HIH := Lib.hid ih; have HOK := Lib.hid (fun k (hk : k < subs.length) => hok.subAt (j := k) hk)
  have HSB := Lib.hid (show h.s.2.1 ≤ 1048576 by have h1 := hsm.2.2.2.2.2.2.1; rw [hlen] at h1; exact h1)
  have HROW := Lib.hid hL
  clear ht0 ht hl hL hsub hlen hsm ih hok
  go_enter Tryz.func36, Tryz.ntmps36
  go_upto_region 1 with (first
    | (apply wpList_storeTop 33 33; exact rfl; exact rfl; exact rfl; (first | (with_reducible rfl) | (exact sz1 _ _) | (exact sz2 _ _ _) | (exact sz3 _ _ _ _)); exact rfl; exact infTx; exact rfl; simp [Value.oneCell'])
    | fail)
  generalize ((w.alloc (.cells #[.int .i32 h.n.ty, .string h.n.path, slV h.d, slV h.a, .int .i64 h.n.ow, .int .i32 h.n.ve, .int .i32 h.n.cr, .bool h.n.qh, .int .i64 h.n.qc, .int .i64 h.n.qb, .int .i64 h.n.si, .int .i32 h.n.st, slV h.i, slV h.p, .int .i32 h.n.co, slV h.s] 33)).alloc (.cells #[.int .i32 0, .string ⟨#[]⟩, .slice none 0 0, .slice none 0 0, .int .i64 0, .int .i32 0, .int .i32 0, .bool false, .int .i64 0, .int .i64 0, .int .i64 0, .int .i32 0, .slice none 0 0, .slice none 0 0, .int .i32 0, .slice none 0 0] 33)) = V0 at *
  generalize (Value.agg #[.int .i32 h.n.ty, .string h.n.path, slV h.d, slV h.a, .int .i64 h.n.ow, .int .i32 h.n.ve, .int .i32 h.n.cr, .bool h.n.qh, .int .i64 h.n.qc, .int .i64 h.n.qb, .int .i64 h.n.si, .int .i32 h.n.st, slV h.i, slV h.p, .int .i32 h.n.co, slV h.s]) = arg0 at *
  have y0 := HS.out.cell (i := 2) (v := slV h.d) rfl
  have hb0 : Below V0.heap.size V0 (V0.alloc (.cells #[] 5)) := (Below.refl _ V0).alloc (Nat.le_refl _) _
  have y0' := keep1 y0 hb0
  have HBA := Lib.hid hb0
  have HZZ := Lib.hid (HZd.out _ (HS.out.b.trans (hb0.mono HS.out.b.size)))
  have HOW := Lib.hid (own_empty (T := 5) (k := 1) V0)
  have hm9 := HMd.out
  clear hb0
  go_wp2_with (at_builtin; refine wpList_appB elemBByte rfl _ _ rfl V0.heap.size (some ⟨V0.heap.size, 0, none⟩) 0 0 [] ?hx0 HOW.out h.d.1 h.d.2.1 h.d.2.2 v.data ?hy0 HZZ.out HHd.out (by omega) HBA.out.size ?hk0)
  (try case hx0 => rfl)
  (try case hy0 => rfl)
  case hk0 =>
  intro A0 c0 w0 hr hb _
  replace hr : w0.ownsRow V0.heap.size 5 1 (.slice A0 h.d.2.1 c0) h.d.2.1 (v.data.flatMap enc8) := by simpa using hr
  have hbv : Below V0.heap.size V0 w0 := HBA.out.trans hb
  have HRd := Lib.hid (SlR.nown hr (fun _ => rfl) HLd.out HS.out.s)
  replace HS := Lib.hid (HS.out.call hbv)
  have z0 := HS.out.cell (i := 2) (v := slV h.d) rfl
  have f0 := HS.out.frz 2
  clear hr hb hbv HBA HZZ HOW hm9 y0 y0'
  go_upto_region 2 with fail
  replace HS := Lib.hid (HS.out.set 2 (.slice A0 h.d.2.1 c0))
  replace HS := Lib.hid (show CnSt w (w0.setCell ⟨w.heap.size, 2, none⟩ (.slice A0 h.d.2.1 c0)) #[.int .i32 h.n.ty, .string h.n.path, .slice A0 h.d.2.1 c0, slV h.a, .int .i64 h.n.ow, .int .i32 h.n.ve, .int .i32 h.n.cr, .bool h.n.qh, .int .i64 h.n.qc, .int .i64 h.n.qb, .int .i64 h.n.si, .int .i32 h.n.st, slV h.i, slV h.p, .int .i32 h.n.co, slV h.s] _ _ from HS.out)
  replace HRd := Lib.hid (HRd.out.nput (fun _ => by simp [enc8]) 2 (.slice A0 h.d.2.1 c0))
  generalize w0.setCell ⟨w.heap.size, 2, none⟩ (.slice A0 h.d.2.1 c0) = V1 at *
  clear z0 f0
  have y1 := HS.out.cell (i := 3) (v := slV h.a) rfl
  have hb0 : Below V1.heap.size V1 (V1.alloc (.cells #[] 110)) := (Below.refl _ V1).alloc (Nat.le_refl _) _
  have y1' := keep1 y1 hb0
  have HBA := Lib.hid hb0
  have HZZ := Lib.hid (HZa.out _ (HS.out.b.trans (hb0.mono HS.out.b.size)))
  have HOW := Lib.hid (own_empty (T := 110) (k := 3) V1)
  have hm9 := HMa.out
  clear hb0
  go_wp2_with (at_builtin; refine wpList_appB elemBAcl rfl _ _ rfl V1.heap.size (some ⟨V1.heap.size, 0, none⟩) 0 0 [] ?hx1 HOW.out h.a.1 h.a.2.1 h.a.2.2 v.acl ?hy1 HZZ.out HHa.out (by omega) HBA.out.size ?hk1)
  (try case hx1 => rfl)
  (try case hy1 => rfl)
  case hk1 =>
  intro A1 c1 w1 hr hb _
  replace hr : w1.ownsRow V1.heap.size 110 3 (.slice A1 h.a.2.1 c1) h.a.2.1 (v.acl.flatMap encAcl) := by simpa using hr
  have hbv : Below V1.heap.size V1 w1 := HBA.out.trans hb
  have HRa := Lib.hid (SlR.nown hr (fun _ => rfl) HLa.out HS.out.s)
  replace HS := Lib.hid (HS.out.call hbv)
  replace HRd := Lib.hid (HRd.out.nlater hbv (fun _ => by simp [enc8]))
  have z1 := HS.out.cell (i := 3) (v := slV h.a) rfl
  have f1 := HS.out.frz 3
  clear hr hb hbv HBA HZZ HOW hm9 y1 y1'
  go_upto_region 3 with fail
  replace HS := Lib.hid (HS.out.set 3 (.slice A1 h.a.2.1 c1))
  replace HS := Lib.hid (show CnSt w (w1.setCell ⟨w.heap.size, 3, none⟩ (.slice A1 h.a.2.1 c1)) #[.int .i32 h.n.ty, .string h.n.path, .slice A0 h.d.2.1 c0, .slice A1 h.a.2.1 c1, .int .i64 h.n.ow, .int .i32 h.n.ve, .int .i32 h.n.cr, .bool h.n.qh, .int .i64 h.n.qc, .int .i64 h.n.qb, .int .i64 h.n.si, .int .i32 h.n.st, slV h.i, slV h.p, .int .i32 h.n.co, slV h.s] _ _ from HS.out)
  replace HRd := Lib.hid (HRd.out.nput (fun _ => by simp [enc8]) 3 (.slice A1 h.a.2.1 c1))
  replace HRa := Lib.hid (HRa.out.nput (fun _ => by simp [encAcl]) 3 (.slice A1 h.a.2.1 c1))
  generalize w1.setCell ⟨w.heap.size, 3, none⟩ (.slice A1 h.a.2.1 c1) = V2 at *
  clear z1 f1
  have y2 := HS.out.cell (i := 12) (v := slV h.i) rfl
  have hb0 : Below V2.heap.size V2 (V2.alloc (.cells #[] 108)) := (Below.refl _ V2).alloc (Nat.le_refl _) _
  have y2' := keep1 y2 hb0
  have HBA := Lib.hid hb0
  have HZZ := Lib.hid (HZi.out _ (HS.out.b.trans (hb0.mono HS.out.b.size)))
  have HOW := Lib.hid (own_empty (T := 108) (k := 2) V2)
  have hm9 := HMi.out
  clear hb0
  go_wp2_with (at_builtin; refine wpList_appB elemBIdx rfl _ _ rfl V2.heap.size (some ⟨V2.heap.size, 0, none⟩) 0 0 [] ?hx2 HOW.out h.i.1 h.i.2.1 h.i.2.2 v.ids ?hy2 HZZ.out HHi.out (by omega) HBA.out.size ?hk2)
  (try case hx2 => rfl)
  (try case hy2 => rfl)
  case hk2 =>
  intro A2 c2 w2 hr hb _
  replace hr : w2.ownsRow V2.heap.size 108 2 (.slice A2 h.i.2.1 c2) h.i.2.1 (v.ids.flatMap encId) := by simpa using hr
  have hbv : Below V2.heap.size V2 w2 := HBA.out.trans hb
  have HRi := Lib.hid (SlR.nown hr (fun _ => rfl) HLi.out HS.out.s)
  replace HS := Lib.hid (HS.out.call hbv)
  replace HRd := Lib.hid (HRd.out.nlater hbv (fun _ => by simp [enc8]))
  replace HRa := Lib.hid (HRa.out.nlater hbv (fun _ => by simp [encAcl]))
  have z2 := HS.out.cell (i := 12) (v := slV h.i) rfl
  have f2 := HS.out.frz 12
  clear hr hb hbv HBA HZZ HOW hm9 y2 y2'
  go_upto_region 4 with fail
  replace HS := Lib.hid (HS.out.set 12 (.slice A2 h.i.2.1 c2))
  replace HS := Lib.hid (show CnSt w (w2.setCell ⟨w.heap.size, 12, none⟩ (.slice A2 h.i.2.1 c2)) #[.int .i32 h.n.ty, .string h.n.path, .slice A0 h.d.2.1 c0, .slice A1 h.a.2.1 c1, .int .i64 h.n.ow, .int .i32 h.n.ve, .int .i32 h.n.cr, .bool h.n.qh, .int .i64 h.n.qc, .int .i64 h.n.qb, .int .i64 h.n.si, .int .i32 h.n.st, .slice A2 h.i.2.1 c2, slV h.p, .int .i32 h.n.co, slV h.s] _ _ from HS.out)
  replace HRd := Lib.hid (HRd.out.nput (fun _ => by simp [enc8]) 12 (.slice A2 h.i.2.1 c2))
  replace HRa := Lib.hid (HRa.out.nput (fun _ => by simp [encAcl]) 12 (.slice A2 h.i.2.1 c2))
  replace HRi := Lib.hid (HRi.out.nput (fun _ => by simp [encId]) 12 (.slice A2 h.i.2.1 c2))
  generalize w2.setCell ⟨w.heap.size, 12, none⟩ (.slice A2 h.i.2.1 c2) = V3 at *
  clear z2 f2
  have y3 := HS.out.cell (i := 13) (v := slV h.p) rfl
  have hb0 : Below V3.heap.size V3 (V3.alloc (.cells #[] 9)) := (Below.refl _ V3).alloc (Nat.le_refl _) _
  have y3' := keep1 y3 hb0
  have HBA := Lib.hid hb0
  have HZZ := Lib.hid (HZp.out _ (HS.out.b.trans (hb0.mono HS.out.b.size)))
  have HOW := Lib.hid (own_empty (T := 9) (k := 1) V3)
  have hm9 := HMp.out
  clear hb0
  go_wp2_with (at_builtin; refine wpList_appB elemBStr rfl _ _ rfl V3.heap.size (some ⟨V3.heap.size, 0, none⟩) 0 0 [] ?hx3 HOW.out h.p.1 h.p.2.1 h.p.2.2 v.paths ?hy3 HZZ.out HHp.out (by omega) HBA.out.size ?hk3)
  (try case hx3 => rfl)
  (try case hy3 => rfl)
  case hk3 =>
  intro A3 c3 w3 hr hb _
  replace hr : w3.ownsRow V3.heap.size 9 1 (.slice A3 h.p.2.1 c3) h.p.2.1 (v.paths.flatMap encStr) := by simpa using hr
  have hbv : Below V3.heap.size V3 w3 := HBA.out.trans hb
  have HRp := Lib.hid (SlR.nown hr (fun _ => rfl) HLp.out HS.out.s)
  replace HS := Lib.hid (HS.out.call hbv)
  replace HRd := Lib.hid (HRd.out.nlater hbv (fun _ => by simp [enc8]))
  replace HRa := Lib.hid (HRa.out.nlater hbv (fun _ => by simp [encAcl]))
  replace HRi := Lib.hid (HRi.out.nlater hbv (fun _ => by simp [encId]))
  have z3 := HS.out.cell (i := 13) (v := slV h.p) rfl
  have f3 := HS.out.frz 13
  clear hr hb hbv HBA HZZ HOW hm9 y3 y3'
  go_upto_region 5 with fail
  replace HS := Lib.hid (HS.out.set 13 (.slice A3 h.p.2.1 c3))
  replace HS := Lib.hid (show CnSt w (w3.setCell ⟨w.heap.size, 13, none⟩ (.slice A3 h.p.2.1 c3)) #[.int .i32 h.n.ty, .string h.n.path, .slice A0 h.d.2.1 c0, .slice A1 h.a.2.1 c1, .int .i64 h.n.ow, .int .i32 h.n.ve, .int .i32 h.n.cr, .bool h.n.qh, .int .i64 h.n.qc, .int .i64 h.n.qb, .int .i64 h.n.si, .int .i32 h.n.st, .slice A2 h.i.2.1 c2, .slice A3 h.p.2.1 c3, .int .i32 h.n.co, slV h.s] _ _ from HS.out)
  replace HRd := Lib.hid (HRd.out.nput (fun _ => by simp [enc8]) 13 (.slice A3 h.p.2.1 c3))
  replace HRa := Lib.hid (HRa.out.nput (fun _ => by simp [encAcl]) 13 (.slice A3 h.p.2.1 c3))
  replace HRi := Lib.hid (HRi.out.nput (fun _ => by simp [encId]) 13 (.slice A3 h.p.2.1 c3))
  replace HRp := Lib.hid (HRp.out.nput (fun _ => by simp [encStr]) 13 (.slice A3 h.p.2.1 c3))
  generalize w3.setCell ⟨w.heap.size, 13, none⟩ (.slice A3 h.p.2.1 c3) = V4 at *
  clear z3 f3
  have hb0 : Below V4.heap.size V4 (V4.alloc (.cells #[] 33)) := (Below.refl _ V4).alloc (Nat.le_refl _) _
  have HOW := Lib.hid (own_empty (T := 33) (k := 16) V4)
  have HV4 := Lib.hid HS.out.s
  replace HS := Lib.hid (HS.out.call hb0)
  have HR0 := Lib.hid (show CtR w ⟨h.n, (A0, h.d.2.1, c0), (A1, h.a.2.1, c1), (A2, h.i.2.1, c2), (A3, h.p.2.1, c3), h.s⟩ v subs #[.int .i32 0, .string ⟨#[]⟩, .slice none 0 0, .slice none 0 0, .int .i64 0, .int .i32 0, .int .i32 0, .bool false, .int .i64 0, .int .i64 0, .int .i64 0, .int .i32 0, .slice none 0 0, .slice none 0 0, .int .i32 0, .slice none 0 0] 0 (some ⟨V4.heap.size, 0, none⟩) 0 (V4.alloc (.cells #[] 33)) from ⟨HS.out, ⟨HN.out, HRd.out.fr (Fr.of_below (own := []) hb0) (fun b hlt h => ⟨by simp, h.below hb0, fun o e => by injection e with e; injection e with e1 _; omega⟩) (fun _ => by simp [enc8]), HRa.out.fr (Fr.of_below (own := []) hb0) (fun b hlt h => ⟨by simp, h.below hb0, fun o e => by injection e with e; injection e with e1 _; omega⟩) (fun _ => by simp [encAcl]), HRi.out.fr (Fr.of_below (own := []) hb0) (fun b hlt h => ⟨by simp, h.below hb0, fun o e => by injection e with e; injection e with e1 _; omega⟩) (fun _ => by simp [encId]), HRp.out.fr (Fr.of_below (own := []) hb0) (fun b hlt h => ⟨by simp, h.below hb0, fun o e => by injection e with e; injection e with e1 _; omega⟩) (fun _ => by simp [encStr])⟩, ⟨[], own_mono HOW.out HV4.out, rfl, fun j hj => absurd hj (by omega)⟩⟩)
  clear HS HRd HRa HRi HRp
  clear hb0 HOW HV4
  go_wp2_with fail
  go_loopw [3, 4] (fun sv i wr => ∃ (k : Nat) (A : Option Addr) (c : Nat), i = .int .i64 ↑k ∧ k ≤ h.s.2.1 ∧ sv = .slice A k c ∧ CtR w ⟨h.n, (A0, h.d.2.1, c0), (A1, h.a.2.1, c1), (A2, h.i.2.1, c2), (A3, h.p.2.1, c3), h.s⟩ v subs #[.int .i32 0, .string ⟨#[]⟩, .slice none 0 0, .slice none 0 0, .int .i64 0, .int .i32 0, .int .i32 0, .bool false, .int .i64 0, .int .i64 0, .int .i64 0, .int .i32 0, .slice none 0 0, .slice none 0 0, .int .i32 0, .slice none 0 0] k A c wr) (fun _ i _ => h.s.2.1 - (RowKit.intOf i).toNat)
  case atStart => exact ⟨0, _, 0, rfl, Nat.zero_le _, rfl, HR0.out⟩
  case round =>
  clear HR0
  obtain ⟨k, A, c, rfl, hk, rfl, hR⟩ := hrel
  have HR := Lib.hid hR; clear hR
  have xs : wr.cell? ⟨w.heap.size, 15, none⟩ = some (slV h.s) := HR.out.s.cell rfl
  have hsb := HSB.out
  by_cases hlt : k < h.s.2.1
  · obtain ⟨b, off, eb, hbl, hcb⟩ := HROW.out.2.2 (show 0 < h.s.2.1 by omega)
    have hbw := HR.out.s.b
    have hr1 : wr.rangeAt b (off + k * 16) (encTx L[k]!) := fun i u hu => keep1 (hcb k hlt i u hu) hbw
    have xs' : wr.cell? ⟨w.heap.size, 15, none⟩ = some (.slice (some ⟨b, off, none⟩) h.s.2.1 h.s.2.2) := by rw [xs, ← eb]
    have HIHk := Lib.hid (HIH.out k (by rw [HLEN.out]; exact hlt) L[k]! wr _ ((HSUB.out k hlt).fr kTxOk (R' := (· < w.heap.size)) (Fr.of_below (own := []) hbw) (fun b _ h => ⟨by simp, h⟩)) (HOK.out k (by rw [HLEN.out]; exact hlt)))
    have hki : (k : Int) < (h.s.2.1 : Int) := by omega
    have hk0 : (0 : Int) ≤ (k : Int) := by omega
    clear hcb hbw xs eb
    generalize L[k]! = hj at *
    go_wp2_with (first
      | (apply wpList_loadMid 33; exact rfl; exact rfl; exact rfl; exact hr1; exact undTx; exact rfl; exact infTx)
      | fail)
    refine HIHk.out.mono ?_
    rintro e w6 ⟨⟨h6, rfl, ht6⟩, hb6⟩
    have HB6 := Lib.hid hb6; have HT6 := Lib.hid ht6
    clear hb6 ht6 HIHk hr1 xs'
    obtain ⟨Hs, hrow, hHl, hHt⟩ := HR.out.r
    have hb7 : Below w6.heap.size w6 (w6.alloc (.cells (encTx h6).toArray 33)) := (Below.refl _ w6).alloc (Nat.le_refl _) _
    have HB7 := Lib.hid hb7
    have HX7 := Lib.hid (show (w6.alloc (.cells (encTx h6).toArray 33)).rangeAt w6.heap.size 0 (encTx h6) from rangeAt_heapC (pre := []) (mid := encTx h6) (post := []) (heap_s0 w6 _) (by simp) rfl)
    have HRW := Lib.hid hrow; have HHL := Lib.hid hHl; have HHT := Lib.hid hHt
    have HOW := Lib.hid (own_later hrow (HB6.out.trans (hb7.mono HB6.out.size)))
    have HSZ := Lib.hid (show w.heap.size + 2 ≤ (w6.alloc (.cells (encTx h6).toArray 33)).heap.size from Nat.le_trans HR.out.s.s (Nat.le_trans HB6.out.size hb7.size))
    clear hrow hHl hHt hb7
    go_wp2_with (first
      | (at_builtin; refine wpList_appT elemBTx HOW.out HHL.out h6 w6.heap.size rfl _ _ rfl ?hx8 ?hy8 HX7.out (by omega) HSZ.out ?hk8)
      | fail)
    (try case hx8 => rfl)
    (try case hy8 => rfl)
    case hk8 =>
    intro A8 c8 w8 hv8 hon8
    have HRN := Lib.hid (HR.out.step HB6.out HT6.out HB7.out HRW.out HHL.out HHT.out (by rw [List.flatMap_append, List.flatMap_singleton]; exact hv8) hon8)
    clear hv8 hon8 HR HB6 HT6 HB7 HX7 HRW HHL HHT HOW HSZ
    go_wp2_with fail
    go_roundw
    case rel => exact ⟨k + 1, A8, c8, by go_num, by omega, rfl, HRN.out⟩
    case measure => show h.s.2.1 - ((↑k + 1 : Int)).toNat < h.s.2.1 - (↑k : Int).toNat; omega
  · have hkn : k = h.s.2.1 := by omega
    subst hkn
    obtain ⟨Hs, hrow, hHl, hHt⟩ := HR.out.r
    have hsz := HR.out.s.s
    have HS9 := Lib.hid (HR.out.s.set 15 (.slice A h.s.2.1 c))
    replace HS9 := Lib.hid (show CnSt w (wr.setCell ⟨w.heap.size, 15, none⟩ (.slice A h.s.2.1 c)) (encTx ⟨h.n, (A0, h.d.2.1, c0), (A1, h.a.2.1, c1), (A2, h.i.2.1, c2), (A3, h.p.2.1, c3), (A, h.s.2.1, c)⟩).toArray #[.int .i32 0, .string ⟨#[]⟩, .slice none 0 0, .slice none 0 0, .int .i64 0, .int .i32 0, .int .i32 0, .bool false, .int .i64 0, .int .i64 0, .int .i64 0, .int .i32 0, .slice none 0 0, .slice none 0 0, .int .i32 0, .slice none 0 0] 33 from HS9.out)
    have hf9 := fr_set wr w.heap.size 15 (.slice A h.s.2.1 c)
    have hl9 := kTxOk.loc (R' := NfR (wr.setCell ⟨w.heap.size, 15, none⟩ (.slice A h.s.2.1 c)) (w.heap.size + 2)) HR.out.l hf9 (fun b _ h => ⟨by have := h.1.1; simp; omega, h.1.fr hf9 (by have := h.1.1; simp; omega) (Nat.le_refl _)⟩)
    have hr9 := own_fr hrow hf9 (fun g hg => by rw [List.mem_singleton.1 hg]; omega)
    have ht9 : ∀ j, j < h.s.2.1 → TxAt (wr.setCell ⟨w.heap.size, 15, none⟩ (.slice A h.s.2.1 c)) (NfR (wr.setCell ⟨w.heap.size, 15, none⟩ (.slice A h.s.2.1 c)) (w.heap.size + 2)) Hs[j]! subs[j]! := fun j hj => (hHt j hj).fr kTxOk hf9 (fun b _ h => ⟨by have := h.1.1; simp; omega, h.1.fr hf9 (by have := h.1.1; simp; omega) (Nat.le_refl _)⟩)
    have z9 : wr.cell? ⟨w.heap.size, 15, none⟩ = some (slV h.s) := xs
    have f9 := HR.out.s.frz 15
    have HL9 := Lib.hid hl9; have HR9 := Lib.hid hr9; have HT9 := Lib.hid ht9; have HHL := Lib.hid hHl
    clear hl9 hr9 ht9 hf9 hrow hHl hHt hsz HR
    go_upto_region 11 with fail
    generalize wr.setCell ⟨w.heap.size, 15, none⟩ (.slice A h.s.2.1 c) = V9 at *
    clear xs z9 f9
    have gC : V9.heap[w.heap.size]? = some (.cells #[.int .i32 h.n.ty, .string h.n.path, .slice A0 h.d.2.1 c0, .slice A1 h.a.2.1 c1, .int .i64 h.n.ow, .int .i32 h.n.ve, .int .i32 h.n.cr, .bool h.n.qh, .int .i64 h.n.qc, .int .i64 h.n.qb, .int .i64 h.n.si, .int .i32 h.n.st, .slice A2 h.i.2.1 c2, .slice A3 h.p.2.1 c3, .int .i32 h.n.co, .slice A h.s.2.1 c] 33 (0, 0)) := HS9.out.c
    have gZ := HS9.out.z
    have hf := fr_setRow9 V9 (w.heap.size + 1) (encTx ⟨h.n, (A0, h.d.2.1, c0), (A1, h.a.2.1, c1), (A2, h.i.2.1, c2), (A3, h.p.2.1, c3), (A, h.s.2.1, c)⟩).toArray
    have hTR : TxAt (V9.setRow (w.heap.size + 1) (encTx ⟨h.n, (A0, h.d.2.1, c0), (A1, h.a.2.1, c1), (A2, h.i.2.1, c2), (A3, h.p.2.1, c3), (A, h.s.2.1, c)⟩).toArray) (NfR (V9.setRow (w.heap.size + 1) (encTx ⟨h.n, (A0, h.d.2.1, c0), (A1, h.a.2.1, c1), (A2, h.i.2.1, c2), (A3, h.p.2.1, c3), (A, h.s.2.1, c)⟩).toArray) w.heap.size) ⟨h.n, (A0, h.d.2.1, c0), (A1, h.a.2.1, c1), (A2, h.i.2.1, c2), (A3, h.p.2.1, c3), (A, h.s.2.1, c)⟩ (.mk v subs) := by
      have hmv : ∀ b, b < V9.heap.size → NfR V9 (w.heap.size + 2) b → b ∉ [w.heap.size + 1] ∧ NfR (V9.setRow (w.heap.size + 1) (encTx ⟨h.n, (A0, h.d.2.1, c0), (A1, h.a.2.1, c1), (A2, h.i.2.1, c2), (A3, h.p.2.1, c3), (A, h.s.2.1, c)⟩).toArray) w.heap.size b := fun b _ h => by
        have hn : b ∉ [w.heap.size + 1] := by have := h.1; simp; omega
        exact ⟨hn, h.fr hf hn (by omega)⟩
      exact TrAt.of_subs (L := Hs) (kTxOk.loc HL9.out hf hmv) HLEN.out ((own_slrN HR9.out (fun _ => rfl) HHL.out).fr hf hmv (fun _ => by simp [encTx])) (fun j hj => (HT9.out j hj).fr kTxOk hf hmv)
    have HTR := Lib.hid hTR
    have HBF := Lib.hid (below_setRow HS9.out.b (show w.heap.size ≤ w.heap.size + 1 by omega) (encTx ⟨h.n, (A0, h.d.2.1, c0), (A1, h.a.2.1, c1), (A2, h.i.2.1, c2), (A3, h.p.2.1, c3), (A, h.s.2.1, c)⟩).toArray)
    clear hTR hf
    go_wp2_with (first
      | (apply wpList_loadRow 33 33; exact rfl; exact rfl; exact rfl; (first | assumption | (refine heap_under ?_; assumption) | (exact heap_s0 _ _) | (exact heap_s1 _ _ _) | (exact heap_s2 _ _ _ _) | (exact heap_s3 _ _ _ _ _) | (exact heap_under (heap_s0 _ _)) | (exact heap_under (heap_s1 _ _ _)) | (exact heap_under (heap_s2 _ _ _ _)) | (exact heap_under (heap_under (heap_s0 _ _))) | (exact heap_under (heap_under (heap_s1 _ _ _))) | (exact heap_under (heap_under (heap_under (heap_s0 _ _))))); exact undTx; exact rfl; exact infTx)
      | (apply wpList_storeRow 33 33; exact rfl; exact rfl; exact rfl; exact rfl; (first | assumption | (refine heap_under ?_; assumption) | (exact heap_s0 _ _) | (exact heap_s1 _ _ _) | (exact heap_s2 _ _ _ _) | (exact heap_s3 _ _ _ _ _) | (exact heap_under (heap_s0 _ _)) | (exact heap_under (heap_s1 _ _ _)) | (exact heap_under (heap_s2 _ _ _ _)) | (exact heap_under (heap_under (heap_s0 _ _))) | (exact heap_under (heap_under (heap_s1 _ _ _))) | (exact heap_under (heap_under (heap_under (heap_s0 _ _))))); exact infTx; exact rfl; simp [Value.oneCell'])
      | fail)
    exact bodyPost_cell rfl rfl (setRow_heap _ _ _ _ _ _ gZ) undTx rfl infTx rfl ⟨⟨_, rfl, HTR.out⟩, HBF.out⟩
end Go.Proofs.YthpjneobmmpbnaaGreatDoor
namespace Go.Proofs.YthpjneobmmpbnaaGreatDoor
open Go.RowKit Go.MapKept Go.Maps Go.Shelf Go.ChangeShapes Go.WideShapes
open Go.WideElems (Fit rd rg)
def kStr : KeyK ByteArray := ⟨9, fun s => .string s, fun h => by injection h, string_keyed Tryz.underlying9, fun s => s.size ≤ maxLen, fun _ h => ⟨_, Go.WideMaps.keyOf_string_mk Tryz.underlying9 h⟩⟩
abbrev MapS := MapK kStr
abbrev bsOf (s : ByteArray) : List UInt8 := s.data.toList
theorem MapS.owns {w : World} {b : Nat} {l : List (ByteArray × Value)} (h : MapS w b l) (hl : l.length ≤ 1073741824) :
    ∃ D0 : DataW Unit, w.ownsMap Tryz.prog 9 (fun _ => some (.lit (.bool true), [])) b l.length D0 ∧ (Go.strKeys D0).Perm (l.map (fun x => bsOf x.1)) ∧ Maps.size D0 = l.length := by
  obtain ⟨es, clock, hb, hs, hl2, hk⟩ := h
  have hsz : es.size = l.length := by
    have := congrArg List.length hl2
    simpa using this
  have hread : ∀ x ∈ es.toList, rd Tryz.prog 9 (fun _ => some ((.lit (.bool true) : DataW Unit), [])) x = some (match x.key with | .string i => (Lit.string i.data.toList, .lit (.bool true)) | _ => (.bool false, .nil)) ∧ ∃ i, x.key = .string i := fun x hx => by
    have hx2 : (x.key, x.val) ∈ l.map (fun x => ((kStr.f x.1, x.2) : Value × Value)) := by rw [← hl2]; exact List.mem_map.2 ⟨x, hx, rfl⟩
    obtain ⟨kl, hkl⟩ := hk _ hx2
    obtain ⟨i, hi, hkl2, _⟩ := Go.WideMaps.string_of_keyOf Tryz.underlying9 hkl
    have hi : x.key = .string i := hi
    refine ⟨?_, _, hi⟩
    unfold rd
    rw [show keyOf Tryz.prog 9 x.key = some kl from hkl, hkl2, hi]
    rfl
  refine ⟨_, ⟨es, clock, hb, ⟨by rw [hsz]; exact Nat.le_trans hl (by decide), hs, fun x hx => ⟨_, (hread x hx).1⟩⟩, Nat.le_of_eq hsz, rfl⟩, ?_, ?_⟩
  · show (((es.toList.map (rg Tryz.prog 9 _)).foldr DataW.insert []).map fun p => Go.strOf p.1).Perm _
    refine ((sorted_perm _).map _).trans ?_
    have e : (es.toList.map (rg Tryz.prog 9 (fun _ => some ((.lit (.bool true) : DataW Unit), [])))).map (fun p => Go.strOf p.1) = l.map (fun x => bsOf x.1) := by
      have e2 : l.map (fun x => bsOf x.1) = (l.map (fun x => ((kStr.f x.1, x.2) : Value × Value))).map (fun q => match q.1 with | .string i => i.data.toList | _ => []) := by rw [List.map_map]; rfl
      rw [e2, ← hl2, List.map_map, List.map_map]
      refine List.map_congr_left fun x hx => ?_
      obtain ⟨h1, i, h2⟩ := hread x hx
      simp only [Function.comp, rg, h1, Option.getD_some, h2]
      rfl
    rw [e]
  · show ((es.toList.map (rg Tryz.prog 9 _)).foldr DataW.insert []).length = _
    rw [length_sorted, List.length_map, Array.length_toList, hsz]
abbrev leS : ByteArray → ByteArray → Bool := fun x y => decide (bsOf x ≤ bsOf y)
def sortS (l : List ByteArray) : List ByteArray := l.mergeSort leS
theorem sortS_perm (l : List ByteArray) : (sortS l).Perm l := List.mergeSort_perm l leS
theorem sortS_map (l : List ByteArray) : (sortS l).map bsOf = (l.map bsOf).mergeSort Go.leB := List.map_mergeSort (fun _ _ _ _ => rfl)
theorem sorts_inS (m : Nat) : AnyZ.SortsIn Tryz.prog Tryz.sortedA_ren Fence.wide m :=
  ⟨fun blk off cap ss W hH hblk hsz => callsIn_wide.2 (AnyM.slices_Sort_string Tryz.sortA blk off cap ss W hH hblk hsz),
   fun p cap W => callsIn_wide.2 (AnyM.slices_Sort_string_none Tryz.sortA p cap W)⟩
theorem keysS_any (mb : Option Nat) (W : World) : Calls Tryz.prog 58 #[.map mb] W fun e w' => e = .returned (.func (.func 107) #[] #[.pointer (some ⟨W.heap.size, 0, none⟩)]) ∧ w' = W.alloc (.cells #[.map mb] 85) :=
  callsIn_wide.1 (AnyZ.keys_in Tryz.keysA Fence.wide 5 trivial rfl mb W)
def SortSP (w : World) (l : List ByteArray) (e : Ending) (w' : World) : Prop :=
  ∃ A c, e = .returned (.slice A l.length c) ∧ w'.ownsRow w.heap.size 9 1 (.slice A l.length c) l.length (l.flatMap encStr) ∧ Below w.heap.size w w'
theorem flat_str (l : List ByteArray) : l.flatMap encStr = (l.map bsOf).map Go.Proofs.encStr := by
  induction l with
  | nil => rfl
  | cons x l ih => rw [List.flatMap_cons, ih]; rfl
theorem sort_closeS {w w' : World} {v : Value} {ss : List (List UInt8)} {l : List ByteArray} (hp : ss.Perm (l.map bsOf)) (hr : w'.ownsRow w.heap.size 9 1 v ss.length ((ss.mergeSort Go.leB).map Go.Proofs.encStr)) (hb : Below w.heap.size w w') : SortSP w (sortS l) (.returned v) w' := by
  have e1 : (ss.mergeSort Go.leB).map Go.Proofs.encStr = (sortS l).flatMap encStr := by rw [Go.mergeSort_of_perm hp, flat_str, sortS_map]
  have e2 : ss.length = (sortS l).length := by rw [hp.length_eq, List.length_map, (sortS_perm l).length_eq]
  rw [e1, e2] at hr
  rcases hr.2 with ⟨h1, h2⟩ | ⟨g, cap, cur, h1, h2⟩
  · subst h1
    exact ⟨none, 0, by rw [h2], by rw [h2] at hr ⊢; exact hr, hb⟩
  · subst h1
    exact ⟨_, _, rfl, hr, hb⟩
set_option maxHeartbeats 1000000 in
theorem sortedS_any (b : Nat) (l : List (ByteArray × Value)) (w : World) (h : MapS w b l) (hl : l.length ≤ 1073741824) :
    Calls Tryz.prog 57 #[.func (.func 107) #[] #[.pointer (some ⟨w.heap.size, 0, none⟩)]] (w.alloc (.cells #[.map (some b)] 85)) (SortSP (w.alloc (.cells #[.map (some b)] 85)) (sortS (l.map (·.1)))) := by
  obtain ⟨D0, hown, hperm, hsize⟩ := h.owns hl
  have hbl := hown.lt
  have hseq : SeqGives Fence.wide 2 Tryz.prog 107 #[.pointer (some ⟨w.heap.size, 0, none⟩)] Go.Proofs.encStr (fun ss => ss.Perm (Go.strKeys D0)) (Maps.size D0) (w.alloc (.cells #[.map (some b)] 85)) :=
    AnyZ.keys_gives (ρ := Tryz.keysA_ren) { Tryz.keysA with } Fence.wide _ trivial rfl (by omega) w.heap.size b l.length D0 _ (by simp) (by simp) (by
      obtain ⟨es, clock, hb, Ft, hs, hD⟩ := hown
      exact ⟨es, clock, (Below.heap_alloc _ _ b hbl).trans hb, Ft, hs, hD⟩)
  have cS := AnyZ.sorted_in Tryz.sortedA Fence.wide 5 trivial trivial trivial trivial rfl (by omega) (sorts_inS _) (enters_of Tryz.func106 (by kernel_rfl) rfl) 107 #[.pointer (some ⟨w.heap.size, 0, none⟩)] trivial (enters_of Tryz.func107 (by kernel_rfl) rfl) _ _ (by rw [hsize]; exact Nat.le_trans hl (by decide)) (by rw [hsize]; omega) _ hseq
  refine (callsIn_wide.1 cS).mono ?_
  rintro e w' ⟨v, ss, rfl, hS, hrow, _, hb⟩
  exact sort_closeS (by rw [List.map_map]; exact hS.trans hperm) hrow hb
end Go.Proofs.YthpjneobmmpbnaaGreatDoor
namespace Go.Proofs.YthpjneobmmpbnaaGreatDoor
/-- what is written of a value is read back, and what is read was written -/
structure Cdc {α : Type} (D : α → Prop) (P : Bs → Nat → PR α) (B : α → Bs) : Prop where
  fwd : ∀ (a c : Bs) (x : α), D x → P (a ++ (B x ++ c)) a.length = .ok (x, a.length + (B x).length)
  inv : ∀ (l : Bs) (p : Nat) (x : α) (q : Nat), p ≤ l.length → P l p = .ok (x, q) → D x ∧ q ≤ l.length ∧ q = p + (B x).length ∧ ∃ c, l.drop p = B x ++ c
theorem thenOk {α β : Type} (a : α) (q : Nat) (f : α → Nat → PR β) : PR.then (.ok (a, q)) f = f a q := rfl
theorem then_assoc {α β γ : Type} (x : PR α) (f : α → Nat → PR β) (g : β → Nat → PR γ) : (x.then f).then g = x.then fun a q => (f a q).then g := by
  rcases x with e | ⟨a, q⟩ <;> rfl
theorem then_inv {α β : Type} {x : PR α} {f : α → Nat → PR β} {b : β} {q : Nat} (h : x.then f = .ok (b, q)) : ∃ a p, x = .ok (a, p) ∧ f a p = .ok (b, q) := by
  rcases x with e | ⟨a, p⟩
  · cases h
  · exact ⟨a, p, rfl, h⟩
theorem okInj {α : Type} {a b : α} {p q : Nat} (h : (Except.ok (a, p) : PR α) = .ok (b, q)) : a = b ∧ p = q := by
  injection h with h
  exact Prod.mk.inj h
theorem drop_more {l b c : Bs} {p q : Nat} (h : l.drop p = b ++ c) (hq : q = p + b.length) : l.drop q = c := by
  rw [hq, ← List.drop_drop, h, List.drop_left]
section
variable {α β : Type} {D : α → Prop} {P : Bs → Nat → PR α} {B : α → Bs}
theorem Cdc.bind (h : Cdc D P B) {E : α → β → Prop} {Q : α → Bs → Nat → PR β} {C : α → β → Bs} (k : ∀ x, D x → Cdc (E x) (Q x) (C x)) :
    Cdc (fun z : α × β => D z.1 ∧ E z.1 z.2) (fun l p => (P l p).then fun x a => (Q x l a).then fun y b => .ok ((x, y), b)) (fun z => B z.1 ++ C z.1 z.2) where
  fwd a c z hz := by
    obtain ⟨x, y⟩ := z
    obtain ⟨h1, h2⟩ := hz
    have e1 : a ++ ((B x ++ C x y) ++ c) = a ++ (B x ++ (C x y ++ c)) := by simp
    have e2 : a ++ (B x ++ (C x y ++ c)) = (a ++ B x) ++ (C x y ++ c) := by simp
    show ((P (a ++ ((B x ++ C x y) ++ c)) a.length).then _) = _
    rw [e1, h.fwd a _ x h1, thenOk, e2]
    have h3 := (k x h1).fwd (a ++ B x) c y h2
    rw [List.length_append] at h3
    rw [h3, thenOk, List.length_append, Nat.add_assoc]
  inv l p z q hp hz := by
    obtain ⟨x, a, h1, h2⟩ := then_inv hz
    obtain ⟨y, b, h3, h4⟩ := then_inv h2
    obtain ⟨rfl, rfl⟩ := okInj h4
    obtain ⟨d1, l1, q1, c1, e1⟩ := h.inv l p x a hp h1
    obtain ⟨d2, l2, q2, c2, e2⟩ := (k x d1).inv l a y b l1 h3
    refine ⟨⟨d1, d2⟩, l2, ?_, c2, ?_⟩
    · show b = p + (B x ++ C x y).length
      rw [List.length_append]; omega
    rw [drop_more e1 q1] at e2
    rw [e1, e2, List.append_assoc]
theorem Cdc.map (h : Cdc D P B) (f : α → β) (g : β → α) (E : β → Prop) (hE : ∀ y, E y → D (g y) ∧ f (g y) = y) (hD : ∀ x, D x → E (f x) ∧ g (f x) = x) :
    Cdc E (fun l p => (P l p).then fun x a => .ok (f x, a)) (fun y => B (g y)) where
  fwd a c y hy := by
    have := h.fwd a c (g y) (hE y hy).1
    show ((P (a ++ (B (g y) ++ c)) a.length).then _) = _
    rw [this, thenOk, (hE y hy).2]
  inv l p y q hp hy := by
    obtain ⟨x, a, h1, h2⟩ := then_inv hy
    obtain ⟨rfl, rfl⟩ := okInj h2
    obtain ⟨d1, l1, q1, e1⟩ := h.inv l p x a hp h1
    obtain ⟨h3, h4⟩ := hD x d1
    exact ⟨h3, l1, by rw [h4]; exact q1, by rw [h4]; exact e1⟩
theorem Cdc.congr (h : Cdc D P B) {D' : α → Prop} {P' : Bs → Nat → PR α} {B' : α → Bs} (hD : ∀ x, D x ↔ D' x) (hP : ∀ l p, P' l p = P l p) (hB : ∀ x, D' x → B' x = B x) : Cdc D' P' B' where
  fwd a c x hx := by rw [hP, hB x hx]; exact h.fwd a c x ((hD x).2 hx)
  inv l p x q hp hx := by
    rw [hP] at hx
    obtain ⟨d1, h1⟩ := h.inv l p x q hp hx
    have d2 := (hD x).1 d1
    rw [hB x d2]
    exact ⟨d2, h1⟩
/-- more bytes behind do not matter -/
theorem Cdc.ext (h : Cdc D P B) {l m : Bs} {p q : Nat} {x : α} (hp : p ≤ l.length) (hx : P l p = .ok (x, q)) : P (l ++ m) p = .ok (x, q) := by
  obtain ⟨d, h1, h2, c, h3⟩ := h.inv l p x q hp hx
  have h4 := h.fwd (l.take p) (c ++ m) x d
  rw [List.length_take, Nat.min_eq_left hp, ← h2] at h4
  rw [← h4]
  congr 1
  rw [← List.append_assoc (B x), ← h3, ← List.append_assoc, List.take_append_drop]
/-- the last of what is read, as a reader of nothing -/
theorem Cdc.nil : Cdc (fun _ : Unit => True) (fun _ p => .ok ((), p)) (fun _ => []) where
  fwd _ _ _ _ := rfl
  inv l p x q hp h := by
    obtain ⟨-, rfl⟩ := okInj h
    exact ⟨trivial, hp, rfl, _, rfl⟩
end
theorem beN_cons (b : UInt8) (l : Bs) : beN (b :: l) = b.toNat * 256 ^ l.length + beN l := by
  have go : ∀ (l : Bs) (a : Nat), l.foldl (fun a b => a * 256 + b.toNat) a = a * 256 ^ l.length + l.foldl (fun a b => a * 256 + b.toNat) 0 := by
    intro l
    induction l with
    | nil => intro a; simp
    | cons x l ih =>
      intro a
      rw [List.foldl_cons, List.foldl_cons, ih, ih (0 * 256 + x.toNat), List.length_cons, Nat.pow_succ]
      rw [Nat.add_mul, Nat.zero_mul, Nat.zero_add, Nat.mul_assoc, Nat.mul_comm 256, Nat.add_assoc]
  have := go l (0 * 256 + b.toNat)
  rw [Nat.zero_mul, Nat.zero_add] at this
  unfold beN
  rw [List.foldl_cons, Nat.zero_mul, Nat.zero_add]
  exact this
theorem beN_lt8 : ∀ (l : Bs), beN l < 256 ^ l.length
  | [] => by decide
  | b :: l => by
    have h1 := beN_lt8 l
    have h2 := b.toNat_lt
    rw [beN_cons, List.length_cons, Nat.pow_succ]
    have : b.toNat * 256 ^ l.length ≤ 255 * 256 ^ l.length := Nat.mul_le_mul_right _ (by omega)
    omega
theorem beB_mod (x n : Nat) : ∀ m, m ≤ n → beB (x % 256 ^ n) m = beB x m
  | 0, _ => rfl
  | m + 1, h => by
    rw [beB, beB, beB_mod x n m (by omega)]
    congr 1
    have e : x % 256 ^ n / 256 ^ m = x / 256 ^ m % 256 ^ (n - m) := by
      rw [← Nat.mod_mul_right_div_self, ← Nat.pow_add, show m + (n - m) = n by omega]
    rw [e]
    apply UInt8.toNat_inj.1
    rw [UInt8.toNat_ofNat', UInt8.toNat_ofNat']
    have e2 : (256 : Nat) ^ (n - m) = 256 * 256 ^ (n - m - 1) := by
      rw [← Nat.pow_succ']; congr 1; omega
    rw [show (2 : Nat) ^ 8 = 256 from rfl, e2, Nat.mod_mul_right_mod]
theorem beB_beN : ∀ (l : Bs), beB (beN l) l.length = l
  | [] => rfl
  | b :: l => by
    have h1 := beN_lt8 l
    rw [List.length_cons, beB, beN_cons]
    congr 1
    · rw [Nat.mul_comm, Nat.mul_add_div (Nat.pow_pos (by decide)), Nat.div_eq_of_lt h1, Nat.add_zero]
      exact UInt8.ofNat_toNat
    · have h2 := beB_mod (b.toNat * 256 ^ l.length + beN l) l.length l.length (Nat.le_refl _)
      rw [← h2, Nat.mul_comm, Nat.mul_add_mod, Nat.mod_eq_of_lt h1]
      exact beB_beN l
theorem beN_beB (x : Nat) : ∀ n, beN (beB x n) = x % 256 ^ n
  | 0 => by simp [beB, beN, Nat.mod_one]
  | n + 1 => by
    rw [beB, beN_cons, beB_len, beN_beB x n, UInt8.toNat_ofNat', show (2 : Nat) ^ 8 = 256 from rfl]
    have h := Nat.mod_mul (x := x) (a := 256 ^ n) (b := 256)
    have e : 256 ^ (n + 1) = 256 ^ n * 256 := by rw [Nat.pow_succ]
    rw [e, h, Nat.mul_comm]
    omega
theorem takeP_mid {a b c : Bs} {n : Nat} (h : b.length = n) : takeP (a ++ (b ++ c)) n a.length = .ok (b, a.length + n) := by
  unfold takeP
  rw [if_neg (by simp; omega)]
  rw [List.drop_left, ← h, List.take_left]
theorem takeP_inv {l : Bs} {n p q : Nat} {b : Bs} (hp : p ≤ l.length) (h : takeP l n p = .ok (b, q)) : b.length = n ∧ q ≤ l.length ∧ q = p + n ∧ l.drop p = b ++ l.drop q := by
  unfold takeP at h
  split at h
  · cases h
  · rename_i hn
    obtain ⟨rfl, rfl⟩ := okInj h
    refine ⟨by simp; omega, by omega, rfl, ?_⟩
    rw [← List.drop_drop, List.take_append_drop]
theorem i32_back {z : Int} (h : in32 z) : i32N (m32 z) = z := by unfold i32N m32; unfold in32 at h; split <;> omega
theorem m32_back {x : Nat} (h : x < 4294967296) : m32 (i32N x) = x ∧ in32 (i32N x) := by unfold i32N m32 in32; split <;> omega
theorem i64_back {z : Int} (h : in64 z) : i64N (m64 z) = z := by unfold i64N m64; unfold in64 at h; split <;> omega
theorem m64_back {x : Nat} (h : x < 18446744073709551616) : m64 (i64N x) = x ∧ in64 (i64N x) := by unfold i64N m64 in64; split <;> omega
theorem m32_lt (z : Int) : m32 z < 4294967296 := by unfold m32; omega
theorem m64_lt (z : Int) : m64 z < 18446744073709551616 := by unfold m64; omega
theorem intC : Cdc in32 intP (fun z => beB (m32 z) 4) where
  fwd a c x hx := by
    unfold intP
    rw [takeP_mid (beB_len _ _), thenOk, beN_beB, Nat.mod_eq_of_lt (m32_lt x), i32_back hx, beB_len]
  inv l p x q hp h := by
    obtain ⟨b, a, h1, h2⟩ := then_inv h
    obtain ⟨rfl, rfl⟩ := okInj h2
    obtain ⟨e1, e2, e3, e4⟩ := takeP_inv hp h1
    have h3 := beN_lt8 b
    rw [e1] at h3
    obtain ⟨h5, h6⟩ := m32_back h3
    refine ⟨h6, e2, by rw [beB_len]; exact e3, l.drop a, ?_⟩
    · rw [h5, ← e1, beB_beN]; exact e4
theorem longC : Cdc in64 longP (fun z => beB (m64 z) 8) where
  fwd a c x hx := by
    unfold longP
    rw [takeP_mid (beB_len _ _), thenOk, beN_beB, Nat.mod_eq_of_lt (m64_lt x), i64_back hx, beB_len]
  inv l p x q hp h := by
    obtain ⟨b, a, h1, h2⟩ := then_inv h
    obtain ⟨rfl, rfl⟩ := okInj h2
    obtain ⟨e1, e2, e3, e4⟩ := takeP_inv hp h1
    have h3 := beN_lt8 b
    rw [e1] at h3
    obtain ⟨h5, h6⟩ := m64_back h3
    refine ⟨h6, e2, by rw [beB_len]; exact e3, l.drop a, ?_⟩
    · rw [h5, ← e1, beB_beN]; exact e4
theorem sizeC {m : Nat} (hm : m ≤ 1048576) : Cdc (fun n => n ≤ m) (fun l p => sizeP l m p) (fun n => beB n 4) where
  fwd a c n hn := by
    have h1 := intC.fwd a c (n : Int) (by unfold in32; omega)
    have h2 : m32 (n : Int) = n := by unfold m32; omega
    rw [h2] at h1
    show sizeP _ _ _ = _
    unfold sizeP
    rw [h1, thenOk, if_neg (by omega)]; rfl
  inv l p n q hp h := by
    obtain ⟨z, a, h1, h2⟩ := then_inv h
    split at h2
    · cases h2
    rename_i hz
    obtain ⟨rfl, rfl⟩ := okInj h2
    obtain ⟨d, e1, e2, e3⟩ := intC.inv l p z a hp h1
    have h3 : m32 z = z.toNat := by unfold m32; unfold in32 at d; omega
    rw [h3] at e2 e3
    exact ⟨by omega, e1, e2, e3⟩
theorem bytesC {m : Nat} (hm : m ≤ 1048576) : Cdc (fun b : Bs => b.length ≤ m) (fun l p => bytesP l m p) bufB where
  fwd a c b hb := by
    have h1 := (sizeC hm).fwd a (b ++ c) b.length hb
    show bytesP _ _ _ = _
    unfold bytesP bufB
    rw [List.append_assoc, h1, thenOk]
    have h2 : (a ++ (beB b.length 4 ++ (b ++ c))).drop (a.length + (beB b.length 4).length) = b ++ c := by
      rw [← List.append_assoc, ← List.length_append, List.drop_left]
    rw [if_neg (by simp [beB_len]; omega), h2, List.take_left, List.length_append, Nat.add_assoc]
  inv l p b q hp h := by
    obtain ⟨n, a, h1, h2⟩ := then_inv h
    split at h2
    · cases h2
    rename_i hz
    obtain ⟨rfl, rfl⟩ := okInj h2
    obtain ⟨d, e1, e2, c, e3⟩ := (sizeC hm).inv l p n a hp h1
    have h4 : ((l.drop a).take n).length = n := by simp; omega
    refine ⟨by rw [h4]; exact d, by omega, ?_, l.drop (a + n), ?_⟩
    · unfold bufB; rw [List.length_append, h4, e2]; omega
    · unfold bufB
      rw [h4, e3, List.append_assoc, ← List.drop_drop, List.take_append_drop, drop_more e3 e2]
theorem textC {m : Nat} (hm : m ≤ 1048576) : Cdc (fun b : Bs => b.length ≤ m ∧ Lib.validD b = true) (fun l p => textP l m p) bufB where
  fwd a c b hb := by
    show textP _ _ _ = _
    unfold textP
    rw [(bytesC hm).fwd a c b hb.1, thenOk, if_pos hb.2]
  inv l p b q hp h := by
    obtain ⟨n, a, h1, h2⟩ := then_inv h
    split at h2
    · rename_i hv
      obtain ⟨rfl, rfl⟩ := okInj h2
      obtain ⟨d, e⟩ := (bytesC hm).inv l p n a hp h1
      exact ⟨⟨d, hv⟩, e⟩
    · cases h2
section
variable {α : Type} {D : α → Prop} {P : Bs → Nat → PR α} {B : α → Bs}
theorem flat_ge {k : Nat} (hk : ∀ x, D x → k ≤ (B x).length) : ∀ xs : List α, (∀ x ∈ xs, D x) → k * xs.length ≤ (xs.flatMap B).length
  | [], _ => by simp
  | x :: r, h => by
    have h1 := hk x (h x (List.mem_cons_self ..))
    have h2 := flat_ge hk r fun y hy => h y (List.mem_cons_of_mem _ hy)
    rw [List.length_cons, List.flatMap_cons, List.length_append, Nat.mul_succ]; omega
end
end Go.Proofs.YthpjneobmmpbnaaGreatDoor
namespace Go.Proofs.YthpjneobmmpbnaaGreatDoor
open Go.RowKit Go.MapKept
def RefCloneDlP (t : DlT) (w : World) (e : Ending) (w' : World) : Prop := (∃ h', e = .returned (dlV h') ∧ DlAt w' (NfR w' w.heap.size) h' t) ∧ Below w.heap.size w w'
set_option maxRecDepth 100000 in
set_option maxHeartbeats 20000000 in
theorem refCloneDl_any (h : DlH) (t : DlT) (w : World) (R : Nat → Prop) (ht : DlAt w R h t) (hok : DlSm 1048576 t) : Calls Tryz.prog 14 #[dlV h] w (RefCloneDlP t w) := by
  have HS := Lib.hid (CnSt.start w #[.int .i64 h.se, .int .i32 h.xi, .int .i64 h.zx, .int .i64 h.ti, .int .i32 h.t.n.ty, .string h.t.n.path, slV h.t.d, slV h.t.a, .int .i64 h.t.n.ow, .int .i32 h.t.n.ve, .int .i32 h.t.n.cr, .bool h.t.n.qh, .int .i64 h.t.n.qc, .int .i64 h.t.n.qb, .int .i64 h.t.n.si, .int .i32 h.t.n.st, slV h.t.i, slV h.t.p, .int .i32 h.t.n.co, slV h.t.s] #[.int .i64 0, .int .i32 0, .int .i64 0, .int .i64 0, .int .i32 0, .string ⟨#[]⟩, .slice none 0 0, .slice none 0 0, .int .i64 0, .int .i32 0, .int .i32 0, .bool false, .int .i64 0, .int .i64 0, .int .i64 0, .int .i32 0, .slice none 0 0, .slice none 0 0, .int .i32 0, .slice none 0 0] 35)
  have HC := Lib.hid (fun (W : World) (hW : Below w.heap.size w W) => refCloneTx_any t.t h.t W _ (TrAt.fr kTxOk (R' := R) ht.2 (Fr.of_below (own := []) hW) (fun b _ h => ⟨by simp, h⟩)) hok.2)
  have HE := Lib.hid ht.1
  have r0 : ((w.alloc (.cells #[.int .i64 h.se, .int .i32 h.xi, .int .i64 h.zx, .int .i64 h.ti, .int .i32 h.t.n.ty, .string h.t.n.path, slV h.t.d, slV h.t.a, .int .i64 h.t.n.ow, .int .i32 h.t.n.ve, .int .i32 h.t.n.cr, .bool h.t.n.qh, .int .i64 h.t.n.qc, .int .i64 h.t.n.qb, .int .i64 h.t.n.si, .int .i32 h.t.n.st, slV h.t.i, slV h.t.p, .int .i32 h.t.n.co, slV h.t.s] 35)).alloc (.cells #[.int .i64 0, .int .i32 0, .int .i64 0, .int .i64 0, .int .i32 0, .string ⟨#[]⟩, .slice none 0 0, .slice none 0 0, .int .i64 0, .int .i32 0, .int .i32 0, .bool false, .int .i64 0, .int .i64 0, .int .i64 0, .int .i32 0, .slice none 0 0, .slice none 0 0, .int .i32 0, .slice none 0 0] 35)).rangeAt w.heap.size 4 (encTx h.t) := rangeAt_heapC (pre := [.int .i64 h.se, .int .i32 h.xi, .int .i64 h.zx, .int .i64 h.ti]) (mid := encTx h.t) (post := []) HS.out.c rfl rfl
  clear ht hok
  go_enter Tryz.func14, Tryz.ntmps14
  go_wp2_with (first
    | (apply wpList_storeTop 35 35; exact rfl; exact rfl; exact rfl; (first | (with_reducible rfl) | (exact sz1 _ _) | (exact sz2 _ _ _) | (exact sz3 _ _ _ _)); exact rfl; exact infDl; exact rfl; simp [Value.oneCell'])
    | (apply wpList_loadMid 33; exact rfl; exact rfl; exact rfl; assumption; exact undTx; exact rfl; exact infTx)
    | fail)
  refine (HC.out _ HS.out.b).mono ?_
  generalize ((w.alloc (.cells #[.int .i64 h.se, .int .i32 h.xi, .int .i64 h.zx, .int .i64 h.ti, .int .i32 h.t.n.ty, .string h.t.n.path, slV h.t.d, slV h.t.a, .int .i64 h.t.n.ow, .int .i32 h.t.n.ve, .int .i32 h.t.n.cr, .bool h.t.n.qh, .int .i64 h.t.n.qc, .int .i64 h.t.n.qb, .int .i64 h.t.n.si, .int .i32 h.t.n.st, slV h.t.i, slV h.t.p, .int .i32 h.t.n.co, slV h.t.s] 35)).alloc (.cells #[.int .i64 0, .int .i32 0, .int .i64 0, .int .i64 0, .int .i32 0, .string ⟨#[]⟩, .slice none 0 0, .slice none 0 0, .int .i64 0, .int .i32 0, .int .i32 0, .bool false, .int .i64 0, .int .i64 0, .int .i64 0, .int .i32 0, .slice none 0 0, .slice none 0 0, .int .i32 0, .slice none 0 0] 35)) = V0 at *
  rintro e w1 ⟨⟨h6, rfl, ht6⟩, hb⟩
  have HB1 := Lib.hid hb
  have HSZ := Lib.hid HS.out.s
  replace HS := Lib.hid (HS.out.call hb)
  have hth : w1.there w.heap.size 4 16 := there_heap HS.out.c _ _ (Nat.le_refl _)
  have hF := fr_setCells w1 w.heap.size 4 (encTx h6)
  have gZ : (w1.setCells w.heap.size 4 (encTx h6)).heap[w.heap.size + 1]? = some (.cells #[.int .i64 0, .int .i32 0, .int .i64 0, .int .i64 0, .int .i32 0, .string ⟨#[]⟩, .slice none 0 0, .slice none 0 0, .int .i64 0, .int .i32 0, .int .i32 0, .bool false, .int .i64 0, .int .i64 0, .int .i64 0, .int .i32 0, .slice none 0 0, .slice none 0 0, .int .i32 0, .slice none 0 0] 35 (0, 0)) := (hF.block _ (by have := HS.out.s; omega) (by simp)).trans HS.out.z
  have hp : (w1.setCells w.heap.size 4 (encTx h6)).rangeAt w.heap.size 0 [.int .i64 h.se, .int .i32 h.xi, .int .i64 h.zx, .int .i64 h.ti] := World.rangeAt_setCells_apart (rangeAt_heapC (pre := []) (mid := [.int .i64 h.se, .int .i32 h.xi, .int .i64 h.zx, .int .i64 h.ti]) (post := [.int .i32 h.t.n.ty, .string h.t.n.path, slV h.t.d, slV h.t.a, .int .i64 h.t.n.ow, .int .i32 h.t.n.ve, .int .i32 h.t.n.cr, .bool h.t.n.qh, .int .i64 h.t.n.qc, .int .i64 h.t.n.qb, .int .i64 h.t.n.si, .int .i32 h.t.n.st, slV h.t.i, slV h.t.p, .int .i32 h.t.n.co, slV h.t.s]) HS.out.c rfl rfl) _ _ _ (.inr (.inl (by simp)))
  have hrr : (w1.setCells w.heap.size 4 (encTx h6)).rangeAt w.heap.size 0 (encDl ⟨h.se, h.xi, h.zx, h.ti, h6⟩) := rangeAt_join hp (World.rangeAt_setCells_same w1 w.heap.size 4 (encTx h6) hth) rfl
  have ht7 : TxAt (w1.setCells w.heap.size 4 (encTx h6)) (NfR (w1.setCells w.heap.size 4 (encTx h6)) (w.heap.size + 2)) h6 t.t := TrAt.fr kTxOk ht6 hF (fun b _ h => by
    have hn : b ∉ [w.heap.size] := by have := HSZ.out; have := h.1; simp; omega
    exact ⟨hn, h.fr hF hn HSZ.out⟩)
  have HT7 := Lib.hid ht7; have HG := Lib.hid (And.intro (hF.below HS.out.b.size (by simp)) gZ)
  have HF := Lib.hid hF
  clear ht6 hb ht7 hp hF
  go_wp2_with (first
    | (apply wpList_storeMid 33; exact rfl; exact rfl; exact rfl; exact rfl; assumption; exact infTx; simp [Value.oneCell'])
    | (apply wpList_loadMid 35; exact rfl; exact rfl; exact rfl; assumption; exact undDl; exact rfl; exact infDl)
    | (apply wpList_storeRow 35 35; exact rfl; exact rfl; exact rfl; exact rfl; (first | assumption | (refine heap_under ?_; assumption) | (exact heap_s0 _ _) | (exact heap_s1 _ _ _) | (exact heap_s2 _ _ _ _) | (exact heap_s3 _ _ _ _ _) | (exact heap_under (heap_s0 _ _)) | (exact heap_under (heap_s1 _ _ _)) | (exact heap_under (heap_s2 _ _ _ _)) | (exact heap_under (heap_under (heap_s0 _ _))) | (exact heap_under (heap_under (heap_s1 _ _ _))) | (exact heap_under (heap_under (heap_under (heap_s0 _ _))))); exact infDl; exact rfl; simp [Value.oneCell'])
    | fail)
  have hFr := fr_setRow9 (w1.setCells w.heap.size 4 (encTx h6)) (w.heap.size + 1) (encDl ⟨h.se, h.xi, h.zx, h.ti, h6⟩).toArray
  exact bodyPost_cell rfl rfl (setRow_heap _ _ _ _ _ _ gZ) undDl rfl infDl rfl ⟨⟨⟨h.se, h.xi, h.zx, h.ti, h6⟩, rfl, ⟨HE.out, TrAt.fr kTxOk HT7.out hFr (fun b _ h => by
    have hn : b ∉ [w.heap.size + 1] := by have := h.1; simp; omega
    exact ⟨hn, h.fr hFr hn (by omega)⟩)⟩⟩, below_setRow (HS.out.b.trans HG.out.1) (by omega) _⟩
end Go.Proofs.YthpjneobmmpbnaaGreatDoor
namespace Go.Proofs.YthpjneobmmpbnaaGreatDoor
open Go.RowKit
set_option maxHeartbeats 1000000 in
theorem refAcls_any (A A' : Option Addr) (n m c c' : Nat) (xs ys : List AclV) (w : World) (B : Nat) (hx : Sl w B encAcl 3 A n xs) (hy : Sl w B encAcl 3 A' m ys) (hn : n ≤ 281474976710656) (hm : m ≤ 281474976710656) :
    Calls Tryz.prog 92 #[.slice A n c, .slice A' m c'] w (QuietB w (decide (xs = ys))) := by
  by_cases hnm : n = m
  · subst hnm
    have hlen : xs.length = ys.length := hx.1.trans hy.1.symm
    have HL := Lib.hid hlen; have HXL := Lib.hid hx.1; clear hlen
    have hneq := neqAcl
    go_enter Tryz.func92, Tryz.ntmps92
    go_wp2
    go_loopw [5] (fun i wr => ∃ (k q : Nat), i = .int .i64 ↑k ∧ k ≤ n ∧ (∀ j, j < k → xs[j]! = ys[j]!) ∧ wr = w.drewN q) (fun i _ => n - (RowKit.intOf i).toNat)
    case atStart => exact ⟨0, 0, rfl, by omega, fun j hj => absurd hj (by omega), rfl⟩
    case round =>
      obtain ⟨k, q, rfl, hk, hall, rfl⟩ := hrel
      have HA := Lib.hid hall; clear hall
      by_cases hlt : k < n
      · obtain ⟨b, off, rfl, _, x0, x1, x2⟩ := SlAcl.at_ hx hlt
        obtain ⟨b', off', rfl, _, y0, y1, y2⟩ := SlAcl.at_ hy hlt
        have hyl : k < ys.length := by have := hy.1; omega
        by_cases he : xs[k]! = ys[k]!
        · have HA1 := Lib.hid (show ∀ j, j < k + 1 → xs[j]! = ys[j]! from fun j hj => by rcases Nat.lt_succ_iff_lt_or_eq.1 hj with h | rfl; exact HA.out j h; exact he)
          rw [he] at x0 x1 x2
          clear he
          generalize ys[k]! = y at *
          obtain ⟨p, s, t⟩ := y
          have hq := fun w : World => (neqAcl w s t s t p p).trans (by simp : _ = Result.ok (.bool false) w)
          clear hneq
          go_wp2
          go_quiet (fail)
          go_wp2
          go_roundw
          case rel => exact ⟨k + 1, q + nq, by go_num, by omega, HA1.out, rfl⟩
          case measure => simp [RowKit.intOf]; omega
        · have HE := Lib.hid (show decide (xs = ys) = false from decide_eq_false fun e => he (by rw [e]))
          have hd : (!decide (xs[k]! = ys[k]!)) = true := by rw [decide_eq_false he]; rfl
          have HW := Lib.hid hd
          clear he hd
          generalize xs[k]! = x at *
          generalize ys[k]! = y at *
          obtain ⟨p, s, t⟩ := x
          obtain ⟨p', s', t'⟩ := y
          have hq := fun w : World => (neqAcl w s t s' t' p p').trans (by rw [HW.out] : _ = Result.ok (.bool true) w)
          clear hneq
          go_wp2
          go_quiet (fail)
          go_wp2
          go_ret
          exact QuietB.mk ⟨q + nq, World.drewN_drewN ..⟩ HE.out.symm
      · have HE := Lib.hid (show decide (xs = ys) = true from decide_eq_true (list_ext_bang HL.out fun j hj => HA.out j (by have := HXL.out; omega)))
        go_wp2
        go_ret
        exact QuietB.mk ⟨q, rfl⟩ HE.out.symm
  · have HE := Lib.hid (show decide (xs = ys) = false from decide_eq_false fun e => hnm (by rw [← hx.1, ← hy.1, e]))
    have hd : ((n : Int) != (m : Int)) = true := by simp; omega
    clear hnm
    go_enter Tryz.func92, Tryz.ntmps92
    go_wp2
    go_ret
    exact QuietB.mk ⟨0, rfl⟩ HE.out.symm

set_option maxRecDepth 100000 in
theorem conv_slR {w : World} {R : Nat → Prop} {A : Option Addr} {n c : Nat} {l : Bs} (h : SlR w R enc8 1 (A, n, c) l) : (convert 22 9 (.slice A n c)).run Tryz.prog w = .ok (.string ⟨l.toArray⟩) w := by
  cases A with
  | none =>
    obtain ⟨h1, h2⟩ := h.hd.1 rfl
    have h1' : n = 0 := h1; have h2' : c = 0 := h2
    subst h1' h2'
    have hl : l = [] := List.length_eq_zero_iff.1 h.len
    subst hl
    exact Lib.run_convert_nil_bytes w 22 9 5 0 Tryz.underlying22 Tryz.underlying5 Tryz.underlying9
  | some a =>
    have hl : l.length = n := h.len
    subst hl
    have hU1 := Tryz.underlying22; have hU2 := Tryz.underlying5; have hU3 := Tryz.underlying9
    by_cases h0 : 0 < l.length
    · obtain ⟨b, off, e, _, hc⟩ := h.2.2 h0
      have e' : some a = some (⟨b, off, none⟩ : Addr) := e
      injection e' with e'
      subst e'
      refine run_convert_bytes_back w 22 9 5 ⟨b, off, none⟩ c l hU1 hU2 hU3 (fun j hj => ?_)
      have := hc j hj 0 (.int .u8 (l[j].toNat : Int)) (by rw [getElem!_pos l j hj]; rfl)
      rw [Addr.add_lit]
      simpa using this
    · refine run_convert_bytes_back w 22 9 5 a c l hU1 hU2 hU3 (fun j hj => absurd hj (by omega))
end Go.Proofs.YthpjneobmmpbnaaGreatDoor
