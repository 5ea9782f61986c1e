/- AclBytes: what is written is what the document writes; what is read is what the document reads. -/
import Derived.Test.YtibklpbnjpefnaaGreatDoorJutV
import Derived.Test.YtibklpbnjpefnaaGreatDoorAclLive
namespace Go.Proofs.YtibklpbnjpefnaaGreatDoor
open Go.RowKit Go.MapKept Go.Maps
theorem no6_q (k : Int) (w : World) (q : Nat) : Calls Tryz.prog 17 #[.int .i64 k] (w.drewN q) fun e w' => e = .returned (.int .i64 k) ∧ ∃ n, w' = w.drewN n := by
  refine (no6_any k (w.drewN q)).mono ?_
  rintro e w' ⟨rfl, n, rfl⟩
  exact ⟨rfl, q + n, World.drewN_drewN ..⟩
theorem repP_len {α : Type} {f : Nat → PR α} : ∀ (n p : Nat) {xs : List α} {q : Nat}, repP f n p = .ok (xs, q) → xs.length = n
  | 0, p, xs, q, h => by
    injection h with h
    injection h with h _
    rw [← h]; rfl
  | n + 1, p, xs, q, h => by
    have h1 : ((f p).then fun x a => (repP f n a).then fun l b => .ok (x :: l, b)) = .ok (xs, q) := h
    rcases hf : f p with e | ⟨x, a⟩
    · rw [hf] at h1; cases h1
    · rw [hf] at h1
      rcases hr : repP f n a with e | ⟨l, b⟩
      · have h2 : ((repP f n a).then fun l b => (.ok (x :: l, b) : PR (List α))) = .ok (xs, q) := h1
        rw [hr] at h2; cases h2
      · have h2 : ((repP f n a).then fun l b => (.ok (x :: l, b) : PR (List α))) = .ok (xs, q) := h1
        rw [hr] at h2
        injection h2 with h2
        injection h2 with h2 _
        rw [← h2, List.length_cons, repP_len n a hr]
theorem listP_len {α : Type} {l : Bs} {m k p q : Nat} {f : Nat → PR α} {xs : List α} (h : listP l m k f p = .ok (xs, q)) : xs.length ≤ m := by
  unfold listP at h
  rcases hc : countP l m k p with e | ⟨n, a⟩
  · rw [hc] at h; cases h
  · rw [hc] at h
    have h2 : repP f n a = .ok (xs, q) := h
    rw [repP_len n a h2]
    exact (countP_ok hc).2
theorem row_ge {w : World} {base n c k : Nat} {T : TypeId} {A : Option Addr} {xs : List Value} (h : w.ownsRow base T k (.slice A n c) n xs) {a : Addr} (ha : A = some a) : base ≤ a.block := by
  subst ha
  rcases h.2 with h0 | ⟨g, cap, cur, e, hge, _⟩
  · cases h0.1
  · injection e with e _ _
    injection e with e
    rw [e]; exact hge
theorem TabsR.of {w W : World} {rb : Nat} (hT : Lib.Utf8Tabs 0 1 w) (hb : Below w.heap.size w W) (hle : w.heap.size ≤ rb) : TabsR rb W :=
  ⟨Utf8Tabs_below hT hb, Nat.lt_of_lt_of_le (World.block_lt_of_cell? w _ (hT.1 0 (by decide))) hle, Nat.lt_of_lt_of_le (World.block_lt_of_cell? w _ (hT.2 0 (by decide)).1) hle⟩
theorem ReadOut.gen {α : Type} {l : Bs} {x : PR α} {P : World → α → World → Prop} {R : World → World → Prop} {xb : List Nat} {w w' : World} {e : Ending} (hin : x.within l) (h : ReadOut x P R xb w e w') :
    ∃ (q : Nat) (k : Int), e = .returned (.tuple #[.int .i64 (q : Int), .int .i64 k]) ∧ Fr xb w w' ∧ ∃ W, Below w.heap.size w W ∧ ((k = 0 ∧ ∃ v, x = .ok (v, q) ∧ P W v w') ∨ (k ≠ 0 ∧ x = .error (q, k) ∧ R W w')) := by
  obtain ⟨hf, W, hb, h⟩ := h
  rcases x with ⟨q, k⟩ | ⟨v, q⟩
  · exact ⟨q, k, h.1, hf, W, hb, .inr ⟨hin.2, rfl, h.2⟩⟩
  · exact ⟨q, 0, h.1, hf, W, hb, .inl ⟨rfl, v, rfl, h.2⟩⟩
theorem aclP_in {l : Bs} {p : Nat} (hp : p ≤ l.length) : (aclP l p).within l := (intP_in hp).bind fun _ _ _ h => (idP_in h).bind fun _ _ _ h => h
theorem rf_new {w : World} {A : Option Addr} {n c : Nat} {l : Bs} (h : ArgB w A n c l) : Rf (w.alloc (.cells #[.slice A n c, .int .i64 0, .int .i64 0] 46)) w.heap.size A n c l 0 0 :=
  ⟨heap_alloc_new w _, h.1.below ((Below.refl _ w).alloc (Nat.le_refl _) _), Nat.zero_le _, h.2.2.1, h.2.2.2, h.2.1⟩
/-- a Writer that has nothing, later -/
theorem WrB.start {w w' : World} (hb : Below (w.alloc (.cells #[.slice none 0 0] 27)).heap.size (w.alloc (.cells #[.slice none 0 0] 27)) w') : WrB w' w.heap.size w'.heap.size [] := by
  have hs : (w.alloc (.cells #[.slice none 0 0] 27)).heap.size = w.heap.size + 1 := by simp
  have h1 := hb.size
  exact ⟨by omega, Nat.le_refl _, none, 0, (hb.block w.heap.size (by omega)).trans (heap_alloc_new w _), World.ownsRow_nil _ _ _ _⟩
theorem flat_len2 {α : Type} [Inhabited α] (f : α → Bs) (zs : List α) (m : Nat) (h : ∀ j, j < zs.length → (f zs[j]!).length ≤ m) : (zs.flatMap f).length ≤ zs.length * m := by
  have := flat_small f zs m h zs.length (Nat.le_refl _)
  rwa [List.take_length] at this
theorem ArgA.bytes {w : World} {A : Option Addr} {n c : Nat} {l : List AclV} (h : ArgA w A n c l) : (beB n 4 ++ l.flatMap aclB).length ≤ 70368744177664 := by
  have h1 := flat_len2 aclB l 2097164 (fun j hj => by have := h.2.2.2 j (by rw [h.1.len] at hj; exact hj); rw [aclB_len]; omega)
  rw [h.1.len] at h1
  rw [List.length_append, beB_len]
  have h2 := h.2.2.1
  have : n * 2097164 ≤ 1048576 * 2097164 := Nat.mul_le_mul_right _ h2
  omega
theorem ArgI.bytes {w : World} {A : Option Addr} {n c : Nat} {l : List IdV} (h : ArgI w A n c l) : (beB n 4 ++ l.flatMap idB).length ≤ 70368744177664 := by
  have h1 := flat_len2 idB l 2097164 (fun j hj => by have := h.2.2.2 j (by rw [h.1.len] at hj; exact hj); rw [idB_len]; omega)
  rw [h.1.len] at h1
  rw [List.length_append, beB_len]
  have h2 := h.2.2.1
  have : n * 2097164 ≤ 1048576 * 2097164 := Nat.mul_le_mul_right _ h2
  omega
/-- a list that was read -/
def XSId (xb : Nat) (v : List (Bs × Bs)) (w' : World) : Prop := ∃ B d u, w'.heap[xb]? = some (.cells #[u, .slice B v.length d] 39 (0, 0)) ∧ Sl w' w'.heap.size encId 2 B v.length (v.map idV)
set_option maxRecDepth 100000 in
theorem readId6_any {w : World} {xb n c : Nat} {A : Option Addr} {l : Bs} (hB : ArgB w A n c l) (hT : Lib.Utf8Tabs 0 1 w) (hx : ∃ u1 u2, w.heap[xb]? = some (.cells #[u1, u2] 39 (0, 0))) (hxl : xb < w.heap.size) :
    Calls Tryz.prog 14 #[.slice A n c, .func (.func 19) #[.pointer (some ⟨xb, 0, none⟩)] #[]] w fun e w' => ∃ (q : Nat) (k : Int), e = .returned (.tuple #[.int .i64 (q : Int), .int .i64 k]) ∧ Fr [xb] w w' ∧
      ((k = 0 ∧ ∃ v, listP l 16 8 (idP l) 0 = .ok (v, q) ∧ XSId xb v w') ∨ (k ≠ 0 ∧ listP l 16 8 (idP l) 0 = .error (q, k))) ∧ (∃ u1 u2, w'.heap[xb]? = some (.cells #[u1, u2] 39 (0, 0))) := by
  have hin : (listP l 16 8 (idP l) 0).within l := listP_in 16 8 (fun p hp => idP_in hp) (Nat.zero_le _)
  refine (read_any (listP l 16 8 (idP l) 0) (fun W v w' => XId xb W v w') (fun _ w' => ∃ u1 u2, w'.heap[xb]? = some (.cells #[u1, u2] 39 (0, 0))) [xb] 19 #[.pointer (some ⟨xb, 0, none⟩)] #[]
    hB.1 hB.2.2.1 hB.2.2.2 hB.2.1 (enters_of Tryz.func19 (by kernel_rfl) rfl) (fun g hg => by rw [List.mem_singleton.1 hg]; exact hxl) ?_ ?_ ?_).mono ?_
  · rintro W v w1 w2 own ⟨B, d, u, h1, h2⟩ hf ho
    exact ⟨B, d, u, (hf.block xb (Array.getElem?_eq_some_iff.1 h1).1 (fun hm => by have := ho xb hm; omega)).trans h1, own_fr h2 hf fun g hg => (ho g hg).2⟩
  · rintro W w1 w2 own ⟨u1, u2, h1⟩ hf ho
    exact ⟨u1, u2, (hf.block xb (Array.getElem?_eq_some_iff.1 h1).1 (fun hm => by have := ho xb hm; omega)).trans h1⟩
  · intro W rb hbW hle hrd
    obtain ⟨u1, u2, hx⟩ := hx
    have h1 := xgetIds6_any hrd (TabsR.of hT hbW hle) ((hbW.block xb hxl).trans hx) (by omega)
    refine (show Calls Tryz.prog 19 ((#[.pointer (some ⟨xb, 0, none⟩)] : Array Value).push (.pointer (some ⟨rb, 0, none⟩)) ++ #[]) W _ from h1).mono ?_
    rintro e w' ⟨hf, hm⟩
    refine ⟨hf, ?_⟩
    generalize listP l 16 8 (idP l) 0 = y at hm ⊢
    rcases y with ⟨q, k⟩ | ⟨v, q⟩
    · exact hm
    · exact hm
  · intro e w' h
    obtain ⟨q, k, rfl, hf, W, hbW, hh⟩ := h.gen hin
    refine ⟨q, k, rfl, hf, ?_, ?_⟩
    · rcases hh with ⟨hk, v, hv, B, d, u, h1, h2⟩ | ⟨hk, hv, _⟩
      · exact .inl ⟨hk, v, hv, B, d, u, h1, Sl.of_own (fun _ => rfl) h2 (by simp)⟩
      · exact .inr ⟨hk, hv⟩
    · rcases hh with ⟨hk, v, hv, B, d, u, h1, h2⟩ | ⟨hk, hv, h1⟩
      · exact ⟨_, _, h1⟩
      · exact h1
/-- a list that was read -/
def XSAcl (xb : Nat) (v : List (Int × Bs × Bs)) (w' : World) : Prop := ∃ B d u, w'.heap[xb]? = some (.cells #[.slice B v.length d, u] 39 (0, 0)) ∧ Sl w' w'.heap.size encAcl 3 B v.length (v.map aclV)
set_option maxRecDepth 100000 in
theorem readAcl6_any {w : World} {xb n c : Nat} {A : Option Addr} {l : Bs} (hB : ArgB w A n c l) (hT : Lib.Utf8Tabs 0 1 w) (hx : ∃ u1 u2, w.heap[xb]? = some (.cells #[u1, u2] 39 (0, 0))) (hxl : xb < w.heap.size) :
    Calls Tryz.prog 14 #[.slice A n c, .func (.func 15) #[.pointer (some ⟨xb, 0, none⟩)] #[]] w fun e w' => ∃ (q : Nat) (k : Int), e = .returned (.tuple #[.int .i64 (q : Int), .int .i64 k]) ∧ Fr [xb] w w' ∧
      ((k = 0 ∧ ∃ v, listP l 16 12 (aclP l) 0 = .ok (v, q) ∧ XSAcl xb v w') ∨ (k ≠ 0 ∧ listP l 16 12 (aclP l) 0 = .error (q, k))) ∧ (∃ u1 u2, w'.heap[xb]? = some (.cells #[u1, u2] 39 (0, 0))) := by
  have hin : (listP l 16 12 (aclP l) 0).within l := listP_in 16 12 (fun p hp => aclP_in hp) (Nat.zero_le _)
  refine (read_any (listP l 16 12 (aclP l) 0) (fun W v w' => XAcl xb W v w') (fun _ w' => ∃ u1 u2, w'.heap[xb]? = some (.cells #[u1, u2] 39 (0, 0))) [xb] 15 #[.pointer (some ⟨xb, 0, none⟩)] #[]
    hB.1 hB.2.2.1 hB.2.2.2 hB.2.1 (enters_of Tryz.func15 (by kernel_rfl) rfl) (fun g hg => by rw [List.mem_singleton.1 hg]; exact hxl) ?_ ?_ ?_).mono ?_
  · rintro W v w1 w2 own ⟨B, d, u, h1, h2⟩ hf ho
    exact ⟨B, d, u, (hf.block xb (Array.getElem?_eq_some_iff.1 h1).1 (fun hm => by have := ho xb hm; omega)).trans h1, own_fr h2 hf fun g hg => (ho g hg).2⟩
  · rintro W w1 w2 own ⟨u1, u2, h1⟩ hf ho
    exact ⟨u1, u2, (hf.block xb (Array.getElem?_eq_some_iff.1 h1).1 (fun hm => by have := ho xb hm; omega)).trans h1⟩
  · intro W rb hbW hle hrd
    obtain ⟨u1, u2, hx⟩ := hx
    have h1 := xgetAcl6_any hrd (TabsR.of hT hbW hle) ((hbW.block xb hxl).trans hx) (by omega)
    refine (show Calls Tryz.prog 15 ((#[.pointer (some ⟨xb, 0, none⟩)] : Array Value).push (.pointer (some ⟨rb, 0, none⟩)) ++ #[]) W _ from h1).mono ?_
    rintro e w' ⟨hf, hm⟩
    refine ⟨hf, ?_⟩
    generalize listP l 16 12 (aclP l) 0 = y at hm ⊢
    rcases y with ⟨q, k⟩ | ⟨v, q⟩
    · exact hm
    · exact hm
  · intro e w' h
    obtain ⟨q, k, rfl, hf, W, hbW, hh⟩ := h.gen hin
    refine ⟨q, k, rfl, hf, ?_, ?_⟩
    · rcases hh with ⟨hk, v, hv, B, d, u, h1, h2⟩ | ⟨hk, hv, _⟩
      · exact .inl ⟨hk, v, hv, B, d, u, h1, Sl.of_own (fun _ => rfl) h2 (by simp)⟩
      · exact .inr ⟨hk, hv⟩
    · rcases hh with ⟨hk, v, hv, B, d, u, h1, h2⟩ | ⟨hk, hv, h1⟩
      · exact ⟨_, _, h1⟩
      · exact h1
set_option maxRecDepth 100000 in
set_option maxHeartbeats 2000000 in
theorem aclBytes_any (A0 : Option Addr) (n0 c0 : Nat) (l0 : List AclV) (A1 : Option Addr) (n1 c1 : Nat) (l1 : List IdV) (A2 : Option Addr) (n2 c2 : Nat) (l2 : Bs) (w : World) (hE : Env w) (o0 : ArgA w A0 n0 c0 l0) (o1 : ArgI w A1 n1 c1 l1) (o2 : ArgB w A2 n2 c2 l2) :
    Calls Tryz.prog 3 #[.slice A0 n0 c0, .slice A1 n1 c1, .slice A2 n2 c2] w fun e w' => e = .returned (.bool true) ∧ Below w.heap.size w w' := by
  have hmf : ∀ (fn : Fn) (first cap : Array Value) (w : World), (Instr.makeFunc fn first cap).run Tryz.prog w = .ok (.func fn first cap) w := fun _ _ _ _ => rfl
  have HE := Lib.hid hE; have HO0 := Lib.hid o0; have HO1 := Lib.hid o1; have HO2 := Lib.hid o2
  obtain ⟨wl, hwl⟩ : ∃ wl, Hid (beB n0 4 ++ l0.flatMap aclB = wl) := ⟨_, Lib.hid rfl⟩
  obtain ⟨vl, hvl⟩ : ∃ vl, Hid (beB n1 4 ++ l1.flatMap idB = vl) := ⟨_, Lib.hid rfl⟩
  have HWL := Lib.hid (show wl.length ≤ 70368744177664 by rw [← hwl.out]; exact o0.bytes)
  have HVL := Lib.hid (show vl.length ≤ 70368744177664 by rw [← hvl.out]; exact o1.bytes)
  have HS0 := Lib.hid (show w.heap.size < (w.alloc (.cells #[.slice none 0 0] 27)).heap.size by simp)
  have HB0 := Lib.hid ((Below.refl _ w).alloc (Nat.le_refl _) (.cells #[.slice none 0 0] 27))
  clear hE o0 o1 o2
  go_enter Tryz.func3, Tryz.ntmps3
  go_wp2_with fail
  have hW1 := fun w' (hb : Below (w.alloc (.cells #[.slice none 0 0] 27)).heap.size (w.alloc (.cells #[.slice none 0 0] 27)) w') => WrB.start hb
  have HW1 := Lib.hid hW1
  clear hW1
  generalize w.alloc (.cells #[.slice none 0 0] 27) = W0 at *
  have hA0 := HO0.out.below HB0.out
  refine (own_any A0 n0 c0 l0 W0 hA0.1 (Nat.le_trans hA0.2.2.1 (by decide)) hA0.2.1).mono ?_
  rintro e w1 ⟨⟨A3, c3, rfl, hrow⟩, hb⟩
  have HB1 := Lib.hid (HB0.out.trans (hb.mono HB0.out.size))
  have HA3 := Lib.hid (hA0.own hrow)
  have HWR := Lib.hid (HW1.out w1 hb)
  have HNE := Lib.hid (show ∀ a, A3 = some a → a.block ≠ w.heap.size from fun a ha => by
    exact Nat.ne_of_gt (Nat.lt_of_lt_of_le HS0.out (row_ge hrow ha)))
  clear hA0 hrow hb
  go_wp2_with fail
  refine (aclPut_any w.heap.size w1.heap.size [] A3 n0 c3 l0 w1 HWR.out HA3.out.1 HNE.out (by simp) HA3.out.2.2.1 (fun j hj => (HA3.out.2.2.2 j hj).1)).mono ?_
  rintro e w2 ⟨rfl, hw, hk⟩
  rw [List.nil_append, hwl.out] at hw
  have HW2 := Lib.hid hw
  have HB2 := Lib.hid (HB1.out.trans (hk.below (Nat.le_refl _) HB1.out.size HB1.out.size))
  have hN0 := HB1.out.size
  clear hw hk HWR HA3 HNE HW1 HS0
  -- the identities
  have hs3 : w2.heap.size < (w2.alloc (.cells #[.slice none 0 0] 27)).heap.size := by simp
  have HS3 := Lib.hid hs3
  have HB3 := Lib.hid ((Below.refl _ w2).alloc (Nat.le_refl _) (.cells #[.slice none 0 0] 27))
  have HV1 := Lib.hid (fun w' (hb : Below (w2.alloc (.cells #[.slice none 0 0] 27)).heap.size (w2.alloc (.cells #[.slice none 0 0] 27)) w') => WrB.start hb)
  clear hs3
  go_wp2_with fail
  generalize w2.alloc (.cells #[.slice none 0 0] 27) = W3 at *
  have hI0 := (HO1.out.below HB2.out).below HB3.out
  refine (ownIds_any A1 n1 c1 l1 W3 hI0.1 (Nat.le_trans hI0.2.2.1 (by decide)) hI0.2.1).mono ?_
  rintro e w4 ⟨⟨A4, c4, rfl, hrow⟩, hb⟩
  have HB4 := Lib.hid (HB3.out.trans (hb.mono HB3.out.size))
  have HA4 := Lib.hid (hI0.own hrow)
  have HVR := Lib.hid (HV1.out w4 hb)
  have HNV := Lib.hid (show ∀ a, A4 = some a → a.block ≠ w2.heap.size from fun a ha => Nat.ne_of_gt (Nat.lt_of_lt_of_le HS3.out (row_ge hrow ha)))
  clear hI0 hrow hb
  go_wp2_with fail
  refine (aclPutIds_any w2.heap.size w4.heap.size [] A4 n1 c4 l1 w4 HVR.out HA4.out.1 HNV.out (by simp) HA4.out.2.2.1 (fun j hj => HA4.out.2.2.2 j hj)).mono ?_
  rintro e w5 ⟨rfl, hw, hk⟩
  rw [List.nil_append, hvl.out] at hw
  have HV5 := Lib.hid hw
  have HBv := Lib.hid (HB4.out.trans (hk.below (Nat.le_refl _) HB4.out.size HB4.out.size))
  have HW5 := Lib.hid (HW2.out.below HBv.out)
  have HB5 := Lib.hid (HB2.out.trans (HBv.out.mono HB2.out.size))
  clear hw hk HVR HA4 HNV HV1 HS3 HB3 HB4 HW2
  -- bytes of the first Writer
  go_wp2_with fail
  refine (wBytes_any w.heap.size w1.heap.size wl w5 HW5.out HWL.out).mono ?_
  rintro e w6 ⟨⟨A6, c6, rfl, hr6⟩, hb6⟩
  have HR6 := Lib.hid hr6; have HB6 := Lib.hid (HB5.out.trans (hb6.mono HB5.out.size)); have HV6 := Lib.hid (HV5.out.below hb6)
  clear hr6 hb6
  have hA6 := HO0.out.below HB6.out
  have hP := rwPutAcl_any w6.heap.size none 0 [] A0 n0 c0 l0 w6 (World.ownsRow_nil _ _ _ _) (Nat.le_refl _) hA6.1 (by simp) hA6.2.2.1 (fun j hj => (hA6.2.2.2 j hj).1)
  rw [List.nil_append, hwl.out] at hP
  have HP := Lib.hid (show Calls Tryz.prog 11 #[.slice none 0 0, .slice A0 n0 c0] w6 (RwPost wl w6.heap.size w6) from hP)
  clear hA6 hP
  go_wp2_with fail
  refine HP.out.mono ?_
  rintro e w7 ⟨⟨A7, c7, rfl, hr7⟩, hb7⟩
  have HR7 := Lib.hid hr7; have HB7 := Lib.hid (HB6.out.trans (hb7.mono HB6.out.size)); have HV7 := Lib.hid (HV6.out.below hb7)
  have HR6b := Lib.hid (HR6.out.later hb7)
  clear hr7 hb7 HR6 HV6 HP
  go_wp2_with fail
  refine (sameBytes8_any A6 A7 wl.length wl.length c6 c7 wl wl w7 w7.heap.size (Row8.sl HR6b.out rfl) (Row8.sl HR7.out rfl) (Nat.le_trans HWL.out (by decide)) (Nat.le_trans HWL.out (by decide))).mono ?_
  rintro e w8 ⟨rfl, d8, rfl⟩
  have htt : decide (wl = wl) = true := decide_eq_true rfl
  have HB8 := Lib.hid (drewN_below HB7.out d8)
  have HV8 := Lib.hid (HV7.out.below (drewN_self w7 d8))
  clear HR6b HR7 HV7
  generalize w7.drewN d8 = w8 at *
  go_wp2_with fail
  refine (wBytes_any w2.heap.size w4.heap.size vl w8 HV8.out HVL.out).mono ?_
  rintro e w9 ⟨⟨A9, c9, rfl, hr9⟩, hb9⟩
  have HR9 := Lib.hid hr9; have HB9 := Lib.hid (HB8.out.trans (hb9.mono HB8.out.size))
  clear hr9 hb9
  have hA9 := HO1.out.below HB9.out
  have hP := rwPutIds_any w9.heap.size none 0 [] A1 n1 c1 l1 w9 (World.ownsRow_nil _ _ _ _) (Nat.le_refl _) hA9.1 (by simp) hA9.2.2.1 (fun j hj => hA9.2.2.2 j hj)
  rw [List.nil_append, hvl.out] at hP
  have HP := Lib.hid (show Calls Tryz.prog 12 #[.slice none 0 0, .slice A1 n1 c1] w9 (RwPost vl w9.heap.size w9) from hP)
  clear hA9 hP
  go_wp2_with fail
  refine HP.out.mono ?_
  rintro e w10 ⟨⟨A10, c10, rfl, hr10⟩, hb10⟩
  have HR10 := Lib.hid hr10; have HB10 := Lib.hid (HB9.out.trans (hb10.mono HB9.out.size))
  have HR9b := Lib.hid (HR9.out.later hb10)
  clear hr10 hb10 HR9 HP
  go_wp2_with fail
  refine (sameBytes8_any A9 A10 vl.length vl.length c9 c10 vl vl w10 w10.heap.size (Row8.sl HR9b.out rfl) (Row8.sl HR10.out rfl) (Nat.le_trans HVL.out (by decide)) (Nat.le_trans HVL.out (by decide))).mono ?_
  rintro e w11 ⟨rfl, d11, rfl⟩
  have htv : decide (vl = vl) = true := decide_eq_true rfl
  have HB11 := Lib.hid (drewN_below HB10.out d11)
  clear HR9b HR10
  generalize w10.drewN d11 = w11 at *
  go_wp2_with fail
  refine (live_any w11 (HE.out.later HB11.out)).mono ?_
  rintro e w12 ⟨rfl, hb12⟩
  have HB12 := Lib.hid (HB11.out.trans (hb12.mono HB11.out.size))
  clear hb12 htt htv
  clear HB1 HB2 HBv HW5 HB5 HB6 HB7 HB8 HB9 HB10 HB11 HV5 HV8 HB0 hN0
  -- what is read
  have hx0 := heap_alloc_new w12 (.cells #[.slice none 0 0, .slice none 0 0] 39)
  have hbx : Below w12.heap.size w12 (w12.alloc (.cells #[.slice none 0 0, .slice none 0 0] 39)) := (Below.refl _ w12).alloc (Nat.le_refl _) _
  have HX0 := Lib.hid (show ∃ u1 u2, (w12.alloc (.cells #[.slice none 0 0, .slice none 0 0] 39)).heap[w12.heap.size]? = some (.cells #[u1, u2] 39 (0, 0)) from ⟨_, _, hx0⟩)
  have HB13 := Lib.hid (HB12.out.trans (hbx.mono HB12.out.size))
  have HXl := Lib.hid (show w12.heap.size < (w12.alloc (.cells #[.slice none 0 0, .slice none 0 0] 39)).heap.size by simp)
  clear hx0 hbx
  have hxb0 : w.heap.size ≤ w12.heap.size := HB12.out.size
  go_wp2_with fail
  generalize w12.alloc (.cells #[.slice none 0 0, .slice none 0 0] 39) = w13 at *
  generalize w12.heap.size = xb at *
  refine (readAcl6_any (HO2.out.below HB13.out) (HE.out.later HB13.out).tabs HX0.out HXl.out).mono ?_
  rintro e w14 ⟨q14, k14, rfl, hf, hr, hx⟩
  have hb14 : Below w.heap.size w w14 := HB13.out.trans (hf.below HB13.out.size (fun g hg => by rw [List.mem_singleton.1 hg]; exact hxb0))
  have HB14 := Lib.hid hb14
  have HX14 := Lib.hid hx
  have HXl14 := Lib.hid (Nat.lt_of_lt_of_le HXl.out hf.size)
  have HRes := Lib.hid hr
  clear hf hr hx hb14 HX0 HXl HB13
  have hbr : Below w14.heap.size w14 (w14.alloc (.cells #[.slice A2 n2 c2, .int .i64 0, .int .i64 0] 46)) := (Below.refl _ w14).alloc (Nat.le_refl _) _
  have HRf := Lib.hid (rf_new (HO2.out.below HB14.out))
  have HB15 := Lib.hid (HB14.out.trans (hbr.mono HB14.out.size))
  have HX15 := Lib.hid (show ∃ u1 u2, (w14.alloc (.cells #[.slice A2 n2 c2, .int .i64 0, .int .i64 0] 46)).heap[xb]? = some (.cells #[u1, u2] 39 (0, 0)) by obtain ⟨u1, u2, h⟩ := HX14.out; exact ⟨u1, u2, (hbr.block xb HXl14.out).trans h⟩)
  have HRes15 := Lib.hid (show (k14 = 0 ∧ ∃ v, listP l2 16 12 (aclP l2) 0 = .ok (v, q14) ∧ ∃ B d u, (w14.alloc (.cells #[.slice A2 n2 c2, .int .i64 0, .int .i64 0] 46)).heap[xb]? = some (.cells #[.slice B v.length d, u] 39 (0, 0)) ∧ Sl (w14.alloc (.cells #[.slice A2 n2 c2, .int .i64 0, .int .i64 0] 46)) w14.heap.size encAcl 3 B v.length (v.map aclV)) ∨ (k14 ≠ 0 ∧ listP l2 16 12 (aclP l2) 0 = .error (q14, k14)) by
    rcases HRes.out with ⟨h1, v, h2, B, d, u, h3, h4⟩ | h
    · exact .inl ⟨h1, v, h2, B, d, u, (hbr.block xb HXl14.out).trans h3, h4.below hbr⟩
    · exact .inr h)
  have HWl := Lib.hid (show w14.heap.size < (w14.alloc (.cells #[.slice A2 n2 c2, .int .i64 0, .int .i64 0] 46)).heap.size by simp)
  have hrs : w.heap.size ≤ w14.heap.size := HB14.out.size
  clear hbr HX14 HRes
  go_wp2_with fail
  generalize w14.alloc (.cells #[.slice A2 n2 c2, .int .i64 0, .int .i64 0] 46) = w15 at *
  generalize w14.heap.size = rb14 at *
  refine (rfGetAcls_any HRf.out).mono ?_
  rintro e w16 ⟨hf, B14, d14, m14, rfl, hr⟩
  have hx16 : ∃ u1 u2, w16.heap[xb]? = some (.cells #[u1, u2] 39 (0, 0)) := by
    obtain ⟨u1, u2, h⟩ := HX15.out
    exact ⟨u1, u2, (hf.block xb (Nat.lt_trans HXl14.out HWl.out) (by simp; have := HXl14.out; omega)).trans h⟩
  have HX16 := Lib.hid hx16
  have HB16 := Lib.hid (HB15.out.trans (hf.below HB15.out.size (fun g hg => by rw [List.mem_singleton.1 hg]; exact hrs)))
  have HXl16 := Lib.hid (show xb < w16.heap.size by have := HXl14.out; have := HWl.out; have := hf.size; omega)
  have HD := Lib.hid (show (k14 = 0 ∧ ∃ (v : Nat) (B : Option Addr) (d : Nat) (u : Value), w16.heap[xb]? = some (.cells #[.slice B v d, u] 39 (0, 0)) ∧ ∃ z : List AclV, Sl w16 w16.heap.size encAcl 3 B v z ∧ Sl w16 w16.heap.size encAcl 3 B14 m14 z ∧ v ≤ 281474976710656 ∧ m14 = v) ∨ (k14 ≠ 0) by
    rcases HRes15.out with ⟨h1, v, h2, B, d, u, h3, h4⟩ | ⟨h1, h2⟩
    · rw [h2] at hr
      obtain ⟨rfl, h5, h6⟩ := hr
      have hz := Sl.of_own (enc := encAcl) (k := 3) (zs := v.map aclV) (fun _ => rfl) h5 (by simp)
      refine .inl ⟨h1, v.length, B, d, u, (hf.block xb (Nat.lt_trans HXl14.out HWl.out) (by simp; have := HXl14.out; omega)).trans h3, v.map aclV, (h4.fr hf (Nat.le_of_lt HWl.out) (fun g hg => by rw [List.mem_singleton.1 hg]; exact Nat.le_refl _)).more (Nat.le_trans (Nat.le_of_lt HWl.out) hf.size), hz, ?_, rfl⟩
      have := listP_len h2
      omega
    · exact .inr h1)
  have HRf16 := Lib.hid (show Rf w16 rb14 A2 n2 c2 l2 q14 k14 by
    rcases HRes15.out with ⟨h1, v, h2, B, d, u, h3, h4⟩ | ⟨h1, h2⟩
    · rw [h2] at hr
      subst h1
      exact hr.2.2
    · rw [h2] at hr
      exact hr.2)
  clear hf hr hx16 HX15 HB15 HRf HRes15 HWl HXl14 HB14
  have y1 := HRf16.out.c1; have y2 := HRf16.out.c2
  have hNo := fun q => no6_q k14 w16 q
  have HNo := Lib.hid hNo
  clear hNo
  go_upto_region 11 with fail
  go_cut [89] from 59 to 89 (fun v wx => v = .bool false ∧ ∃ d, wx = w16.drewN d)
  case first =>
    rcases HD.out with ⟨rfl, v, B, d, u, hxc, z, s1, s2, hv, hm⟩ | hk
    · subst hm
      have HSame := Lib.hid (show ∀ q, Calls Tryz.prog 18 #[.slice B m14 d, .slice B14 m14 d14] (w16.drewN q) fun e w' => e = .returned (.bool true) ∧ ∃ n, w' = w16.drewN n from fun q => by
        refine (refSame_any B B14 m14 m14 d d14 z z (w16.drewN q) w16.heap.size s1 s2 hv hv).mono ?_
        rintro e w' ⟨rfl, n, rfl⟩
        exact ⟨by rw [decide_eq_true rfl], q + n, World.drewN_drewN ..⟩)
      have y0 : w16.cell? ⟨xb, 0, none⟩ = some (.slice B m14 d) := by rw [cellH hxc]; rfl
      clear hxc s1 s2 hv
      go_quiet (first | (with_reducible exact HNo.out _) | (with_reducible exact HSame.out _))
      go_wp2_with fail
      go_meet
      exact ⟨rfl, nq, rfl⟩
    · have hk2 : (k14 == 0) = false := by simpa using hk
      go_quiet (with_reducible exact HNo.out _)
      go_wp2_with fail
      go_meet
      exact ⟨rfl, nq, rfl⟩
  case rest =>
  obtain ⟨rfl, d16, rfl⟩ := hcut
  have HX17 := Lib.hid (show ∃ u1 u2, (w16.drewN d16).heap[xb]? = some (.cells #[u1, u2] 39 (0, 0)) from HX16.out)
  have HXl17 := Lib.hid (show xb < (w16.drewN d16).heap.size from HXl16.out)
  have HB17 := Lib.hid (drewN_below HB16.out d16)
  clear y1 y2 HD HRf16 HNo HX16 HXl16 HB16
  generalize w16.drewN d16 = w17 at *
  go_wp2_with fail
  refine (readId6_any (HO2.out.below HB17.out) (HE.out.later HB17.out).tabs HX17.out HXl17.out).mono ?_
  rintro e w18 ⟨q18, k18, rfl, hf, hr, hx⟩
  have hb14 : Below w.heap.size w w18 := HB17.out.trans (hf.below HB17.out.size (fun g hg => by rw [List.mem_singleton.1 hg]; exact hxb0))
  have HB14 := Lib.hid hb14
  have HX14 := Lib.hid hx
  have HXl14 := Lib.hid (Nat.lt_of_lt_of_le HXl17.out hf.size)
  have HRes := Lib.hid hr
  clear hf hr hx hb14 HX17 HXl17 HB17
  have hbr : Below w18.heap.size w18 (w18.alloc (.cells #[.slice A2 n2 c2, .int .i64 0, .int .i64 0] 46)) := (Below.refl _ w18).alloc (Nat.le_refl _) _
  have HRf := Lib.hid (rf_new (HO2.out.below HB14.out))
  have HB15 := Lib.hid (HB14.out.trans (hbr.mono HB14.out.size))
  have HX15 := Lib.hid (show ∃ u1 u2, (w18.alloc (.cells #[.slice A2 n2 c2, .int .i64 0, .int .i64 0] 46)).heap[xb]? = some (.cells #[u1, u2] 39 (0, 0)) by obtain ⟨u1, u2, h⟩ := HX14.out; exact ⟨u1, u2, (hbr.block xb HXl14.out).trans h⟩)
  have HRes15 := Lib.hid (show (k18 = 0 ∧ ∃ v, listP l2 16 8 (idP l2) 0 = .ok (v, q18) ∧ ∃ B d u, (w18.alloc (.cells #[.slice A2 n2 c2, .int .i64 0, .int .i64 0] 46)).heap[xb]? = some (.cells #[u, .slice B v.length d] 39 (0, 0)) ∧ Sl (w18.alloc (.cells #[.slice A2 n2 c2, .int .i64 0, .int .i64 0] 46)) w18.heap.size encId 2 B v.length (v.map idV)) ∨ (k18 ≠ 0 ∧ listP l2 16 8 (idP l2) 0 = .error (q18, k18)) by
    rcases HRes.out with ⟨h1, v, h2, B, d, u, h3, h4⟩ | h
    · exact .inl ⟨h1, v, h2, B, d, u, (hbr.block xb HXl14.out).trans h3, h4.below hbr⟩
    · exact .inr h)
  have HWl := Lib.hid (show w18.heap.size < (w18.alloc (.cells #[.slice A2 n2 c2, .int .i64 0, .int .i64 0] 46)).heap.size by simp)
  have hrs : w.heap.size ≤ w18.heap.size := HB14.out.size
  clear hbr HX14 HRes
  go_wp2_with fail
  generalize w18.alloc (.cells #[.slice A2 n2 c2, .int .i64 0, .int .i64 0] 46) = w19 at *
  generalize w18.heap.size = rb18 at *
  refine (rfGetIds_any HRf.out).mono ?_
  rintro e w20 ⟨hf, B18, d18, m18, rfl, hr⟩
  have hx16 : ∃ u1 u2, w20.heap[xb]? = some (.cells #[u1, u2] 39 (0, 0)) := by
    obtain ⟨u1, u2, h⟩ := HX15.out
    exact ⟨u1, u2, (hf.block xb (Nat.lt_trans HXl14.out HWl.out) (by simp; have := HXl14.out; omega)).trans h⟩
  have HX16 := Lib.hid hx16
  have HB16 := Lib.hid (HB15.out.trans (hf.below HB15.out.size (fun g hg => by rw [List.mem_singleton.1 hg]; exact hrs)))
  have HXl16 := Lib.hid (show xb < w20.heap.size by have := HXl14.out; have := HWl.out; have := hf.size; omega)
  have HD := Lib.hid (show (k18 = 0 ∧ ∃ (v : Nat) (B : Option Addr) (d : Nat) (u : Value), w20.heap[xb]? = some (.cells #[u, .slice B v d] 39 (0, 0)) ∧ ∃ z : List IdV, Sl w20 w20.heap.size encId 2 B v z ∧ Sl w20 w20.heap.size encId 2 B18 m18 z ∧ v ≤ 281474976710656 ∧ m18 = v) ∨ (k18 ≠ 0) by
    rcases HRes15.out with ⟨h1, v, h2, B, d, u, h3, h4⟩ | ⟨h1, h2⟩
    · rw [h2] at hr
      obtain ⟨rfl, h5, h6⟩ := hr
      have hz := Sl.of_own (enc := encId) (k := 2) (zs := v.map idV) (fun _ => rfl) h5 (by simp)
      refine .inl ⟨h1, v.length, B, d, u, (hf.block xb (Nat.lt_trans HXl14.out HWl.out) (by simp; have := HXl14.out; omega)).trans h3, v.map idV, (h4.fr hf (Nat.le_of_lt HWl.out) (fun g hg => by rw [List.mem_singleton.1 hg]; exact Nat.le_refl _)).more (Nat.le_trans (Nat.le_of_lt HWl.out) hf.size), hz, ?_, rfl⟩
      have := listP_len h2
      omega
    · exact .inr h1)
  have HRf16 := Lib.hid (show Rf w20 rb18 A2 n2 c2 l2 q18 k18 by
    rcases HRes15.out with ⟨h1, v, h2, B, d, u, h3, h4⟩ | ⟨h1, h2⟩
    · rw [h2] at hr
      subst h1
      exact hr.2.2
    · rw [h2] at hr
      exact hr.2)
  clear hf hr hx16 HX15 HB15 HRf HRes15 HWl HXl14 HB14
  have y1 := HRf16.out.c1; have y2 := HRf16.out.c2
  have hNo := fun q => no6_q k18 w20 q
  have HNo := Lib.hid hNo
  clear hNo
  rcases HD.out with ⟨rfl, v, B, d, u, hxc, z, s1, s2, hv, hm⟩ | hk
  · subst hm
    have HSame := Lib.hid (show ∀ q, Calls Tryz.prog 21 #[.slice B m18 d, .slice B18 m18 d18] (w20.drewN q) fun e w' => e = .returned (.bool true) ∧ ∃ n, w' = w20.drewN n from fun q => by
      refine (sameIds_any B B18 m18 m18 d d18 z z (w20.drewN q) w20.heap.size s1 s2 hv hv).mono ?_
      rintro e w' ⟨rfl, n, rfl⟩
      exact ⟨by rw [decide_eq_true rfl], q + n, World.drewN_drewN ..⟩)
    have y0 : w20.cell? ⟨xb, 1, none⟩ = some (.slice B m18 d) := by rw [cellH hxc]; rfl
    clear hxc s1 s2 hv HD
    go_wp2_with fail
    go_quiet (first | (with_reducible exact HNo.out _) | (with_reducible exact HSame.out _))
    go_wp2_with fail
    go_ret
    exact ⟨rfl, drewN_below HB16.out nq⟩
  · have hk2 : (k18 == 0) = false := by simpa using hk
    have hk3 : (k18 != 0) = true := by simpa using hk
    clear HD
    go_wp2_with fail
    go_quiet (with_reducible exact HNo.out _)
    go_wp2_with fail
    go_ret
    exact ⟨rfl, drewN_below HB16.out nq⟩
end Go.Proofs.YtibklpbnjpefnaaGreatDoor
