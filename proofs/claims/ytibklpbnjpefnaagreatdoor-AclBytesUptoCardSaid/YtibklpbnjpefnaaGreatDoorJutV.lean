/- The walks of arborlaw06's sameBytes, sameIds, no, and what its reader reads; arguments that are bytes. Condition: at most 2^20 bytes. -/
import Derived.Test.YtibklpbnjpefnaaGreatDoorJutG
import Derived.Test.YtibklpbnjpefnaaGreatDoorJutU
import Derived.Test.YtibklpbnjpefnaaGreatDoorJutR
import Derived.Test.YtibklpbnjpefnaaGreatDoorAclS
import Derived.Test.YtibklpbnjpefnaaGreatDoorOpen
import Derived.Test.YtibklpbnjpefnaaGreatDoorLaw6
namespace Go.Proofs.YtibklpbnjpefnaaGreatDoor
open Go.RowKit Go.MapKept Go.Maps
def ArgB (w : World) (A : Option Addr) (n c : Nat) (l : Bs) : Prop := Sl w w.heap.size enc8 1 A n l ∧ (A = none → n = 0 ∧ c = 0) ∧ n ≤ 1048576 ∧ n ≤ c
theorem ArgB.below {w w' : World} {A : Option Addr} {n c : Nat} {l : Bs} (h : ArgB w A n c l) (hb : Below w.heap.size w w') : ArgB w' A n c l := ⟨h.1.belowMore hb hb.size, h.2⟩
set_option maxRecDepth 100000 in
theorem open_bytes {H : Type} {enc : TypeId × Value → H} {w : World} {base : Nat} {spare : Nat → Bool} {held : Bool} {v : Value} {d : DataW H} {ps : List MemPlace} {b0 : Nat} (hval : Value.okWide Tryz.prog w .any b0 24 v) (h : DataW.Trod enc Tryz.prog w base spare held 24 v d ps) (hb : Rows.uptoBulk d ≤ 1048576) :
    ∃ A n c l, v = .slice A n c ∧ ArgB w A n c l := by
  obtain ⟨A, n, c, l, e, h1, h2, h3, h4⟩ := open_rows (enc0 := enc8) (k := 1) Tryz.underlying24 (by kernel_rfl) (by decide) (fun (_ : UInt8) _ => True)
    (fun _ _ x hx => by
      obtain ⟨z, e, _, hw⟩ := DataW.trod_int Tryz.underlying5 hx
      have hw2 : 0 ≤ z ∧ z ≤ 255 := by simp [Lit.wf] at hw; exact hw
      refine ⟨UInt8.ofNat z.toNat, ?_, trivial⟩
      rw [e]
      unfold enc8
      have h9 : (UInt8.ofNat z.toNat).toNat = z.toNat := UInt8.toNat_ofNat_of_lt (by show z.toNat < 256; omega)
      rw [h9, Int.toNat_of_nonneg hw2.1]) (fun _ _ _ _ hz => hz) hval h
  subst e
  refine ⟨A, n, c, l, rfl, h1, h2, Nat.le_trans h3 hb, ?_⟩
  obtain ⟨fuel, h⟩ := h
  rcases Deep.open_slice Tryz.underlying24 h with ⟨e1, e2⟩ | ⟨a, len, cap, m, n', D, Pl, e1, _, hlc, _, hm, e2, hx⟩
  · injection e1 with e1 _
    injection e1 with e1 e3 e4
    omega
  · injection e1 with e1 _
    injection e1 with e1 e3 e4
    omega
set_option maxHeartbeats 1000000 in
theorem sameIds_any (A A' : Option Addr) (n m c c' : Nat) (xs ys : List IdV) (w : World) (B : Nat) (hx : Sl w B encId 2 A n xs) (hy : Sl w B encId 2 A' m ys) (hn : n ≤ 281474976710656) (hm : m ≤ 281474976710656) :
    Calls Tryz.prog 21 #[.slice A n c, .slice A' m c'] w (QuietB w (decide (xs = ys))) := by
  by_cases hnm : n = m
  · subst hnm
    have hlen : xs.length = ys.length := hx.1.trans hy.1.symm
    have HL := Lib.hid hlen; have HXL := Lib.hid hx.1; clear hlen
    have hneq := neqId
    go_enter Tryz.func21, Tryz.ntmps21
    go_wp2
    go_loopw [5] (fun i wr => ∃ (k q : Nat), i = .int .i64 ↑k ∧ k ≤ n ∧ (∀ j, j < k → xs[j]! = ys[j]!) ∧ wr = w.drewN q) (fun i _ => n - (intOf i).toNat)
    case atStart => exact ⟨0, 0, rfl, by omega, fun j hj => absurd hj (by omega), rfl⟩
    case round =>
      obtain ⟨k, q, rfl, hk, hall, rfl⟩ := hrel
      have HA := Lib.hid hall; clear hall
      by_cases hlt : k < n
      · obtain ⟨b, off, rfl, _, x0, x1⟩ := SlId.at_ hx hlt
        obtain ⟨b', off', rfl, _, y0, y1⟩ := SlId.at_ hy hlt
        by_cases he : xs[k]! = ys[k]!
        · have HA1 := Lib.hid (show ∀ j, j < k + 1 → xs[j]! = ys[j]! from fun j hj => by rcases Nat.lt_succ_iff_lt_or_eq.1 hj with h | rfl; exact HA.out j h; exact he)
          rw [he] at x0 x1
          clear he
          generalize ys[k]! = y at *
          obtain ⟨s, t⟩ := y
          have hq := fun w : World => (neqId w s t s t).trans (by simp : _ = Result.ok (.bool false) w)
          clear hneq
          go_wp2
          go_quiet (fail)
          go_wp2
          go_roundw
          case rel => exact ⟨k + 1, q + nq, by go_num, by omega, HA1.out, rfl⟩
          case measure => simp [intOf]; omega
        · have HE := Lib.hid (show decide (xs = ys) = false from decide_eq_false fun e => he (by rw [e]))
          have hd : (!decide (xs[k]! = ys[k]!)) = true := by rw [decide_eq_false he]; rfl
          have HW := Lib.hid hd
          clear he hd
          generalize xs[k]! = x at *
          generalize ys[k]! = y at *
          obtain ⟨s, t⟩ := x
          obtain ⟨s', t'⟩ := y
          have hq := fun w : World => (neqId w s t s' t').trans (by rw [HW.out] : _ = Result.ok (.bool true) w)
          clear hneq
          go_wp2
          go_quiet (fail)
          go_wp2
          go_ret
          exact QuietB.mk ⟨q + nq, World.drewN_drewN ..⟩ HE.out.symm
      · have HE := Lib.hid (show decide (xs = ys) = true from decide_eq_true (list_ext_bang HL.out fun j hj => HA.out j (by have := HXL.out; omega)))
        go_wp2
        go_ret
        exact QuietB.mk ⟨q, rfl⟩ HE.out.symm
  · have HE := Lib.hid (show decide (xs = ys) = false from decide_eq_false fun e => hnm (by rw [← hx.1, ← hy.1, e]))
    have hd : ((n : Int) != (m : Int)) = true := by simp; omega
    clear hnm
    go_enter Tryz.func21, Tryz.ntmps21
    go_wp2
    go_ret
    exact QuietB.mk ⟨0, rfl⟩ HE.out.symm
set_option maxHeartbeats 1000000 in
theorem sameBytes8_any (A A' : Option Addr) (n m c c' : Nat) (xs ys : List UInt8) (w : World) (B : Nat) (hx : Sl w B enc8 1 A n xs) (hy : Sl w B enc8 1 A' m ys) (hn : n ≤ 281474976710656) (hm : m ≤ 281474976710656) :
    Calls Tryz.prog 9 #[.slice A n c, .slice A' m c'] w (QuietB w (decide (xs = ys))) := by
  by_cases hnm : n = m
  · subst hnm
    have hlen : xs.length = ys.length := hx.1.trans hy.1.symm
    have HL := Lib.hid hlen; have HXL := Lib.hid hx.1; clear hlen
    go_enter Tryz.func9, Tryz.ntmps9
    go_wp2
    go_loopw [5] (fun i wr => ∃ (k q : Nat), i = .int .i64 ↑k ∧ k ≤ n ∧ (∀ j, j < k → xs[j]! = ys[j]!) ∧ wr = w.drewN q) (fun i _ => n - (intOf i).toNat)
    case atStart => exact ⟨0, 0, rfl, by omega, fun j hj => absurd hj (by omega), rfl⟩
    case round =>
      obtain ⟨k, q, rfl, hk, hall, rfl⟩ := hrel
      have HA := Lib.hid hall; clear hall
      by_cases hlt : k < n
      · obtain ⟨b, off, rfl, _, x0⟩ := hx.at8 hlt
        obtain ⟨b', off', rfl, _, y0⟩ := hy.at8 hlt
        by_cases he : xs[k]! = ys[k]!
        · have HA1 := Lib.hid (show ∀ j, j < k + 1 → xs[j]! = ys[j]! from fun j hj => by rcases Nat.lt_succ_iff_lt_or_eq.1 hj with h | rfl; exact HA.out j h; exact he)
          rw [he] at x0
          clear he
          generalize ys[k]! = y at *
          go_wp2
          go_quiet (fail)
          go_wp2
          go_roundw
          case rel => exact ⟨k + 1, q + nq, by go_num, by omega, HA1.out, rfl⟩
          case measure => simp [intOf]; omega
        · have HE := Lib.hid (show decide (xs = ys) = false from decide_eq_false fun e => he (by rw [e]))
          have hd : ((xs[k]!.toNat : Int) != (ys[k]!.toNat : Int)) = true := by
            have : xs[k]!.toNat ≠ ys[k]!.toNat := fun e => he (UInt8.toNat_inj.1 e)
            exact bne_iff_ne.2 (fun e => this (Int.ofNat_inj.1 e))
          clear he
          generalize xs[k]! = x at *
          generalize ys[k]! = y at *
          go_wp2
          go_quiet (fail)
          go_wp2
          go_ret
          exact QuietB.mk ⟨q + nq, World.drewN_drewN ..⟩ HE.out.symm
      · have HE := Lib.hid (show decide (xs = ys) = true from decide_eq_true (list_ext_bang HL.out fun j hj => HA.out j (by have := HXL.out; omega)))
        go_wp2
        go_ret
        exact QuietB.mk ⟨q, rfl⟩ HE.out.symm
  · have HE := Lib.hid (show decide (xs = ys) = false from decide_eq_false fun e => hnm (by rw [← hx.1, ← hy.1, e]))
    have hd : ((n : Int) != (m : Int)) = true := by simp; omega
    clear hnm
    go_enter Tryz.func9, Tryz.ntmps9
    go_wp2
    go_ret
    exact QuietB.mk ⟨0, rfl⟩ HE.out.symm
theorem no6_any (k : Int) (w : World) : Calls Tryz.prog 17 #[.int .i64 k] w fun e w' => e = .returned (.int .i64 k) ∧ ∃ q, w' = w.drewN q := by
  go_enter Tryz.func17, Tryz.ntmps17
  go_wp2
  go_ret
  exact ⟨rfl, 0, rfl⟩
set_option maxRecDepth 100000 in
theorem getIds6_any {w : World} {rb n c p : Nat} {A : Option Addr} {l : Bs} (h : Rd w rb A n c l p) (hT : TabsR rb w) :
    Calls Tryz.prog 54 #[.pointer (some ⟨rb, 0, none⟩)] w (RdOut rb A n c l w (listP l 16 8 (idP l) p) (fun v u w' => LsOutId w.heap.size v u w')) := by
  have hN := getIds_any h hT
  clear h hT
  go_enter Tryz.func54, Tryz.ntmps54
  rcases hX : listP l 16 8 (idP l) p with ⟨q, k⟩ | ⟨v, q⟩
  · rw [hX] at hN
    have HN := Lib.hid hN
    clear hN hX
    go_wp2_with fail
    refine HN.out.mono ?_
    rintro e w1 ⟨rfl, hr, hf⟩
    exact ⟨rfl, rfl, hr, hf⟩
  · rw [hX] at hN
    have HN := Lib.hid hN
    clear hN hX
    go_wp2_with fail
    refine HN.out.mono ?_
    rintro e w1 ⟨⟨u, rfl, B, d, rfl, hrow⟩, hr, hf⟩
    have HR := Lib.hid hr; have HF := Lib.hid hf; have HO := Lib.hid hrow
    clear hr hf hrow
    go_wp2_with fail
    go_ret
    exact ⟨⟨_, rfl, B, d, rfl, HO.out⟩, HR.out, HF.out⟩
/-- what the law's reader holds -/
def XId (xb : Nat) (W : World) (v : List (Bs × Bs)) (w' : World) : Prop := ∃ B d u, w'.heap[xb]? = some (.cells #[u, .slice B v.length d] 39 (0, 0)) ∧ w'.ownsRow W.heap.size 69 2 (.slice B v.length d) v.length ((v.map idV).flatMap encId)
set_option maxRecDepth 100000 in
theorem xgetIds6_any {w : World} {xb rb n c : Nat} {A : Option Addr} {l : Bs} {u1 u2 : Value} (h : Rd w rb A n c l 0) (hT : TabsR rb w) (hx : w.heap[xb]? = some (.cells #[u1, u2] 39 (0, 0))) (hne : xb ≠ rb) :
    Calls Tryz.prog 19 #[.pointer (some ⟨xb, 0, none⟩), .pointer (some ⟨rb, 0, none⟩)] w fun e w' => Fr (rb :: [xb]) w w' ∧ match listP l 16 8 (idP l) 0 with
      | .ok (v, q) => e = .returned (.tuple #[]) ∧ XId xb w v w' ∧ w'.heap[rb]? = some (.cells #[.slice A n c, .int .i64 (q : Int), .bool false] 89 (0, 0))
      | .error (q, k) => e = .panicked [failV rb k] ∧ (∃ u1 u2, w'.heap[xb]? = some (.cells #[u1, u2] 39 (0, 0))) ∧ w'.heap[rb]? = some (.cells #[.slice A n c, .int .i64 (q : Int), .bool false] 89 (0, 0)) := by
  have hN := getIds6_any h hT
  have hlx := (Array.getElem?_eq_some_iff.1 hx).1
  have HX := Lib.hid hx
  have HLt := Lib.hid h.lt
  clear h hT hx
  go_enter Tryz.func19, Tryz.ntmps19
  rcases hX : listP l 16 8 (idP l) 0 with ⟨q, k⟩ | ⟨v, q⟩
  · rw [hX] at hN
    have HN := Lib.hid hN
    clear hN hX
    go_wp2_with fail
    refine HN.out.mono ?_
    rintro e w1 ⟨rfl, hr, hf⟩
    refine ⟨rfl, ?_⟩
    exact ⟨⟨hf.os, hf.tape, hf.output, hf.size, fun g hg hn => hf.block g hg (fun hm => hn (by simp at hm ⊢; exact .inl hm))⟩, rfl, ⟨u1, u2, (hf.block xb hlx (by simpa using hne)).trans HX.out⟩, hr.cell⟩
  · rw [hX] at hN
    have HN := Lib.hid hN
    clear hN hX
    go_wp2_with fail
    refine HN.out.mono ?_
    rintro e w1 ⟨⟨u, rfl, B, d, rfl, hrow⟩, hr, hf⟩
    have hx1 := (hf.block xb hlx (by simpa using hne)).trans HX.out
    have z0 : w1.frozen? ⟨xb, 1, none⟩ = false := by simp [World.frozen?, hx1]
    have z1 : w1.cell? ⟨xb, 1, none⟩ = some u2 := by rw [cellH hx1]; rfl
    have hx2 := heap_setJ (o := 1) hx1 (.slice B v.length d)
    have hfs := fr_setJ w1 xb 1 (.slice B v.length d)
    have hff : Fr (rb :: [xb]) w (w1.setCell ⟨xb, 1, none⟩ (.slice B v.length d)) := by
      have h0 : Fr (rb :: [xb]) w w1 := ⟨hf.os, hf.tape, hf.output, hf.size, fun g hg hn => hf.block g hg (fun hm => hn (by simp at hm ⊢; exact .inl hm))⟩
      exact h0.setJ (by simp) 1 _
    have hro := own_fr hrow hfs (by intro g hg; rw [List.mem_singleton.1 hg]; exact hlx)
    have hrr := (heap_otherJ w1 xb 1 (.slice B v.length d) (Ne.symm hne)).trans hr.cell
    have HX2 := Lib.hid hx2; have HFF := Lib.hid hff; have HRO := Lib.hid hro; have HRR := Lib.hid hrr
    clear hr hf hrow hx1 hx2 hfs hff hro hrr
    go_wp2_with fail
    exact ⟨rfl, .tuple #[], by simp [results, Tryz.results19, go_sem], HFF.out, rfl, ⟨B, d, _, HX2.out, HRO.out⟩, HRR.out⟩
set_option maxRecDepth 100000 in
theorem getAcl6_any {w : World} {rb n c p : Nat} {A : Option Addr} {l : Bs} (h : Rd w rb A n c l p) (hT : TabsR rb w) :
    Calls Tryz.prog 50 #[.pointer (some ⟨rb, 0, none⟩)] w (RdOut rb A n c l w (listP l 16 12 (aclP l) p) (fun v u w' => LsOutAcl w.heap.size v u w')) := by
  have hN := getAcls_any h hT
  clear h hT
  go_enter Tryz.func50, Tryz.ntmps50
  rcases hX : listP l 16 12 (aclP l) p with ⟨q, k⟩ | ⟨v, q⟩
  · rw [hX] at hN
    have HN := Lib.hid hN
    clear hN hX
    go_wp2_with fail
    refine HN.out.mono ?_
    rintro e w1 ⟨rfl, hr, hf⟩
    exact ⟨rfl, rfl, hr, hf⟩
  · rw [hX] at hN
    have HN := Lib.hid hN
    clear hN hX
    go_wp2_with fail
    refine HN.out.mono ?_
    rintro e w1 ⟨⟨u, rfl, B, d, rfl, hrow⟩, hr, hf⟩
    have HR := Lib.hid hr; have HF := Lib.hid hf; have HO := Lib.hid hrow
    clear hr hf hrow
    go_wp2_with fail
    go_ret
    exact ⟨⟨_, rfl, B, d, rfl, HO.out⟩, HR.out, HF.out⟩
/-- what the law's reader holds -/
def XAcl (xb : Nat) (W : World) (v : List (Int × Bs × Bs)) (w' : World) : Prop := ∃ B d u, w'.heap[xb]? = some (.cells #[.slice B v.length d, u] 39 (0, 0)) ∧ w'.ownsRow W.heap.size 71 3 (.slice B v.length d) v.length ((v.map aclV).flatMap encAcl)
set_option maxRecDepth 100000 in
theorem xgetAcl6_any {w : World} {xb rb n c : Nat} {A : Option Addr} {l : Bs} {u1 u2 : Value} (h : Rd w rb A n c l 0) (hT : TabsR rb w) (hx : w.heap[xb]? = some (.cells #[u1, u2] 39 (0, 0))) (hne : xb ≠ rb) :
    Calls Tryz.prog 15 #[.pointer (some ⟨xb, 0, none⟩), .pointer (some ⟨rb, 0, none⟩)] w fun e w' => Fr (rb :: [xb]) w w' ∧ match listP l 16 12 (aclP l) 0 with
      | .ok (v, q) => e = .returned (.tuple #[]) ∧ XAcl xb w v w' ∧ w'.heap[rb]? = some (.cells #[.slice A n c, .int .i64 (q : Int), .bool false] 89 (0, 0))
      | .error (q, k) => e = .panicked [failV rb k] ∧ (∃ u1 u2, w'.heap[xb]? = some (.cells #[u1, u2] 39 (0, 0))) ∧ w'.heap[rb]? = some (.cells #[.slice A n c, .int .i64 (q : Int), .bool false] 89 (0, 0)) := by
  have hN := getAcl6_any h hT
  have hlx := (Array.getElem?_eq_some_iff.1 hx).1
  have HX := Lib.hid hx
  have HLt := Lib.hid h.lt
  clear h hT hx
  go_enter Tryz.func15, Tryz.ntmps15
  rcases hX : listP l 16 12 (aclP l) 0 with ⟨q, k⟩ | ⟨v, q⟩
  · rw [hX] at hN
    have HN := Lib.hid hN
    clear hN hX
    go_wp2_with fail
    refine HN.out.mono ?_
    rintro e w1 ⟨rfl, hr, hf⟩
    refine ⟨rfl, ?_⟩
    exact ⟨⟨hf.os, hf.tape, hf.output, hf.size, fun g hg hn => hf.block g hg (fun hm => hn (by simp at hm ⊢; exact .inl hm))⟩, rfl, ⟨u1, u2, (hf.block xb hlx (by simpa using hne)).trans HX.out⟩, hr.cell⟩
  · rw [hX] at hN
    have HN := Lib.hid hN
    clear hN hX
    go_wp2_with fail
    refine HN.out.mono ?_
    rintro e w1 ⟨⟨u, rfl, B, d, rfl, hrow⟩, hr, hf⟩
    have hx1 := (hf.block xb hlx (by simpa using hne)).trans HX.out
    have z0 : w1.frozen? ⟨xb, 0, none⟩ = false := by simp [World.frozen?, hx1]
    have z1 : w1.cell? ⟨xb, 0, none⟩ = some u1 := by rw [cellH hx1]; rfl
    have hx2 := heap_setJ (o := 0) hx1 (.slice B v.length d)
    have hfs := fr_setJ w1 xb 0 (.slice B v.length d)
    have hff : Fr (rb :: [xb]) w (w1.setCell ⟨xb, 0, none⟩ (.slice B v.length d)) := by
      have h0 : Fr (rb :: [xb]) w w1 := ⟨hf.os, hf.tape, hf.output, hf.size, fun g hg hn => hf.block g hg (fun hm => hn (by simp at hm ⊢; exact .inl hm))⟩
      exact h0.setJ (by simp) 0 _
    have hro := own_fr hrow hfs (by intro g hg; rw [List.mem_singleton.1 hg]; exact hlx)
    have hrr := (heap_otherJ w1 xb 0 (.slice B v.length d) (Ne.symm hne)).trans hr.cell
    have HX2 := Lib.hid hx2; have HFF := Lib.hid hff; have HRO := Lib.hid hro; have HRR := Lib.hid hrr
    clear hr hf hrow hx1 hx2 hfs hff hro hrr
    go_wp2_with fail
    exact ⟨rfl, .tuple #[], by simp [results, Tryz.results15, go_sem], HFF.out, rfl, ⟨B, d, _, HX2.out, HRO.out⟩, HRR.out⟩
end Go.Proofs.YtibklpbnjpefnaaGreatDoor
