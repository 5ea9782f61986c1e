/- Plain facts: an address's or a network's text may always stand as an id; an address is below 2^32. -/
import Derived.Test.YtbpmmmnphpkdjaaGreatDoorWQuoG
namespace Go.Proofs.YtbpmmmnphpkdjaaGreatDoor
set_option linter.unusedSimpArgs false
set_option maxRecDepth 100000
set_option maxHeartbeats 20000000

theorem qhx : ∀ (l : List UInt8) (acc n : Int), digF acc l = some n → ∀ b ∈ l, isD b = true
 | [], _, _, _, b, hb => absurd hb (by simp)
 | x :: r, acc, n, h, b, hb => by
  rw [digF] at h
  by_cases hx : isD x = true
  ·rw [if_pos hx] at h
   rcases List.mem_cons.1 hb with rfl | hb
   ·exact hx
   ·exact qhx r _ n h b hb
  ·rw [if_neg hx] at h; cases h
theorem qfD (l : List UInt8) (most : Int) (h : 0 ≤ decR l most) : 1 ≤ l.length ∧ l.length ≤ 3 ∧ ∀ b ∈ l, 46 ≤ b.toNat ∧ b.toNat ≤ 57 := by
 unfold decR at h
 split at h
 ·omega
 ·rename_i hc
  cases hd : digF 0 l with
  | none => rw [hd] at h; simp at h
  | some n =>
   refine ⟨by omega, by omega, fun b hb => ?_⟩
   have := qhx l 0 n hd b hb
   simp [isD] at this
   omega
theorem qeY (c : UInt8) : ∀ l : List UInt8, qav c l ≠ l.length → l = l.take (qav c l) ++ c :: l.drop (qav c l + 1)
 | [], h => absurd rfl h
 | b :: r, h => by
  unfold qav at h ⊢
  by_cases hb : b = c
  ·subst hb; simp
  ·rw [if_neg hb] at h ⊢
   have ih := qeY c r (by simpa using h)
   simp only [List.take_succ_cons, List.drop_succ_cons, List.cons_append]
   rw [← ih]
theorem qeW (st : Int → Int → Int) : ∀ (k : Nat) (acc : Int) (l : List UInt8) (a : Int), qbN st k acc l = some a → 1 ≤ l.length ∧ l.length ≤ 4 * k + 3 ∧ ∀ b ∈ l, 46 ≤ b.toNat ∧ b.toNat ≤ 57
 | 0, acc, l, a, h => by
  unfold qbN at h
  split at h
  ·cases h
  ·rename_i hc
   have hd := qfD (l.take (qav 46 l)) 255 (by omega)
   have hu : qav 46 l = l.length := by omega
   rw [hu, List.take_length] at hd
   omega
 | k + 1, acc, l, a, h => by
  unfold qbN at h
  split at h
  ·cases h
  ·rename_i hc
   have hd := qfD (l.take (qav 46 l)) 255 (by omega)
   have hu : qav 46 l ≠ l.length := by omega
   obtain ⟨i1, i2, i3⟩ := qeW st k _ _ a h
   have hs := qeY 46 l hu
   have hl : l.length = (l.take (qav 46 l)).length + (l.drop (qav 46 l + 1)).length + 1 := by
    conv => lhs; rw [hs]
    simp only [List.length_append, List.length_cons]; omega
   refine ⟨by omega, by omega, fun b hb => ?_⟩
   rw [hs] at hb
   rcases List.mem_append.1 hb with hb | hb
   ·exact hd.2.2 b hb
   ·rcases List.mem_cons.1 hb with rfl | hb
    ·decide
    ·exact i3 b hb
theorem qet : ∀ l : List UInt8, (∀ b ∈ l, b.toNat < 128) → Lib.validD l = true
 | [], _ => Lib.validD_nil
 | b :: r, h => by rw [Lib.validD_cons _ _ (h b (by simp))]; exact qet r (fun x hx => h x (by simp [hx]))
theorem qkT (s : ByteArray) (h1 : 1 ≤ s.data.toList.length) (h2 : s.data.toList.length ≤ 256) (h : ∀ b ∈ s.data.toList, 46 ≤ b.toNat ∧ b.toNat ≤ 57) : qaN s = true := by
 have hl : s.data.toList.length = s.size := by simp
 unfold qaN
 rw [decide_eq_true (by omega), decide_eq_true (by omega)]
 have hv : qaM s 0 = true := by
  unfold qaM; rw [List.drop_zero]; exact qet _ (fun b hb => by have := h b hb; omega)
 have ho : qbn s 0 = true := by
  unfold qbn; rw [List.drop_zero, List.all_eq_true]
  intro b hb
  have := h b hb
  simp [okB]; omega
 rw [hv, ho]; rfl
theorem qme (s : ByteArray) (h : (adr s).isSome = true) : qaN s = true := by
 obtain ⟨a, ha⟩ := Option.isSome_iff_exists.1 h
 unfold adr at ha
 rw [qiW] at ha
 obtain ⟨h1, h2, h3⟩ := qeW stA 3 0 _ a ha
 exact qkT s h1 (by omega) h3
theorem qkR : qaN qbO = true := by decide +kernel
theorem qoY : qaN sIp = true := by decide +kernel
theorem qmc : qaN qcw = true := by decide +kernel
theorem qkj (s t : ByteArray) : qbb (s, t) = (if s = qbO then qaN t && qbP t else if s = sIp then (adr t).isSome else decide (s = qcw) && qaN t) := by
 unfold qbb
 simp only []
 by_cases e1 : s = qbO
 ·subst e1; rw [if_pos rfl, if_pos rfl, qkR, Bool.true_and]
 ·rw [if_neg e1, if_neg e1]
  by_cases e2 : s = sIp
  ·subst e2; rw [if_pos rfl, if_pos rfl, qoY, Bool.true_and]
   cases h : (adr t).isSome with
   | false => simp
   | true => rw [qme t h]; rfl
  ·rw [if_neg e2, if_neg e2]
   by_cases e3 : s = qcw
   ·subst e3; rw [qmc]; simp
   ·rw [decide_eq_false e3]; simp
open Go.RowKit

theorem qdD {α : Type} [Inhabited α] (p : α → Bool) (zs : List α) (k : Nat) (hk : k < zs.length) (hp : p zs[k]! = true) : zs.any p = true := by
 rw [List.any_eq_true]
 exact ⟨zs[k]!, by rw [getElem!_pos zs k hk]; exact List.getElem_mem hk, hp⟩
theorem qeb {α : Type} [Inhabited α] (p : α → Bool) (zs : List α) (h : ∀ j, j < zs.length → p zs[j]! = false) : zs.any p = false := by
 rw [Bool.eq_false_iff]
 intro hh
 rw [List.any_eq_true] at hh
 obtain ⟨x, hx, hpx⟩ := hh
 obtain ⟨j, hj, rfl⟩ := List.getElem_of_mem hx
 have := h j hj
 rw [getElem!_pos zs j hj] at this
 rw [this] at hpx; cases hpx
def IdxPost (w : World) (b : Bool) (e : Ending) (w' : World) : Prop := (∃ r : Int, e = .returned (.int .i64 r) ∧ decide (0 ≤ r) = b) ∧ Below w.heap.size w w'
theorem IdxPost.mk {w w' : World} {b : Bool} {r : Int} (h : decide (0 ≤ r) = b) (hb : Below w.heap.size w w') : IdxPost w b (.returned (.int .i64 r)) w' := ⟨⟨r, rfl, h⟩, hb⟩

theorem qfX (A : Option Addr) (n c g : Nat) (lb : Array Value) (eg : ∀ args w, (callFunc g args).run Tryz.prog w = .ok (.enter g args) w) (zs : List IdV) (p : IdV → Bool) (w : World) (hz : Sl w w.heap.size qaz 2 A n zs) (hn : n ≤ 281474976710656)
  (hp : ∀ (W : World) (k : Nat), k < n → Below w.heap.size w W → Calls Tryz.prog g (#[.agg #[.string zs[k]!.1, .string zs[k]!.2]] ++ lb) W (RetB W (p zs[k]!))) :
  Calls Tryz.prog 208 #[.slice A n c, .func (.func g) #[] lb] w (IdxPost w (zs.any p)) := by
 have HZ := Lib.hid hz.1
 go_enter Tryz.func208, Tryz.ntmps208
 go_wp2
 go_loopw [5, 8] (fun _ i wr => ∃ k : Nat, i = .int .i64 ↑k ∧ k ≤ n ∧ (∀ j, j < k → p zs[j]! = false) ∧ Below w.heap.size w wr) (fun _ i _ => n - (intOf i).toNat)
 case atStart => exact ⟨0, rfl, by omega, fun j hj => absurd hj (by omega), Below.refl _ _⟩
 case round =>
  obtain ⟨k, rfl, hk, hall, hb⟩ := hrel
  have HA := Lib.hid hall; have HB := Lib.hid hb; clear hall
  by_cases hlt : k < n
  ·obtain ⟨b, off, rfl, _, x0, x1⟩ := SlId.at_ (hz.below hb) hlt
   have hcall := hp wr k hlt hb
   clear hp hb
   have HS := Lib.hid (qdD p zs k (by rw [HZ.out]; exact hlt))
   have HN : Hid (p zs[k]! = false → ∀ j, j < k + 1 → p zs[j]! = false) := Lib.hid (fun h j hj => by rcases Nat.lt_succ_iff_lt_or_eq.1 hj with h2 | rfl; exact HA.out j h2; exact h)
   generalize hx : zs[k]! = x at *
   obtain ⟨s, t⟩ := x
   clear hx
   cases hq : p (s, t) with
   | true =>
    rw [hq] at hcall
    have HQ := Lib.hid hq; clear hq
    go_wp2_with fail
    refine hcall.mono ?_
    rintro e w' ⟨rfl, hb'⟩
    go_wp2
    go_ret
    exact IdxPost.mk (by rw [HS.out HQ.out]; exact decide_eq_true (by omega)) (HB.out.trans (hb'.mono HB.out.size))
   | false =>
    rw [hq] at hcall
    have HQ := Lib.hid hq; clear hq
    go_wp2_with fail
    refine hcall.mono ?_
    rintro e w' ⟨rfl, hb'⟩
    go_wp2
    go_roundw
    case rel => exact ⟨k + 1, by go_num, by omega, HN.out HQ.out, HB.out.trans (hb'.mono HB.out.size)⟩
    case measure => simp [intOf]; omega
  ·go_wp2
   go_ret
   exact IdxPost.mk (by rw [qeb p zs (fun j hj => HA.out j (by have := HZ.out; omega))]; rfl) HB.out
theorem qfv (A : Option Addr) (n c g : Nat) (lb : Array Value) (eg : ∀ args w, (callFunc g args).run Tryz.prog w = .ok (.enter g args) w) (zs : List AclV) (p : AclV → Bool) (w : World) (hz : Sl w w.heap.size qao 3 A n zs) (hn : n ≤ 281474976710656)
  (hp : ∀ (W : World) (k : Nat), k < n → Below w.heap.size w W → Calls Tryz.prog g (#[.agg #[.int .i32 zs[k]!.1, .string zs[k]!.2.1, .string zs[k]!.2.2]] ++ lb) W (RetB W (p zs[k]!))) :
  Calls Tryz.prog 207 #[.slice A n c, .func (.func g) #[] lb] w (IdxPost w (zs.any p)) := by
 have HZ := Lib.hid hz.1
 go_enter Tryz.func207, Tryz.ntmps207
 go_wp2
 go_loopw [5, 8] (fun _ i wr => ∃ k : Nat, i = .int .i64 ↑k ∧ k ≤ n ∧ (∀ j, j < k → p zs[j]! = false) ∧ Below w.heap.size w wr) (fun _ i _ => n - (intOf i).toNat)
 case atStart => exact ⟨0, rfl, by omega, fun j hj => absurd hj (by omega), Below.refl _ _⟩
 case round =>
  obtain ⟨k, rfl, hk, hall, hb⟩ := hrel
  have HA := Lib.hid hall; have HB := Lib.hid hb; clear hall
  by_cases hlt : k < n
  ·obtain ⟨b, off, rfl, _, x0, x1, x2⟩ := SlAcl.at_ (hz.below hb) hlt
   have hcall := hp wr k hlt hb
   clear hp hb
   have HS := Lib.hid (qdD p zs k (by rw [HZ.out]; exact hlt))
   have HN : Hid (p zs[k]! = false → ∀ j, j < k + 1 → p zs[j]! = false) := Lib.hid (fun h j hj => by rcases Nat.lt_succ_iff_lt_or_eq.1 hj with h2 | rfl; exact HA.out j h2; exact h)
   generalize hx : zs[k]! = x at *
   obtain ⟨q, s, t⟩ := x
   clear hx
   cases hq : p (q, s, t) with
   | true =>
    rw [hq] at hcall
    have HQ := Lib.hid hq; clear hq
    go_wp2_with fail
    refine hcall.mono ?_
    rintro e w' ⟨rfl, hb'⟩
    go_wp2
    go_ret
    exact IdxPost.mk (by rw [HS.out HQ.out]; exact decide_eq_true (by omega)) (HB.out.trans (hb'.mono HB.out.size))
   | false =>
    rw [hq] at hcall
    have HQ := Lib.hid hq; clear hq
    go_wp2_with fail
    refine hcall.mono ?_
    rintro e w' ⟨rfl, hb'⟩
    go_wp2
    go_roundw
    case rel => exact ⟨k + 1, by go_num, by omega, HN.out HQ.out, HB.out.trans (hb'.mono HB.out.size)⟩
    case measure => simp [intOf]; omega
  ·go_wp2
   go_ret
   exact IdxPost.mk (by rw [qeb p zs (fun j hj => HA.out j (by have := HZ.out; omega))]; rfl) HB.out

theorem qez (A : Option Addr) (n c g : Nat) (lb : Array Value) (eg : ∀ args w, (callFunc g args).run Tryz.prog w = .ok (.enter g args) w) (zs : List IdV) (p : IdV → Bool) (w : World) (hz : Sl w w.heap.size qaz 2 A n zs) (hn : n ≤ 281474976710656)
  (hp : ∀ (W : World) (k : Nat), k < n → Below w.heap.size w W → Calls Tryz.prog g (#[.agg #[.string zs[k]!.1, .string zs[k]!.2]] ++ lb) W (RetB W (p zs[k]!))) :
  Calls Tryz.prog 175 #[.slice A n c, .func (.func g) #[] lb] w (RetB w (zs.any p)) := by
 have cI := qfX A n c g lb eg zs p w hz hn hp
 clear hp
 generalize zs.any p = b at *
 go_enter Tryz.func175, Tryz.ntmps175
 go_wp2_with fail
 refine cI.mono ?_
 rintro e w' ⟨⟨r, rfl, hr⟩, hb⟩
 have HR := Lib.hid hr; clear hr
 go_wp2
 go_ret
 exact RetB.mk hb HR.out

theorem qcR (A : Option Addr) (n c g : Nat) (lb : Array Value) (eg : ∀ args w, (callFunc g args).run Tryz.prog w = .ok (.enter g args) w) (zs : List AclV) (p : AclV → Bool) (w : World) (hz : Sl w w.heap.size qao 3 A n zs) (hn : n ≤ 281474976710656)
  (hp : ∀ (W : World) (k : Nat), k < n → Below w.heap.size w W → Calls Tryz.prog g (#[.agg #[.int .i32 zs[k]!.1, .string zs[k]!.2.1, .string zs[k]!.2.2]] ++ lb) W (RetB W (p zs[k]!))) :
  Calls Tryz.prog 173 #[.slice A n c, .func (.func g) #[] lb] w (RetB w (zs.any p)) := by
 have cI := qfv A n c g lb eg zs p w hz hn hp
 clear hp
 generalize zs.any p = b at *
 go_enter Tryz.func173, Tryz.ntmps173
 go_wp2_with fail
 refine cI.mono ?_
 rintro e w' ⟨⟨r, rfl, hr⟩, hb⟩
 have HR := Lib.hid hr; clear hr
 go_wp2
 go_ret
 exact RetB.mk hb HR.out

theorem qis (A : Option Addr) (n c : Nat) (zs : List IdV) (s t : ByteArray) (w : World) (hz : Sl w w.heap.size qaz 2 A n zs) (hn : n ≤ 281474976710656) :
  Calls Tryz.prog 120 #[.slice A n c, .agg #[.string s, .string t]] w (IdxPost w (zs.any (fun y => decide (y = (s, t))))) := by
 have HZ := Lib.hid hz.1
 have hb0 : Below w.heap.size w (w.alloc (.cells #[.string s, .string t] 155)) := (Below.refl _ w).alloc (Nat.le_refl _) _
 go_enter Tryz.func120, Tryz.ntmps120
 go_wp2
 go_loopw [5, 8] (fun _ i wr => ∃ (k q : Nat), i = .int .i64 ↑k ∧ k ≤ n ∧ (∀ j, j < k → decide (zs[j]! = (s, t)) = false) ∧ wr = (w.alloc (.cells #[.string s, .string t] 155)).drewN q) (fun _ i _ => n - (intOf i).toNat)
 case atStart => exact ⟨0, 0, rfl, by omega, fun j hj => absurd hj (by omega), rfl⟩
 case round =>
  obtain ⟨k, q, rfl, hk, hall, rfl⟩ := hrel
  have HA := Lib.hid hall; clear hall
  by_cases hlt : k < n
  ·obtain ⟨b, off, rfl, hbl, x0, x1⟩ := SlId.at_ (hz.below hb0) hlt
   have HS := Lib.hid (qdD (fun y => decide (y = (s, t))) zs k (by rw [HZ.out]; exact hlt))
   have HN : Hid (decide (zs[k]! = (s, t)) = false → ∀ j, j < k + 1 → decide (zs[j]! = (s, t)) = false) := Lib.hid (fun h j hj => by rcases Nat.lt_succ_iff_lt_or_eq.1 hj with h2 | rfl; exact HA.out j h2; exact h)
   generalize hx : zs[k]! = x at *
   obtain ⟨s', t'⟩ := x
   clear hx
   have heq := fun w => (eqId w s t s' t').trans (by rw [show decide ((s, t) = (s', t')) = decide ((s', t') = (s, t)) from decide_eq_decide.2 eq_comm] : _ = Result.ok (.bool (decide ((s', t') = (s, t)))) w)
   cases hq : decide ((s', t') = (s, t))
   ·have HQ := Lib.hid hq
    rw [hq] at heq
    clear hq
    go_wp2
    go_quiet (fail)
    go_wp2
    go_roundw
    case rel => exact ⟨k + 1, q + nq, by go_num, by omega, HN.out HQ.out, by first | rfl | rw [World.drewN_drewN]⟩
    case measure => simp [intOf]; omega
   ·have HQ := Lib.hid hq
    rw [hq] at heq
    clear hq
    go_wp2
    go_quiet (fail)
    go_wp2
    go_ret
    exact IdxPost.mk (by rw [HS.out HQ.out]; exact decide_eq_true (by omega)) (qac (qac hb0 q) nq)
  ·go_wp2
   go_ret
   exact IdxPost.mk (by rw [qeb _ zs (fun j hj => HA.out j (by have := HZ.out; omega))]; rfl) (qac hb0 q)

theorem qdQ (A : Option Addr) (n c : Nat) (zs : List IdV) (s t : ByteArray) (w : World) (hz : Sl w w.heap.size qaz 2 A n zs) (hn : n ≤ 281474976710656) :
  Calls Tryz.prog 84 #[.slice A n c, .agg #[.string s, .string t]] w (RetB w (zs.any (fun y => decide (y = (s, t))))) := by
 have hb0 : Below w.heap.size w (w.alloc (.cells #[.string s, .string t] 155)) := (Below.refl _ w).alloc (Nat.le_refl _) _
 have cI := qis A n c zs s t (w.alloc (.cells #[.string s, .string t] 155)) (hz.belowMore hb0 hb0.size) hn
 generalize zs.any (fun y => decide (y = (s, t))) = b at *
 go_enter Tryz.func84, Tryz.ntmps84
 go_wp2_with fail
 refine cI.mono ?_
 rintro e w' ⟨⟨r, rfl, hr⟩, hb⟩
 have HR := Lib.hid hr; clear hr
 go_wp2
 go_ret
 exact RetB.mk (hb0.trans (hb.mono hb0.size)) HR.out
end Go.Proofs.YtbpmmmnphpkdjaaGreatDoor
