/- The walk of slices.Equal at entries. Condition: lengths at most 2^48. The walk of delta.plain: all fields but the parts are the same. Condition: lists of at most 2^48 elements. -/
import Derived.Test.YtbpmmmnphpkdjaaGreatDoorZAclF
import Derived.Test.YtbpmmmnphpkdjaaGreatDoorZAclS
import Derived.Test.YtbpmmmnphpkdjaaGreatDoorZPln1
import Derived.Test.YtbpmmmnphpkdjaaGreatDoorZPln2
import Derived.Test.YtbpmmmnphpkdjaaGreatDoorZPln3
import Derived.Test.YtbpmmmnphpkdjaaGreatDoorZPln4
namespace Go.Proofs.YtbpmmmnphpkdjaaGreatDoor
open Go.RowKit
set_option maxHeartbeats 1000000 in
theorem slEqual_any (A A' : Option Addr) (n m c c' : Nat) (xs ys : List AclV) (w : World) (B : Nat) (hx : Sl w B encAcl 3 A n xs) (hy : Sl w B encAcl 3 A' m ys) (hn : n ≤ 281474976710656) (hm : m ≤ 281474976710656) :
    Calls Tryz.prog 210 #[.slice A n c, .slice A' m c'] w (QuietB w (decide (xs = ys))) := by
  by_cases hnm : n = m
  · subst hnm
    have hlen : xs.length = ys.length := hx.1.trans hy.1.symm
    have HL := Lib.hid hlen; have HXL := Lib.hid hx.1; clear hlen
    have hneq := neqAcl
    go_enter Tryz.func210, Tryz.ntmps210
    go_wp2
    go_loopw [5, 13] (fun _ i wr => ∃ (k q : Nat), i = .int .i64 ↑k ∧ k ≤ n ∧ (∀ j, j < k → xs[j]! = ys[j]!) ∧ wr = w.drewN q) (fun _ i _ => n - (intOf i).toNat)
    case atStart => exact ⟨0, 0, rfl, by omega, fun j hj => absurd hj (by omega), rfl⟩
    case round =>
      obtain ⟨k, q, rfl, hk, hall, rfl⟩ := hrel
      have HA := Lib.hid hall; clear hall
      by_cases hlt : k < n
      · obtain ⟨b, off, rfl, _, x0, x1, x2⟩ := SlAcl.at_ hx hlt
        obtain ⟨b', off', rfl, _, y0, y1, y2⟩ := SlAcl.at_ hy hlt
        have hyl : k < ys.length := by have := hy.1; omega
        by_cases he : xs[k]! = ys[k]!
        · have HA1 := Lib.hid (show ∀ j, j < k + 1 → xs[j]! = ys[j]! from fun j hj => by rcases Nat.lt_succ_iff_lt_or_eq.1 hj with h | rfl; exact HA.out j h; exact he)
          rw [he] at x0 x1 x2
          clear he
          generalize ys[k]! = y at *
          obtain ⟨p, s, t⟩ := y
          have hq := fun w : World => (neqAcl w s t s t p p).trans (by simp : _ = Result.ok (.bool false) w)
          clear hneq
          go_wp2
          go_quiet (fail)
          go_wp2
          go_roundw
          case rel => exact ⟨k + 1, q + nq, by go_num, by omega, HA1.out, rfl⟩
          case measure => simp [intOf]; omega
        · have HE := Lib.hid (show decide (xs = ys) = false from decide_eq_false fun e => he (by rw [e]))
          have hd : (!decide (xs[k]! = ys[k]!)) = true := by rw [decide_eq_false he]; rfl
          have HW := Lib.hid hd
          clear he hd
          generalize xs[k]! = x at *
          generalize ys[k]! = y at *
          obtain ⟨p, s, t⟩ := x
          obtain ⟨p', s', t'⟩ := y
          have hq := fun w : World => (neqAcl w s t s' t' p p').trans (by rw [HW.out] : _ = Result.ok (.bool true) w)
          clear hneq
          go_wp2
          go_quiet (fail)
          go_wp2
          go_ret
          exact QuietB.mk ⟨q + nq, World.drewN_drewN ..⟩ HE.out.symm
      · have HE := Lib.hid (show decide (xs = ys) = true from decide_eq_true (list_ext_bang HL.out fun j hj => HA.out j (by have := HXL.out; omega)))
        go_wp2
        go_ret
        exact QuietB.mk ⟨q, rfl⟩ HE.out.symm
  · have HE := Lib.hid (show decide (xs = ys) = false from decide_eq_false fun e => hnm (by rw [← hx.1, ← hy.1, e]))
    have hd : ((n : Int) != (m : Int)) = true := by simp; omega
    clear hnm
    go_enter Tryz.func210, Tryz.ntmps210
    go_wp2
    go_ret
    exact QuietB.mk ⟨0, rfl⟩ HE.out.symm
set_option maxHeartbeats 1000000 in
theorem slEqualId_any (A A' : Option Addr) (n m c c' : Nat) (xs ys : List IdV) (w : World) (B : Nat) (hx : Sl w B encId 2 A n xs) (hy : Sl w B encId 2 A' m ys) (hn : n ≤ 281474976710656) (hm : m ≤ 281474976710656) :
    Calls Tryz.prog 211 #[.slice A n c, .slice A' m c'] w (QuietB w (decide (xs = ys))) := by
  by_cases hnm : n = m
  · subst hnm
    have hlen : xs.length = ys.length := hx.1.trans hy.1.symm
    have HL := Lib.hid hlen; have HXL := Lib.hid hx.1; clear hlen
    have hneq := neqId
    go_enter Tryz.func211, Tryz.ntmps211
    go_wp2
    go_loopw [5, 13] (fun _ i wr => ∃ (k q : Nat), i = .int .i64 ↑k ∧ k ≤ n ∧ (∀ j, j < k → xs[j]! = ys[j]!) ∧ wr = w.drewN q) (fun _ i _ => n - (intOf i).toNat)
    case atStart => exact ⟨0, 0, rfl, by omega, fun j hj => absurd hj (by omega), rfl⟩
    case round =>
      obtain ⟨k, q, rfl, hk, hall, rfl⟩ := hrel
      have HA := Lib.hid hall; clear hall
      by_cases hlt : k < n
      · obtain ⟨b, off, rfl, _, x0, x1⟩ := SlId.at_ hx hlt
        obtain ⟨b', off', rfl, _, y0, y1⟩ := SlId.at_ hy hlt
        have hyl : k < ys.length := by have := hy.1; omega
        by_cases he : xs[k]! = ys[k]!
        · have HA1 := Lib.hid (show ∀ j, j < k + 1 → xs[j]! = ys[j]! from fun j hj => by rcases Nat.lt_succ_iff_lt_or_eq.1 hj with h | rfl; exact HA.out j h; exact he)
          rw [he] at x0 x1
          clear he
          generalize ys[k]! = y at *
          obtain ⟨s, t⟩ := y
          have hq := fun w : World => (neqId w s t s t).trans (by simp : _ = Result.ok (.bool false) w)
          clear hneq
          go_wp2
          go_quiet (fail)
          go_wp2
          go_roundw
          case rel => exact ⟨k + 1, q + nq, by go_num, by omega, HA1.out, rfl⟩
          case measure => simp [intOf]; omega
        · have HE := Lib.hid (show decide (xs = ys) = false from decide_eq_false fun e => he (by rw [e]))
          have hd : (!decide (xs[k]! = ys[k]!)) = true := by rw [decide_eq_false he]; rfl
          have HW := Lib.hid hd
          clear he hd
          generalize xs[k]! = x at *
          generalize ys[k]! = y at *
          obtain ⟨s, t⟩ := x
          obtain ⟨s', t'⟩ := y
          have hq := fun w : World => (neqId w s t s' t').trans (by rw [HW.out] : _ = Result.ok (.bool true) w)
          clear hneq
          go_wp2
          go_quiet (fail)
          go_wp2
          go_ret
          exact QuietB.mk ⟨q + nq, World.drewN_drewN ..⟩ HE.out.symm
      · have HE := Lib.hid (show decide (xs = ys) = true from decide_eq_true (list_ext_bang HL.out fun j hj => HA.out j (by have := HXL.out; omega)))
        go_wp2
        go_ret
        exact QuietB.mk ⟨q, rfl⟩ HE.out.symm
  · have HE := Lib.hid (show decide (xs = ys) = false from decide_eq_false fun e => hnm (by rw [← hx.1, ← hy.1, e]))
    have hd : ((n : Int) != (m : Int)) = true := by simp; omega
    clear hnm
    go_enter Tryz.func211, Tryz.ntmps211
    go_wp2
    go_ret
    exact QuietB.mk ⟨0, rfl⟩ HE.out.symm
end Go.Proofs.YtbpmmmnphpkdjaaGreatDoor
namespace Go.Proofs.YtbpmmmnphpkdjaaGreatDoor
open Go.RowKit Go.MapKept
theorem Sl.heapEq {α : Type} [Inhabited α] {w w' : World} {B k n : Nat} {enc : α → List Value} {A : Option Addr} {zs : List α} (h : Sl w B enc k A n zs) (e : w'.heap = w.heap) : Sl w' B enc k A n zs :=
  h.keep fun p _ => by simp only [World.cell?, e]
theorem plC_of {w : World} {R R' : Nat → Prop} {h k : TxH} {v u : TxF} (hv : locTx w R h v) (hu : locTx w R' k u) (m : Nat) (hm : m ≤ 281474976710656) (s1 : v.acl.length ≤ m ∧ v.ids.length ≤ m ∧ v.paths.length ≤ m) (s2 : u.acl.length ≤ m ∧ u.ids.length ≤ m ∧ u.paths.length ≤ m) (W : World) (hW : Below w.heap.size w W) :
    PlC W h k (decide (v.data = u.data)) (decide (v.acl = u.acl)) (decide (v.ids = u.ids)) (decide (v.paths = u.paths)) := by
  obtain ⟨_, v1, v2, v3, v4⟩ := hv
  obtain ⟨_, u1, u2, u3, u4⟩ := hu
  have a1 := (v1.sl (fun _ => by simp [enc8])).below hW; have b1 := (u1.sl (fun _ => by simp [enc8])).below hW
  have a2 := (v2.sl (fun _ => by simp [encAcl])).below hW; have b2 := (u2.sl (fun _ => by simp [encAcl])).below hW
  have a3 := (v3.sl (fun _ => by simp [encId])).below hW; have b3 := (u3.sl (fun _ => by simp [encId])).below hW
  have a4 := (v4.sl (fun _ => by simp [encStr])).below hW; have b4 := (u4.sl (fun _ => by simp [encStr])).below hW
  have l2 := v2.len; have l3 := v3.len; have l4 := v4.len; have m2 := u2.len; have m3 := u3.len; have m4 := u4.len
  exact ⟨fun X e => bytesEqual_any _ _ _ _ _ _ _ _ X _ (a1.heapEq e) (b1.heapEq e) v1.hd.1 u1.hd.1,
    fun X e => slEqual_any _ _ _ _ _ _ _ _ X _ (a2.heapEq e) (b2.heapEq e) (by omega) (by omega),
    fun X e => slEqualId_any _ _ _ _ _ _ _ _ X _ (a3.heapEq e) (b3.heapEq e) (by omega) (by omega),
    fun X e => slEqualStr_any _ _ _ _ _ _ _ _ X _ (a4.heapEq e) (b4.heapEq e) (by omega) (by omega)⟩
theorem plain_all (h k : TxH) (bd ba bi bp : Bool) (w : World) (HC : PlC ((w.alloc (objTx h)).alloc (objTx k)) h k bd ba bi bp) : Calls Tryz.prog 178 #[txV h, txV k] w (PlR w (plB h k bd ba bi bp)) := by
  by_cases e0 : h.n.ty = k.n.ty
  case neg => exact plain_0 h k bd ba bi bp w (Lib.hid HC) e0
  by_cases e1 : h.n.path = k.n.path
  case neg => exact plain_1 h k bd ba bi bp w (Lib.hid HC) e0 e1
  cases bd with
  | false => exact plain_2 h k ba bi bp w (Lib.hid HC) e0 e1
  | true =>
  cases ba with
  | false => exact plain_3 h k bi bp w (Lib.hid HC) e0 e1
  | true =>
  by_cases e4 : h.n.ow = k.n.ow
  case neg => exact plain_4 h k bi bp w (Lib.hid HC) e0 e1 e4
  by_cases e5 : h.n.ve = k.n.ve
  case neg => exact plain_5 h k bi bp w (Lib.hid HC) e0 e1 e4 e5
  by_cases e6 : h.n.cr = k.n.cr
  case neg => exact plain_6 h k bi bp w (Lib.hid HC) e0 e1 e4 e5 e6
  by_cases e7 : (h.n.qh, h.n.qc, h.n.qb) = (k.n.qh, k.n.qc, k.n.qb)
  case neg => exact plain_7 h k bi bp w (Lib.hid HC) e0 e1 e4 e5 e6 e7
  by_cases e8 : h.n.si = k.n.si
  case neg => exact plain_8 h k bi bp w (Lib.hid HC) e0 e1 e4 e5 e6 e7 e8
  by_cases e9 : h.n.st = k.n.st
  case neg => exact plain_9 h k bi bp w (Lib.hid HC) e0 e1 e4 e5 e6 e7 e8 e9
  cases bi with
  | false => exact plain_10 h k bp w (Lib.hid HC) e0 e1 e4 e5 e6 e7 e8 e9
  | true =>
  cases bp with
  | false => exact plain_11 h k  w (Lib.hid HC) e0 e1 e4 e5 e6 e7 e8 e9
  | true =>
  by_cases e12 : h.n.co = k.n.co
  case neg => exact plain_12 h k  w (Lib.hid HC) e0 e1 e4 e5 e6 e7 e8 e9 e12
  exact plain_13 h k w (Lib.hid HC) e0 e1 e4 e5 e6 e7 e8 e9 e12
theorem TxF.eq_iff (v u : TxF) : v = u ↔ v.n = u.n ∧ v.data = u.data ∧ v.acl = u.acl ∧ v.ids = u.ids ∧ v.paths = u.paths := by
  constructor
  · intro e; rw [e]; simp
  · intro ⟨a, b, c, d, e⟩; cases v; cases u; simp_all
theorem TxN.eq_iff (v u : TxN) : v = u ↔ v.ty = u.ty ∧ v.path = u.path ∧ v.ow = u.ow ∧ v.ve = u.ve ∧ v.cr = u.cr ∧ v.qh = u.qh ∧ v.qc = u.qc ∧ v.qb = u.qb ∧ v.si = u.si ∧ v.st = u.st ∧ v.co = u.co := by
  constructor
  · intro e; rw [e]; simp
  · intro ⟨a, b, c, d, e, f, g, h, i, j, k⟩; cases v; cases u; simp_all
open Classical in
theorem plain_any (h k : TxH) (v u : TxF) (w : World) (R R' : Nat → Prop) (hv : locTx w R h v) (hu : locTx w R' k u) (m : Nat) (hm : m ≤ 281474976710656) (s1 : v.acl.length ≤ m ∧ v.ids.length ≤ m ∧ v.paths.length ≤ m) (s2 : u.acl.length ≤ m ∧ u.ids.length ≤ m ∧ u.paths.length ≤ m) :
    Calls Tryz.prog 178 #[txV h, txV k] w (PlR w (decide (v = u))) := by
  have hb := plain_all h k _ _ _ _ w (plC_of hv hu m hm s1 s2 _ (two_below w (objTx h) (objTx k)))
  refine hb.mono ?_
  rintro e w' ⟨rfl, h2⟩
  refine PlR.mk h2 ?_
  rw [Bool.eq_iff_iff, decide_eq_true_iff, TxF.eq_iff, TxN.eq_iff, hv.1, hu.1]
  unfold plB
  simp only [Bool.and_eq_true, decide_eq_true_eq, Prod.mk.injEq]
  constructor
  · rintro ⟨⟨⟨⟨⟨⟨⟨⟨⟨⟨⟨⟨a1, a2⟩, a3⟩, a4⟩, a5⟩, a6⟩, a7⟩, a8, a9, a10⟩, a11⟩, a12⟩, a13⟩, a14⟩, a15⟩
    exact ⟨⟨a1, a2, a5, a6, a7, a8, a9, a10, a11, a12, a15⟩, a3, a4, a13, a14⟩
  · rintro ⟨⟨a1, a2, a5, a6, a7, a8, a9, a10, a11, a12, a15⟩, a3, a4, a13, a14⟩
    exact ⟨⟨⟨⟨⟨⟨⟨⟨⟨⟨⟨⟨a1, a2⟩, a3⟩, a4⟩, a5⟩, a6⟩, a7⟩, a8, a9, a10⟩, a11⟩, a12⟩, a13⟩, a14⟩, a15⟩
end Go.Proofs.YtbpmmmnphpkdjaaGreatDoor
