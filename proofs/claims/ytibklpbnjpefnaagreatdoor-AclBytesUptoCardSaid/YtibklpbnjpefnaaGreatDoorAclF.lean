/- The walks of slices.IndexFunc, ContainsFunc, Index, Contains, Equal at identities and entries. Condition: lengths below 2^47. -/
import Derived.Test.YtibklpbnjpefnaaGreatDoorAclS
import Derived.Test.YtibklpbnjpefnaaGreatDoorAclR
namespace Go.Proofs.YtibklpbnjpefnaaGreatDoor
open Go.RowKit

theorem any_split {α : Type} [Inhabited α] (p : α → Bool) (zs : List α) (k : Nat) (hk : k < zs.length) (hp : p zs[k]! = true) : zs.any p = true := by
  rw [List.any_eq_true]
  exact ⟨zs[k]!, by rw [getElem!_pos zs k hk]; exact List.getElem_mem hk, hp⟩
theorem any_none {α : Type} [Inhabited α] (p : α → Bool) (zs : List α) (h : ∀ j, j < zs.length → p zs[j]! = false) : zs.any p = false := by
  rw [Bool.eq_false_iff]
  intro hh
  rw [List.any_eq_true] at hh
  obtain ⟨x, hx, hpx⟩ := hh
  obtain ⟨j, hj, rfl⟩ := List.getElem_of_mem hx
  have := h j hj
  rw [getElem!_pos zs j hj] at this
  rw [this] at hpx; cases hpx
def IdxPost (w : World) (b : Bool) (e : Ending) (w' : World) : Prop := (∃ r : Int, e = .returned (.int .i64 r) ∧ decide (0 ≤ r) = b) ∧ Below w.heap.size w w'
theorem IdxPost.mk {w w' : World} {b : Bool} {r : Int} (h : decide (0 ≤ r) = b) (hb : Below w.heap.size w w') : IdxPost w b (.returned (.int .i64 r)) w' := ⟨⟨r, rfl, h⟩, hb⟩

set_option maxHeartbeats 1000000 in
theorem indexFuncId_any (A : Option Addr) (n c g : Nat) (lb : Array Value) (eg : ∀ args w, (callFunc g args).run Tryz.prog w = .ok (.enter g args) w) (zs : List IdV) (p : IdV → Bool) (w : World) (hz : Sl w w.heap.size encId 2 A n zs) (hn : n ≤ 281474976710656)
    (hp : ∀ (W : World) (k : Nat), k < n → Below w.heap.size w W → Calls Tryz.prog g (#[.agg #[.string zs[k]!.1, .string zs[k]!.2]] ++ lb) W (RetB W (p zs[k]!))) :
    Calls Tryz.prog 106 #[.slice A n c, .func (.func g) #[] lb] w (IdxPost w (zs.any p)) := by
  have HZ := Lib.hid hz.1
  go_enter Tryz.func106, Tryz.ntmps106
  go_wp2
  go_loopw [5, 8] (fun _ i wr => ∃ k : Nat, i = .int .i64 ↑k ∧ k ≤ n ∧ (∀ j, j < k → p zs[j]! = false) ∧ Below w.heap.size w wr) (fun _ i _ => n - (intOf i).toNat)
  case atStart => exact ⟨0, rfl, by omega, fun j hj => absurd hj (by omega), Below.refl _ _⟩
  case round =>
    obtain ⟨k, rfl, hk, hall, hb⟩ := hrel
    have HA := Lib.hid hall; have HB := Lib.hid hb; clear hall
    by_cases hlt : k < n
    · obtain ⟨b, off, rfl, _, x0, x1⟩ := SlId.at_ (hz.below hb) hlt
      have hcall := hp wr k hlt hb
      clear hp hb
      have HS := Lib.hid (any_split p zs k (by rw [HZ.out]; exact hlt))
      have HN : Hid (p zs[k]! = false → ∀ j, j < k + 1 → p zs[j]! = false) := Lib.hid (fun h j hj => by rcases Nat.lt_succ_iff_lt_or_eq.1 hj with h2 | rfl; exact HA.out j h2; exact h)
      generalize hx : zs[k]! = x at *
      obtain ⟨s, t⟩ := x
      clear hx
      cases hq : p (s, t) with
      | true =>
        rw [hq] at hcall
        have HQ := Lib.hid hq; clear hq
        go_wp2_with fail
        refine hcall.mono ?_
        rintro e w' ⟨rfl, hb'⟩
        go_wp2
        go_ret
        exact IdxPost.mk (by rw [HS.out HQ.out]; exact decide_eq_true (by omega)) (HB.out.trans (hb'.mono HB.out.size))
      | false =>
        rw [hq] at hcall
        have HQ := Lib.hid hq; clear hq
        go_wp2_with fail
        refine hcall.mono ?_
        rintro e w' ⟨rfl, hb'⟩
        go_wp2
        go_roundw
        case rel => exact ⟨k + 1, by go_num, by omega, HN.out HQ.out, HB.out.trans (hb'.mono HB.out.size)⟩
        case measure => simp [intOf]; omega
    · go_wp2
      go_ret
      exact IdxPost.mk (by rw [any_none p zs (fun j hj => HA.out j (by have := HZ.out; omega))]; rfl) HB.out
set_option maxHeartbeats 1000000 in
theorem indexFuncAcl_any (A : Option Addr) (n c g : Nat) (lb : Array Value) (eg : ∀ args w, (callFunc g args).run Tryz.prog w = .ok (.enter g args) w) (zs : List AclV) (p : AclV → Bool) (w : World) (hz : Sl w w.heap.size encAcl 3 A n zs) (hn : n ≤ 281474976710656)
    (hp : ∀ (W : World) (k : Nat), k < n → Below w.heap.size w W → Calls Tryz.prog g (#[.agg #[.int .i32 zs[k]!.1, .string zs[k]!.2.1, .string zs[k]!.2.2]] ++ lb) W (RetB W (p zs[k]!))) :
    Calls Tryz.prog 107 #[.slice A n c, .func (.func g) #[] lb] w (IdxPost w (zs.any p)) := by
  have HZ := Lib.hid hz.1
  go_enter Tryz.func107, Tryz.ntmps107
  go_wp2
  go_loopw [5, 8] (fun _ i wr => ∃ k : Nat, i = .int .i64 ↑k ∧ k ≤ n ∧ (∀ j, j < k → p zs[j]! = false) ∧ Below w.heap.size w wr) (fun _ i _ => n - (intOf i).toNat)
  case atStart => exact ⟨0, rfl, by omega, fun j hj => absurd hj (by omega), Below.refl _ _⟩
  case round =>
    obtain ⟨k, rfl, hk, hall, hb⟩ := hrel
    have HA := Lib.hid hall; have HB := Lib.hid hb; clear hall
    by_cases hlt : k < n
    · obtain ⟨b, off, rfl, _, x0, x1, x2⟩ := SlAcl.at_ (hz.below hb) hlt
      have hcall := hp wr k hlt hb
      clear hp hb
      have HS := Lib.hid (any_split p zs k (by rw [HZ.out]; exact hlt))
      have HN : Hid (p zs[k]! = false → ∀ j, j < k + 1 → p zs[j]! = false) := Lib.hid (fun h j hj => by rcases Nat.lt_succ_iff_lt_or_eq.1 hj with h2 | rfl; exact HA.out j h2; exact h)
      generalize hx : zs[k]! = x at *
      obtain ⟨q, s, t⟩ := x
      clear hx
      cases hq : p (q, s, t) with
      | true =>
        rw [hq] at hcall
        have HQ := Lib.hid hq; clear hq
        go_wp2_with fail
        refine hcall.mono ?_
        rintro e w' ⟨rfl, hb'⟩
        go_wp2
        go_ret
        exact IdxPost.mk (by rw [HS.out HQ.out]; exact decide_eq_true (by omega)) (HB.out.trans (hb'.mono HB.out.size))
      | false =>
        rw [hq] at hcall
        have HQ := Lib.hid hq; clear hq
        go_wp2_with fail
        refine hcall.mono ?_
        rintro e w' ⟨rfl, hb'⟩
        go_wp2
        go_roundw
        case rel => exact ⟨k + 1, by go_num, by omega, HN.out HQ.out, HB.out.trans (hb'.mono HB.out.size)⟩
        case measure => simp [intOf]; omega
    · go_wp2
      go_ret
      exact IdxPost.mk (by rw [any_none p zs (fun j hj => HA.out j (by have := HZ.out; omega))]; rfl) HB.out

theorem containsFuncId_any (A : Option Addr) (n c g : Nat) (lb : Array Value) (eg : ∀ args w, (callFunc g args).run Tryz.prog w = .ok (.enter g args) w) (zs : List IdV) (p : IdV → Bool) (w : World) (hz : Sl w w.heap.size encId 2 A n zs) (hn : n ≤ 281474976710656)
    (hp : ∀ (W : World) (k : Nat), k < n → Below w.heap.size w W → Calls Tryz.prog g (#[.agg #[.string zs[k]!.1, .string zs[k]!.2]] ++ lb) W (RetB W (p zs[k]!))) :
    Calls Tryz.prog 76 #[.slice A n c, .func (.func g) #[] lb] w (RetB w (zs.any p)) := by
  have cI := indexFuncId_any A n c g lb eg zs p w hz hn hp
  clear hp
  generalize zs.any p = b at *
  go_enter Tryz.func76, Tryz.ntmps76
  go_wp2_with fail
  refine cI.mono ?_
  rintro e w' ⟨⟨r, rfl, hr⟩, hb⟩
  have HR := Lib.hid hr; clear hr
  go_wp2
  go_ret
  exact RetB.mk hb HR.out

theorem containsFuncAcl_any (A : Option Addr) (n c g : Nat) (lb : Array Value) (eg : ∀ args w, (callFunc g args).run Tryz.prog w = .ok (.enter g args) w) (zs : List AclV) (p : AclV → Bool) (w : World) (hz : Sl w w.heap.size encAcl 3 A n zs) (hn : n ≤ 281474976710656)
    (hp : ∀ (W : World) (k : Nat), k < n → Below w.heap.size w W → Calls Tryz.prog g (#[.agg #[.int .i32 zs[k]!.1, .string zs[k]!.2.1, .string zs[k]!.2.2]] ++ lb) W (RetB W (p zs[k]!))) :
    Calls Tryz.prog 78 #[.slice A n c, .func (.func g) #[] lb] w (RetB w (zs.any p)) := by
  have cI := indexFuncAcl_any A n c g lb eg zs p w hz hn hp
  clear hp
  generalize zs.any p = b at *
  go_enter Tryz.func78, Tryz.ntmps78
  go_wp2_with fail
  refine cI.mono ?_
  rintro e w' ⟨⟨r, rfl, hr⟩, hb⟩
  have HR := Lib.hid hr; clear hr
  go_wp2
  go_ret
  exact RetB.mk hb HR.out

set_option maxHeartbeats 1000000 in
theorem indexId_any (A : Option Addr) (n c : Nat) (zs : List IdV) (s t : ByteArray) (w : World) (hz : Sl w w.heap.size encId 2 A n zs) (hn : n ≤ 281474976710656) :
    Calls Tryz.prog 92 #[.slice A n c, .agg #[.string s, .string t]] w (IdxPost w (zs.any (fun y => decide (y = (s, t))))) := by
  have HZ := Lib.hid hz.1
  have hb0 : Below w.heap.size w (w.alloc (.cells #[.string s, .string t] 69)) := (Below.refl _ w).alloc (Nat.le_refl _) _
  go_enter Tryz.func92, Tryz.ntmps92
  go_wp2
  go_loopw [5, 8] (fun _ i wr => ∃ (k q : Nat), i = .int .i64 ↑k ∧ k ≤ n ∧ (∀ j, j < k → decide (zs[j]! = (s, t)) = false) ∧ wr = (w.alloc (.cells #[.string s, .string t] 69)).drewN q) (fun _ i _ => n - (intOf i).toNat)
  case atStart => exact ⟨0, 0, rfl, by omega, fun j hj => absurd hj (by omega), rfl⟩
  case round =>
    obtain ⟨k, q, rfl, hk, hall, rfl⟩ := hrel
    have HA := Lib.hid hall; clear hall
    by_cases hlt : k < n
    · obtain ⟨b, off, rfl, hbl, x0, x1⟩ := SlId.at_ (hz.below hb0) hlt
      have HS := Lib.hid (any_split (fun y => decide (y = (s, t))) zs k (by rw [HZ.out]; exact hlt))
      have HN : Hid (decide (zs[k]! = (s, t)) = false → ∀ j, j < k + 1 → decide (zs[j]! = (s, t)) = false) := Lib.hid (fun h j hj => by rcases Nat.lt_succ_iff_lt_or_eq.1 hj with h2 | rfl; exact HA.out j h2; exact h)
      generalize hx : zs[k]! = x at *
      obtain ⟨s', t'⟩ := x
      clear hx
      have heq := fun w => (eqId w s t s' t').trans (by rw [show decide ((s, t) = (s', t')) = decide ((s', t') = (s, t)) from decide_eq_decide.2 eq_comm] : _ = Result.ok (.bool (decide ((s', t') = (s, t)))) w)
      cases hq : decide ((s', t') = (s, t))
      · have HQ := Lib.hid hq
        rw [hq] at heq
        clear hq
        go_wp2
        go_quiet (fail)
        go_wp2
        go_roundw
        case rel => exact ⟨k + 1, q + nq, by go_num, by omega, HN.out HQ.out, by first | rfl | rw [World.drewN_drewN]⟩
        case measure => simp [intOf]; omega
      · have HQ := Lib.hid hq
        rw [hq] at heq
        clear hq
        go_wp2
        go_quiet (fail)
        go_wp2
        go_ret
        exact IdxPost.mk (by rw [HS.out HQ.out]; exact decide_eq_true (by omega)) (drewN_below (drewN_below hb0 q) nq)
    · go_wp2
      go_ret
      exact IdxPost.mk (by rw [any_none _ zs (fun j hj => HA.out j (by have := HZ.out; omega))]; rfl) (drewN_below hb0 q)

theorem containsId_any (A : Option Addr) (n c : Nat) (zs : List IdV) (s t : ByteArray) (w : World) (hz : Sl w w.heap.size encId 2 A n zs) (hn : n ≤ 281474976710656) :
    Calls Tryz.prog 56 #[.slice A n c, .agg #[.string s, .string t]] w (RetB w (zs.any (fun y => decide (y = (s, t))))) := by
  have hb0 : Below w.heap.size w (w.alloc (.cells #[.string s, .string t] 69)) := (Below.refl _ w).alloc (Nat.le_refl _) _
  have cI := indexId_any A n c zs s t (w.alloc (.cells #[.string s, .string t] 69)) (hz.belowMore hb0 hb0.size) hn
  generalize zs.any (fun y => decide (y = (s, t))) = b at *
  go_enter Tryz.func56, Tryz.ntmps56
  go_wp2_with fail
  refine cI.mono ?_
  rintro e w' ⟨⟨r, rfl, hr⟩, hb⟩
  have HR := Lib.hid hr; clear hr
  go_wp2
  go_ret
  exact RetB.mk (hb0.trans (hb.mono hb0.size)) HR.out
end Go.Proofs.YtibklpbnjpefnaaGreatDoor
