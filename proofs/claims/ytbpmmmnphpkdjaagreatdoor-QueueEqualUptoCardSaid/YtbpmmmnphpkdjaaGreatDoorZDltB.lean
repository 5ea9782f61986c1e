/- The walks of bytes.Equal, slices.Equal and slices.ContainsFunc at texts; '==' at quotas. Condition: lengths below 2^47. -/
import Derived.Test.YtbpmmmnphpkdjaaGreatDoorZTxnP
import Derived.Test.YtbpmmmnphpkdjaaGreatDoorZAclF
import Derived.Test.YtbpmmmnphpkdjaaGreatDoorZSesR
import Derived.Laws.BytesArg
import Derived.Lib.BufferRead
namespace Go.Proofs.YtbpmmmnphpkdjaaGreatDoor
open Go.RowKit Go.MapKept
theorem conv_sl {w : World} {B n c : Nat} {A : Option Addr} {l : Bs} (h : Sl w B enc8 1 A n l) (hA : A = none → n = 0 ∧ c = 0) :
    (convert 41 9 (.slice A n c)).run Tryz.prog w = .ok (.string ⟨l.toArray⟩) w := by
  cases A with
  | none =>
    obtain ⟨rfl, rfl⟩ := hA rfl
    have hl : l = [] := List.length_eq_zero_iff.1 h.len
    subst hl
    exact Lib.run_convert_nil_bytes w 41 9 5 0 Tryz.underlying41 Tryz.underlying5 Tryz.underlying9
  | some a =>
    have hl := h.len
    subst hl
    refine run_convert_bytes_back w 41 9 5 a c l Tryz.underlying41 Tryz.underlying5 Tryz.underlying9 ?_
    intro j hj
    obtain ⟨b, off, e, _, hc⟩ := h.cells hj
    injection e with e
    subst e
    have := hc 0 (.int .u8 (l[j].toNat : Int)) (by unfold enc8; rw [getElem!_pos l j hj]; rfl)
    rw [Addr.add_lit]
    simpa using this
theorem bytes_mk (xs ys : Bs) : ((⟨xs.toArray⟩ : ByteArray).toList == (⟨ys.toArray⟩ : ByteArray).toList) = decide (xs = ys) := by
  rw [ByteArray.toList_eq, ByteArray.toList_eq]
  show (xs == ys) = _
  rw [Bool.eq_iff_iff, beq_iff_eq, decide_eq_true_iff]
set_option maxHeartbeats 1000000 in
theorem bytesEqual_any (A A' : Option Addr) (n m c c' : Nat) (xs ys : Bs) (w : World) (B : Nat) (hx : Sl w B enc8 1 A n xs) (hy : Sl w B enc8 1 A' m ys) (hA : A = none → n = 0 ∧ c = 0) (hA' : A' = none → m = 0 ∧ c' = 0) :
    Calls Tryz.prog 209 #[.slice A n c, .slice A' m c'] w (QuietB w (decide (xs = ys))) := by
  have h1 := conv_sl (c := c) hx hA
  have h2 := conv_sl (c := c') hy hA'
  have HB := Lib.hid (bytes_mk xs ys)
  clear hx hy hA hA'
  go_enter Tryz.func209, Tryz.ntmps209
  go_wp2
  go_ret
  exact QuietB.mk ⟨0, rfl⟩ (by have := HB.out; rwa [ByteArray.toList_eq, ByteArray.toList_eq] at this)
theorem SlStr.at_ {w : World} {B n j : Nat} {A : Option Addr} {zs : List ByteArray} (h : Sl w B encStr 1 A n zs) (hj : j < n) :
    ∃ b off, A = some ⟨b, off, none⟩ ∧ b < B ∧ w.cell? ⟨b, off + j, none⟩ = some (.string zs[j]!) := by
  obtain ⟨b, off, e, hb, hc⟩ := h.cells hj
  have := hc 0 _ rfl
  rw [Nat.mul_one, Nat.add_zero] at this
  exact ⟨b, off, e, hb, this⟩
theorem ne_str (x y : ByteArray) (h : x ≠ y) : (x.toList == y.toList) = false := by
  have := beq_dec x y
  rwa [decide_eq_false h] at this
set_option maxHeartbeats 1000000 in
theorem slEqualStr_any (A A' : Option Addr) (n m c c' : Nat) (xs ys : List ByteArray) (w : World) (B : Nat) (hx : Sl w B encStr 1 A n xs) (hy : Sl w B encStr 1 A' m ys) (hn : n ≤ 281474976710656) (hm : m ≤ 281474976710656) :
    Calls Tryz.prog 212 #[.slice A n c, .slice A' m c'] w (QuietB w (decide (xs = ys))) := by
  by_cases hnm : n = m
  · subst hnm
    have hlen : xs.length = ys.length := hx.1.trans hy.1.symm
    have HL := Lib.hid hlen; have HXL := Lib.hid hx.1; clear hlen
    go_enter Tryz.func212, Tryz.ntmps212
    go_wp2
    go_loopw [5, 13] (fun _ i wr => ∃ (k q : Nat), i = .int .i64 ↑k ∧ k ≤ n ∧ (∀ j, j < k → xs[j]! = ys[j]!) ∧ wr = w.drewN q) (fun _ i _ => n - (intOf i).toNat)
    case atStart => exact ⟨0, 0, rfl, by omega, fun j hj => absurd hj (by omega), rfl⟩
    case round =>
      obtain ⟨k, q, rfl, hk, hall, rfl⟩ := hrel
      have HA := Lib.hid hall; clear hall
      by_cases hlt : k < n
      · obtain ⟨b, off, rfl, _, x0⟩ := SlStr.at_ hx hlt
        obtain ⟨b', off', rfl, _, y0⟩ := SlStr.at_ hy hlt
        by_cases he : xs[k]! = ys[k]!
        · have HA1 := Lib.hid (show ∀ j, j < k + 1 → xs[j]! = ys[j]! from fun j hj => by rcases Nat.lt_succ_iff_lt_or_eq.1 hj with h | rfl; exact HA.out j h; exact he)
          rw [he] at x0
          clear he
          generalize ys[k]! = y at *
          go_wp2
          go_quiet (fail)
          go_wp2
          go_roundw
          case rel => exact ⟨k + 1, q + nq, by go_num, by omega, HA1.out, rfl⟩
          case measure => simp [intOf]; omega
        · have HE := Lib.hid (show decide (xs = ys) = false from decide_eq_false fun e => he (by rw [e]))
          have HW := ne_str _ _ he
          clear he
          generalize xs[k]! = x at *
          generalize ys[k]! = y at *
          go_wp2
          go_quiet (fail)
          go_wp2
          go_ret
          exact QuietB.mk ⟨q + nq, World.drewN_drewN ..⟩ HE.out.symm
      · have HE := Lib.hid (show decide (xs = ys) = true from decide_eq_true (list_ext_bang HL.out fun j hj => HA.out j (by have := HXL.out; omega)))
        go_wp2
        go_ret
        exact QuietB.mk ⟨q, rfl⟩ HE.out.symm
  · have HE := Lib.hid (show decide (xs = ys) = false from decide_eq_false fun e => hnm (by rw [← hx.1, ← hy.1, e]))
    have hd : ((n : Int) != (m : Int)) = true := by simp; omega
    clear hnm
    go_enter Tryz.func212, Tryz.ntmps212
    go_wp2
    go_ret
    exact QuietB.mk ⟨0, rfl⟩ HE.out.symm
theorem indexFuncStr_any (A : Option Addr) (n c g : Nat) (v : Value) (hv : v = .func (.func g) #[] #[]) (eg : ∀ args w, (callFunc g args).run Tryz.prog w = .ok (.enter g args) w) (zs : List ByteArray) (p : ByteArray → Bool) (w : World) (hz : Sl w w.heap.size encStr 1 A n zs) (hn : n ≤ 281474976710656)
    (hp : ∀ (W : World) (k : Nat), k < n → Below w.heap.size w W → Calls Tryz.prog g #[.string zs[k]!] W (RetB W (p zs[k]!))) :
    Calls Tryz.prog 206 #[.slice A n c, v] w (IdxPost w (zs.any p)) := by
  subst hv
  have HZ := Lib.hid hz.1
  go_enter Tryz.func206, Tryz.ntmps206
  go_wp2
  go_loopw [5, 8] (fun _ i wr => ∃ k : Nat, i = .int .i64 ↑k ∧ k ≤ n ∧ (∀ j, j < k → p zs[j]! = false) ∧ Below w.heap.size w wr) (fun _ i _ => n - (intOf i).toNat)
  case atStart => exact ⟨0, rfl, by omega, fun j hj => absurd hj (by omega), Below.refl _ _⟩
  case round =>
    obtain ⟨k, rfl, hk, hall, hb⟩ := hrel
    have HA := Lib.hid hall; have HB := Lib.hid hb; clear hall
    by_cases hlt : k < n
    · obtain ⟨b, off, rfl, _, x0⟩ := SlStr.at_ (hz.below hb) hlt
      have hcall := hp wr k hlt hb
      clear hp hb
      have HS := Lib.hid (any_split p zs k (by rw [HZ.out]; exact hlt))
      have HN : Hid (p zs[k]! = false → ∀ j, j < k + 1 → p zs[j]! = false) := Lib.hid (fun h j hj => by rcases Nat.lt_succ_iff_lt_or_eq.1 hj with h2 | rfl; exact HA.out j h2; exact h)
      generalize hx : zs[k]! = x at *
      clear hx
      cases hq : p x with
      | true =>
        rw [hq] at hcall
        have HQ := Lib.hid hq; clear hq
        go_wp2_with fail
        refine hcall.mono ?_
        rintro e w' ⟨rfl, hb'⟩
        go_wp2
        go_ret
        exact IdxPost.mk (by rw [HS.out HQ.out]; exact decide_eq_true (by omega)) (HB.out.trans (hb'.mono HB.out.size))
      | false =>
        rw [hq] at hcall
        have HQ := Lib.hid hq; clear hq
        go_wp2_with fail
        refine hcall.mono ?_
        rintro e w' ⟨rfl, hb'⟩
        go_wp2
        go_roundw
        case rel => exact ⟨k + 1, by go_num, by omega, HN.out HQ.out, HB.out.trans (hb'.mono HB.out.size)⟩
        case measure => simp [intOf]; omega
    · go_wp2
      go_ret
      exact IdxPost.mk (by rw [any_none p zs (fun j hj => HA.out j (by have := HZ.out; omega))]; rfl) HB.out
set_option maxRecDepth 100000 in
theorem containsFuncStr_any (A : Option Addr) (n c g : Nat) (v : Value) (hv : v = .func (.func g) #[] #[]) (eg : ∀ args w, (callFunc g args).run Tryz.prog w = .ok (.enter g args) w) (zs : List ByteArray) (p : ByteArray → Bool) (w : World) (hz : Sl w w.heap.size encStr 1 A n zs) (hn : n ≤ 281474976710656)
    (hp : ∀ (W : World) (k : Nat), k < n → Below w.heap.size w W → Calls Tryz.prog g #[.string zs[k]!] W (RetB W (p zs[k]!))) :
    Calls Tryz.prog 171 #[.slice A n c, v] w (RetB w (zs.any p)) := by
  have cI := indexFuncStr_any A n c g v hv eg zs p w hz hn hp
  subst hv
  clear hp
  generalize zs.any p = b at *
  go_enter Tryz.func171, Tryz.ntmps171
  go_wp2_with fail
  refine cI.mono ?_
  rintro e w' ⟨⟨r, rfl, hr⟩, hb⟩
  have HR := Lib.hid hr; clear hr
  go_wp2
  go_ret
  exact RetB.mk hb HR.out
section
variable (w : World) (a d : Bool) (b c e f : Int)
set_option maxRecDepth 100000 in
theorem fieldsQ : Tryz.prog.underlying 44 = some (.struct (Tryz.prog.fieldsOf 44)) := by kernel_rfl
theorem stoodQ : Tryz.prog.stoodInHeld 44 = false := by kernel_rfl
set_option maxRecDepth 100000 in
theorem equalQ (k : Nat) : (Op.equalIn (k + 2) 44 (.agg #[.bool a, .int .i64 b, .int .i64 c]) (.agg #[.bool d, .int .i64 e, .int .i64 f])).run Tryz.prog w = .ok (decide ((a, b, c) = (d, e, f))) w := by
  have u3 := Tryz.underlying4
  have a3 := Tryz.isAgg4
  have z3 := Tryz.sizeOf4
  have u1 := Tryz.underlying2
  have a1 := Tryz.isAgg2
  have z1 := Tryz.sizeOf2
  rw [run_equalIn_agg w (k + 1) 44 _ _ fieldsQ stoodQ]
  simp only [Program.fieldsOf, Tryz.underlying44]
  go_simp
  by_cases h1 : a = d <;> by_cases h2 : b = e <;> by_cases h3 : c = f <;> simp [h1, h2, h3]
set_option maxRecDepth 100000 in
theorem eqQ : (binOp .eql 44 (.agg #[.bool a, .int .i64 b, .int .i64 c]) (.agg #[.bool d, .int .i64 e, .int .i64 f])).run Tryz.prog w = .ok (.bool (decide ((a, b, c) = (d, e, f)))) w := by
  rw [run_eql_struct, show (10000 : Nat) = 9998 + 2 from rfl, equalQ]; rfl
end
end Go.Proofs.YtbpmmmnphpkdjaaGreatDoor
