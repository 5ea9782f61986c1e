/- The walks of acl.Identity and acl.Right. Condition: the texts have fewer than 2^48 bytes. -/
import Derived.Test.YthpjneobmmpbnaaGreatDoorGAclDec
import Derived.Test.YthpjneobmmpbnaaGreatDoorGAclP
import Derived.Test.YthpjneobmmpbnaaGreatDoorGRows2
namespace Go.Proofs.YthpjneobmmpbnaaGreatDoor
open Go.RowKit

theorem str_is (s : ByteArray) (l : List UInt8) : (s.toList == l) = decide (s = ⟨l.toArray⟩) := by
  rw [← beq_dec]; congr 1; rw [ByteArray.toList_eq]
theorem str_digest (s : ByteArray) : (s.toList == [100, 105, 103, 101, 115, 116]) = decide (s = sDigest) := str_is s _
theorem str_ip (s : ByteArray) : (s.toList == [105, 112]) = decide (s = sIp) := str_is s _
theorem str_super (s : ByteArray) : (s.toList == [115, 117, 112, 101, 114]) = decide (s = sSuper) := str_is s _
theorem bcell {W w1 : World} (hb : Below W.heap.size W w1) : (∀ b o, b < W.heap.size → w1.cell? ⟨b, o, none⟩ = W.cell? ⟨b, o, none⟩) ∧ (∀ b o, b < W.heap.size → w1.frozen? ⟨b, o, none⟩ = W.frozen? ⟨b, o, none⟩) :=
  ⟨fun b o h => hb.cell (p := ⟨b, o, none⟩) h, fun b o h => hb.frozen (p := ⟨b, o, none⟩) h⟩
theorem textOk_size {s : ByteArray} (h : textOk s = true) : s.size ≤ 256 := by
  unfold textOk at h
  simp only [Bool.and_eq_true, decide_eq_true_eq] at h
  exact h.1.1.2

set_option maxHeartbeats 1000000 in
theorem identity_any (s t : ByteArray) (hs : s.size ≤ 140737488355328) (ht : t.size ≤ 140737488355328) (w : World) (hE : Env w) :
    Calls Tryz.prog 201 #[.agg #[.string s, .string t]] w (RetB w (identP (s, t))) := by
  have cS := fun W (hW : Env W) => text_any s hs W hW.tabs
  have cT := fun W (hW : Env W) => text_any t ht W hW.tabs
  have HR := Lib.hid (show identP (s, t) = (textOk s && textOk t && (if s = sDigest then digestP t else if s = sIp then (adr t).isSome else decide (s = sSuper))) from rfl)
  have hb0 : Below w.heap.size w (w.alloc (.cells #[.string s, .string t] 108)) := (Below.refl _ w).alloc (Nat.le_refl _) _
  cases hts : textOk s with
  | false =>
    rw [hts] at cS
    have HB := Lib.hid (show identP (s, t) = false by rw [HR.out, hts]; simp)
    clear hts
    go_enter Tryz.func201, Tryz.ntmps201
    go_wp2_with fail
    refine (cS _ (hE.later hb0)).mono ?_
    rintro e w1 ⟨rfl, hb1⟩
    go_wp2
    go_ret
    exact RetB.mk (hb0.trans (hb1.mono hb0.size)) HB.out.symm
  | true =>
    rw [hts] at cS
    cases htt : textOk t with
    | false =>
      rw [htt] at cT
      have HB := Lib.hid (show identP (s, t) = false by rw [HR.out, htt]; simp)
      clear hts htt
      go_enter Tryz.func201, Tryz.ntmps201
      go_wp2_with fail
      refine (cS _ (hE.later hb0)).mono ?_
      rintro e w1 ⟨rfl, hb1⟩
      obtain ⟨hc1, hf1⟩ := bcell hb1
      go_wp2_with fail
      refine (cT _ ((hE.later hb0).later hb1)).mono ?_
      rintro e w2 ⟨rfl, hb2⟩
      go_wp2
      go_ret
      exact RetB.mk ((hb0.trans (hb1.mono hb0.size)).trans (hb2.mono (by have := hb1.size; simp at this; omega))) HB.out.symm
    | true =>
      rw [htt] at cT
      have hz := textOk_size htt
      have HR2 := Lib.hid (show identP (s, t) = (if s = sDigest then digestP t else if s = sIp then (adr t).isSome else decide (s = sSuper)) by rw [HR.out, hts, htt]; simp)
      clear hts htt HR
      have f1 := str_digest s; have f2 := str_ip s; have f3 := str_super s
      have cD := fun W => digest_any t W
      have cN := fun W (hW : Env W) => address_any t (by omega) W hW
      have hcase : (s = sDigest ∧ identP (s, t) = digestP t) ∨ (s ≠ sDigest ∧ s = sIp ∧ identP (s, t) = (adr t).isSome) ∨ (s ≠ sDigest ∧ s ≠ sIp ∧ identP (s, t) = decide (s = sSuper)) := by
        rw [HR2.out]
        by_cases e2 : s = sDigest
        · rw [if_pos e2]; exact (.inl ⟨e2, rfl⟩)
        · rw [if_neg e2]
          by_cases e3 : s = sIp
          · rw [if_pos e3]; exact (.inr (.inl ⟨e2, e3, rfl⟩))
          · rw [if_neg e3]; exact .inr (.inr ⟨e2, e3, rfl⟩)
      clear HR2
      rcases hcase with ⟨e1, hv⟩ | ⟨e1, e2, hv⟩ | ⟨e1, e2, hv⟩
      · rw [decide_eq_true e1] at f1
        have HV := Lib.hid hv
        clear e1 hv f2 f3 cN
        generalize digestP t = b at *
        go_enter Tryz.func201, Tryz.ntmps201
        go_wp2_with fail
        refine (cS _ (hE.later hb0)).mono ?_
        rintro e w1 ⟨rfl, hb1⟩
        obtain ⟨hc1, hf1⟩ := bcell hb1
        have hz1 : w.heap.size < w1.heap.size := by have := hb1.size; simp at this; omega
        go_wp2_with fail
        refine (cT _ ((hE.later hb0).later hb1)).mono ?_
        rintro e w2 ⟨rfl, hb2⟩
        obtain ⟨hc2, hf2⟩ := bcell hb2
        go_wp2_with fail
        refine (cD _).mono ?_
        rintro e w3 ⟨rfl, hb3⟩
        go_wp2
        go_ret
        exact RetB.mk (((hb0.trans (hb1.mono hb0.size)).trans (hb2.mono (by omega))).trans (hb3.mono (by have := hb2.size; omega))) HV.out.symm
      · rw [decide_eq_false e1] at f1
        rw [decide_eq_true e2] at f2
        have HV := Lib.hid hv
        clear e1 e2 hv f3 cD
        unfold RetA at cN
        generalize (adr t).isSome = b at *
        generalize (adr t).getD 0 = na at *
        go_enter Tryz.func201, Tryz.ntmps201
        go_wp2_with fail
        refine (cS _ (hE.later hb0)).mono ?_
        rintro e w1 ⟨rfl, hb1⟩
        obtain ⟨hc1, hf1⟩ := bcell hb1
        have hz1 : w.heap.size < w1.heap.size := by have := hb1.size; simp at this; omega
        go_wp2_with fail
        refine (cT _ ((hE.later hb0).later hb1)).mono ?_
        rintro e w2 ⟨rfl, hb2⟩
        obtain ⟨hc2, hf2⟩ := bcell hb2
        go_wp2_with fail
        refine (cN _ (((hE.later hb0).later hb1).later hb2)).mono ?_
        rintro e w3 ⟨rfl, hb3⟩
        go_wp2
        go_ret
        exact RetB.mk (((hb0.trans (hb1.mono hb0.size)).trans (hb2.mono (by omega))).trans (hb3.mono (by have := hb2.size; omega))) HV.out.symm
      · rw [decide_eq_false e1] at f1
        rw [decide_eq_false e2] at f2
        have HV := Lib.hid hv
        clear e1 e2 hv cD cN
        cases hb : decide (s = sSuper)
        all_goals
          rw [hb] at f3 HV
          clear hb
          go_enter Tryz.func201, Tryz.ntmps201
          go_wp2_with fail
          refine (cS _ (hE.later hb0)).mono ?_
          rintro e w1 ⟨rfl, hb1⟩
          obtain ⟨hc1, hf1⟩ := bcell hb1
          have hz1 : w.heap.size < w1.heap.size := by have := hb1.size; simp at this; omega
          go_wp2_with fail
          refine (cT _ ((hE.later hb0).later hb1)).mono ?_
          rintro e w2 ⟨rfl, hb2⟩
          obtain ⟨hc2, hf2⟩ := bcell hb2
          go_wp2
          go_ret
          exact RetB.mk ((hb0.trans (hb1.mono hb0.size)).trans (hb2.mono (by omega))) HV.out.symm
end Go.Proofs.YthpjneobmmpbnaaGreatDoor
namespace Go.Proofs.YthpjneobmmpbnaaGreatDoor

theorem validD_ascii : ∀ l : List UInt8, (∀ b ∈ l, b.toNat < 128) → Lib.validD l = true
  | [], _ => Lib.validD_nil
  | b :: r, h => by rw [Lib.validD_cons _ _ (h b (by simp))]; exact validD_ascii r (fun x hx => h x (by simp [hx]))
end Go.Proofs.YthpjneobmmpbnaaGreatDoor
namespace Go.Proofs.YthpjneobmmpbnaaGreatDoor
open Go.RowKit

theorem any_split {α : Type} [Inhabited α] (p : α → Bool) (zs : List α) (k : Nat) (hk : k < zs.length) (hp : p zs[k]! = true) : zs.any p = true := by
  rw [List.any_eq_true]
  exact ⟨zs[k]!, by rw [getElem!_pos zs k hk]; exact List.getElem_mem hk, hp⟩
theorem any_none {α : Type} [Inhabited α] (p : α → Bool) (zs : List α) (h : ∀ j, j < zs.length → p zs[j]! = false) : zs.any p = false := by
  rw [Bool.eq_false_iff]
  intro hh
  rw [List.any_eq_true] at hh
  obtain ⟨x, hx, hpx⟩ := hh
  obtain ⟨j, hj, rfl⟩ := List.getElem_of_mem hx
  have := h j hj
  rw [getElem!_pos zs j hj] at this
  rw [this] at hpx; cases hpx
def IdxPost (w : World) (b : Bool) (e : Ending) (w' : World) : Prop := (∃ r : Int, e = .returned (.int .i64 r) ∧ decide (0 ≤ r) = b) ∧ Below w.heap.size w w'
theorem IdxPost.mk {w w' : World} {b : Bool} {r : Int} (h : decide (0 ≤ r) = b) (hb : Below w.heap.size w w') : IdxPost w b (.returned (.int .i64 r)) w' := ⟨⟨r, rfl, h⟩, hb⟩

set_option maxHeartbeats 1000000 in
theorem indexFuncId_any (A : Option Addr) (n c g : Nat) (lb : Array Value) (eg : ∀ args w, (callFunc g args).run Tryz.prog w = .ok (.enter g args) w) (zs : List IdV) (p : IdV → Bool) (w : World) (hz : Sl w w.heap.size encId 2 A n zs) (hn : n ≤ 281474976710656)
    (hp : ∀ (W : World) (k : Nat), k < n → Below w.heap.size w W → Calls Tryz.prog g (#[.agg #[.string zs[k]!.1, .string zs[k]!.2]] ++ lb) W (RetB W (p zs[k]!))) :
    Calls Tryz.prog 198 #[.slice A n c, .func (.func g) #[] lb] w (IdxPost w (zs.any p)) := by
  have HZ := Lib.hid hz.1
  go_enter Tryz.func198, Tryz.ntmps198
  go_wp2
  go_loopw [5, 8] (fun _ i wr => ∃ k : Nat, i = .int .i64 ↑k ∧ k ≤ n ∧ (∀ j, j < k → p zs[j]! = false) ∧ Below w.heap.size w wr) (fun _ i _ => n - (RowKit.intOf i).toNat)
  case atStart => exact ⟨0, rfl, by omega, fun j hj => absurd hj (by omega), Below.refl _ _⟩
  case round =>
    obtain ⟨k, rfl, hk, hall, hb⟩ := hrel
    have HA := Lib.hid hall; have HB := Lib.hid hb; clear hall
    by_cases hlt : k < n
    · obtain ⟨b, off, rfl, _, x0, x1⟩ := SlId.at_ (hz.below hb) hlt
      have hcall := hp wr k hlt hb
      clear hp hb
      have HS := Lib.hid (any_split p zs k (by rw [HZ.out]; exact hlt))
      have HN : Hid (p zs[k]! = false → ∀ j, j < k + 1 → p zs[j]! = false) := Lib.hid (fun h j hj => by rcases Nat.lt_succ_iff_lt_or_eq.1 hj with h2 | rfl; exact HA.out j h2; exact h)
      generalize hx : zs[k]! = x at *
      obtain ⟨s, t⟩ := x
      clear hx
      cases hq : p (s, t) with
      | true =>
        rw [hq] at hcall
        have HQ := Lib.hid hq; clear hq
        go_wp2_with fail
        refine hcall.mono ?_
        rintro e w' ⟨rfl, hb'⟩
        go_wp2
        go_ret
        exact IdxPost.mk (by rw [HS.out HQ.out]; exact decide_eq_true (by omega)) (HB.out.trans (hb'.mono HB.out.size))
      | false =>
        rw [hq] at hcall
        have HQ := Lib.hid hq; clear hq
        go_wp2_with fail
        refine hcall.mono ?_
        rintro e w' ⟨rfl, hb'⟩
        go_wp2
        go_roundw
        case rel => exact ⟨k + 1, by go_num, by omega, HN.out HQ.out, HB.out.trans (hb'.mono HB.out.size)⟩
        case measure => simp [RowKit.intOf]; omega
    · go_wp2
      go_ret
      exact IdxPost.mk (by rw [any_none p zs (fun j hj => HA.out j (by have := HZ.out; omega))]; rfl) HB.out
set_option maxHeartbeats 1000000 in
theorem indexFuncAcl_any (A : Option Addr) (n c g : Nat) (lb : Array Value) (eg : ∀ args w, (callFunc g args).run Tryz.prog w = .ok (.enter g args) w) (zs : List AclV) (p : AclV → Bool) (w : World) (hz : Sl w w.heap.size encAcl 3 A n zs) (hn : n ≤ 281474976710656)
    (hp : ∀ (W : World) (k : Nat), k < n → Below w.heap.size w W → Calls Tryz.prog g (#[.agg #[.int .i32 zs[k]!.1, .string zs[k]!.2.1, .string zs[k]!.2.2]] ++ lb) W (RetB W (p zs[k]!))) :
    Calls Tryz.prog 197 #[.slice A n c, .func (.func g) #[] lb] w (IdxPost w (zs.any p)) := by
  have HZ := Lib.hid hz.1
  go_enter Tryz.func197, Tryz.ntmps197
  go_wp2
  go_loopw [5, 8] (fun _ i wr => ∃ k : Nat, i = .int .i64 ↑k ∧ k ≤ n ∧ (∀ j, j < k → p zs[j]! = false) ∧ Below w.heap.size w wr) (fun _ i _ => n - (RowKit.intOf i).toNat)
  case atStart => exact ⟨0, rfl, by omega, fun j hj => absurd hj (by omega), Below.refl _ _⟩
  case round =>
    obtain ⟨k, rfl, hk, hall, hb⟩ := hrel
    have HA := Lib.hid hall; have HB := Lib.hid hb; clear hall
    by_cases hlt : k < n
    · obtain ⟨b, off, rfl, _, x0, x1, x2⟩ := SlAcl.at_ (hz.below hb) hlt
      have hcall := hp wr k hlt hb
      clear hp hb
      have HS := Lib.hid (any_split p zs k (by rw [HZ.out]; exact hlt))
      have HN : Hid (p zs[k]! = false → ∀ j, j < k + 1 → p zs[j]! = false) := Lib.hid (fun h j hj => by rcases Nat.lt_succ_iff_lt_or_eq.1 hj with h2 | rfl; exact HA.out j h2; exact h)
      generalize hx : zs[k]! = x at *
      obtain ⟨q, s, t⟩ := x
      clear hx
      cases hq : p (q, s, t) with
      | true =>
        rw [hq] at hcall
        have HQ := Lib.hid hq; clear hq
        go_wp2_with fail
        refine hcall.mono ?_
        rintro e w' ⟨rfl, hb'⟩
        go_wp2
        go_ret
        exact IdxPost.mk (by rw [HS.out HQ.out]; exact decide_eq_true (by omega)) (HB.out.trans (hb'.mono HB.out.size))
      | false =>
        rw [hq] at hcall
        have HQ := Lib.hid hq; clear hq
        go_wp2_with fail
        refine hcall.mono ?_
        rintro e w' ⟨rfl, hb'⟩
        go_wp2
        go_roundw
        case rel => exact ⟨k + 1, by go_num, by omega, HN.out HQ.out, HB.out.trans (hb'.mono HB.out.size)⟩
        case measure => simp [RowKit.intOf]; omega
    · go_wp2
      go_ret
      exact IdxPost.mk (by rw [any_none p zs (fun j hj => HA.out j (by have := HZ.out; omega))]; rfl) HB.out

theorem containsFuncId_any (A : Option Addr) (n c g : Nat) (lb : Array Value) (eg : ∀ args w, (callFunc g args).run Tryz.prog w = .ok (.enter g args) w) (zs : List IdV) (p : IdV → Bool) (w : World) (hz : Sl w w.heap.size encId 2 A n zs) (hn : n ≤ 281474976710656)
    (hp : ∀ (W : World) (k : Nat), k < n → Below w.heap.size w W → Calls Tryz.prog g (#[.agg #[.string zs[k]!.1, .string zs[k]!.2]] ++ lb) W (RetB W (p zs[k]!))) :
    Calls Tryz.prog 158 #[.slice A n c, .func (.func g) #[] lb] w (RetB w (zs.any p)) := by
  have cI := indexFuncId_any A n c g lb eg zs p w hz hn hp
  clear hp
  generalize zs.any p = b at *
  go_enter Tryz.func158, Tryz.ntmps158
  go_wp2_with fail
  refine cI.mono ?_
  rintro e w' ⟨⟨r, rfl, hr⟩, hb⟩
  have HR := Lib.hid hr; clear hr
  go_wp2
  go_ret
  exact RetB.mk hb HR.out

theorem containsFuncAcl_any (A : Option Addr) (n c g : Nat) (lb : Array Value) (eg : ∀ args w, (callFunc g args).run Tryz.prog w = .ok (.enter g args) w) (zs : List AclV) (p : AclV → Bool) (w : World) (hz : Sl w w.heap.size encAcl 3 A n zs) (hn : n ≤ 281474976710656)
    (hp : ∀ (W : World) (k : Nat), k < n → Below w.heap.size w W → Calls Tryz.prog g (#[.agg #[.int .i32 zs[k]!.1, .string zs[k]!.2.1, .string zs[k]!.2.2]] ++ lb) W (RetB W (p zs[k]!))) :
    Calls Tryz.prog 156 #[.slice A n c, .func (.func g) #[] lb] w (RetB w (zs.any p)) := by
  have cI := indexFuncAcl_any A n c g lb eg zs p w hz hn hp
  clear hp
  generalize zs.any p = b at *
  go_enter Tryz.func156, Tryz.ntmps156
  go_wp2_with fail
  refine cI.mono ?_
  rintro e w' ⟨⟨r, rfl, hr⟩, hb⟩
  have HR := Lib.hid hr; clear hr
  go_wp2
  go_ret
  exact RetB.mk hb HR.out

set_option maxHeartbeats 1000000 in
theorem indexId_any (A : Option Addr) (n c : Nat) (zs : List IdV) (s t : ByteArray) (w : World) (hz : Sl w w.heap.size encId 2 A n zs) (hn : n ≤ 281474976710656) :
    Calls Tryz.prog 230 #[.slice A n c, .agg #[.string s, .string t]] w (IdxPost w (zs.any (fun y => decide (y = (s, t))))) := by
  have HZ := Lib.hid hz.1
  have hb0 : Below w.heap.size w (w.alloc (.cells #[.string s, .string t] 108)) := (Below.refl _ w).alloc (Nat.le_refl _) _
  go_enter Tryz.func230, Tryz.ntmps230
  go_wp2
  go_loopw [5, 8] (fun _ i wr => ∃ (k q : Nat), i = .int .i64 ↑k ∧ k ≤ n ∧ (∀ j, j < k → decide (zs[j]! = (s, t)) = false) ∧ wr = (w.alloc (.cells #[.string s, .string t] 108)).drewN q) (fun _ i _ => n - (RowKit.intOf i).toNat)
  case atStart => exact ⟨0, 0, rfl, by omega, fun j hj => absurd hj (by omega), rfl⟩
  case round =>
    obtain ⟨k, q, rfl, hk, hall, rfl⟩ := hrel
    have HA := Lib.hid hall; clear hall
    by_cases hlt : k < n
    · obtain ⟨b, off, rfl, hbl, x0, x1⟩ := SlId.at_ (hz.below hb0) hlt
      have HS := Lib.hid (any_split (fun y => decide (y = (s, t))) zs k (by rw [HZ.out]; exact hlt))
      have HN : Hid (decide (zs[k]! = (s, t)) = false → ∀ j, j < k + 1 → decide (zs[j]! = (s, t)) = false) := Lib.hid (fun h j hj => by rcases Nat.lt_succ_iff_lt_or_eq.1 hj with h2 | rfl; exact HA.out j h2; exact h)
      generalize hx : zs[k]! = x at *
      obtain ⟨s', t'⟩ := x
      clear hx
      have heq := fun w => (eqId w s t s' t').trans (by rw [show decide ((s, t) = (s', t')) = decide ((s', t') = (s, t)) from decide_eq_decide.2 eq_comm] : _ = Result.ok (.bool (decide ((s', t') = (s, t)))) w)
      cases hq : decide ((s', t') = (s, t))
      · have HQ := Lib.hid hq
        rw [hq] at heq
        clear hq
        go_wp2
        go_quiet (fail)
        go_wp2
        go_roundw
        case rel => exact ⟨k + 1, q + nq, by go_num, by omega, HN.out HQ.out, by first | rfl | rw [World.drewN_drewN]⟩
        case measure => simp [RowKit.intOf]; omega
      · have HQ := Lib.hid hq
        rw [hq] at heq
        clear hq
        go_wp2
        go_quiet (fail)
        go_wp2
        go_ret
        exact IdxPost.mk (by rw [HS.out HQ.out]; exact decide_eq_true (by omega)) (drewN_below (drewN_below hb0 q) nq)
    · go_wp2
      go_ret
      exact IdxPost.mk (by rw [any_none _ zs (fun j hj => HA.out j (by have := HZ.out; omega))]; rfl) (drewN_below hb0 q)

theorem containsId_any (A : Option Addr) (n c : Nat) (zs : List IdV) (s t : ByteArray) (w : World) (hz : Sl w w.heap.size encId 2 A n zs) (hn : n ≤ 281474976710656) :
    Calls Tryz.prog 202 #[.slice A n c, .agg #[.string s, .string t]] w (RetB w (zs.any (fun y => decide (y = (s, t))))) := by
  have hb0 : Below w.heap.size w (w.alloc (.cells #[.string s, .string t] 108)) := (Below.refl _ w).alloc (Nat.le_refl _) _
  have cI := indexId_any A n c zs s t (w.alloc (.cells #[.string s, .string t] 108)) (hz.belowMore hb0 hb0.size) hn
  generalize zs.any (fun y => decide (y = (s, t))) = b at *
  go_enter Tryz.func202, Tryz.ntmps202
  go_wp2_with fail
  refine cI.mono ?_
  rintro e w' ⟨⟨r, rfl, hr⟩, hb⟩
  have HR := Lib.hid hr; clear hr
  go_wp2
  go_ret
  exact RetB.mk (hb0.trans (hb.mono hb0.size)) HR.out
end Go.Proofs.YthpjneobmmpbnaaGreatDoor
