/- The walks of the document's Ids and Right at sessions. Condition: texts shorter than 2^20. The document's table in memory: a list of sessions of its own; the walks of at, Get, Close. Condition: fewer than 2^20 sessions. The walks of the document's table: Close, Open. Condition: fewer than 2^20 sessions. The walk of the document's table's Open. Condition: fewer than 2^20 sessions. The walk of the document's table's Equal. Condition: fewer than 2^48 sessions. -/
import Derived.Test.YtfnigjeklcagnaaGreatDoorSesR
import Derived.Test.YtfnigjeklcagnaaGreatDoorRefA6
import Derived.Test.YtfnigjeklcagnaaGreatDoorTabL
import Derived.Test.YtfnigjeklcagnaaGreatDoorNils
import Derived.Test.YtfnigjeklcagnaaGreatDoorOpenS2
import Derived.Test.YtfnigjeklcagnaaGreatDoorTabA
namespace Go.Proofs.YtfnigjeklcagnaaGreatDoor
open Go.RowKit
def RiR (l : List IdV) (n : Nat) (w : World) (i : Value) (wr : World) : Prop := ∃ k : Nat, i = .int .i64 ↑k ∧ k ≤ n ∧ (∀ j, j < k → identP l[j]! = true ∧ (l.take j).any (fun y => decide (y = l[j]!)) = false) ∧ Below w.heap.size w wr
def RjR (l : List IdV) (k : Nat) (w1 : World) (i : Value) (wr : World) : Prop := ∃ (j q : Nat), i = .int .i64 ↑j ∧ j ≤ k ∧ (∀ a, a < j → l[a]! ≠ l[k]!) ∧ wr = w1.drewN q
set_option maxRecDepth 100000 in
set_option maxHeartbeats 2000000 in
theorem refIds_any (A : Option Addr) (n c : Nat) (l : List IdV) (w : World) (hz : Sl w w.heap.size encId 2 A n l) (hn : n ≤ 1048576) (hs : SmallI l n 1048576) : Calls Tryz.prog 64 #[.slice A n c] w (RtPost l w) := by
  have HZ := Lib.hid hz; have HS := Lib.hid hs; have HL := Lib.hid hz.len
  clear hz hs
  go_enter Tryz.func64, Tryz.ntmps64
  go_wp2_with fail
  go_loopw [3] (fun i wr => RiR l n w i wr) (fun i _ => n - (RowKit.intOf i).toNat)
  case atStart => exact ⟨0, rfl, Nat.zero_le _, fun j hj => absurd hj (by omega), Below.refl _ _⟩
  case round =>
    obtain ⟨k, rfl, hk, hall, hb⟩ := hrel
    have HA := Lib.hid hall; have HB := Lib.hid hb
    clear hall hb
    by_cases hkn : k < n
    · have hkn2 : ((k : Nat) : Int) < (n : Int) := by omega
      obtain ⟨b, off, hA, hbl, x0, x1⟩ := SlId.at_ (HZ.out.below HB.out) hkn
      have HSM := Lib.hid (HS.out k hkn)
      have HI := Lib.hid (show identP l[k]! = true → (l.take k).any (fun y => decide (y = l[k]!)) = false → ∀ j, j < k + 1 → identP l[j]! = true ∧ (l.take j).any (fun y => decide (y = l[j]!)) = false from fun h1 h2 j hj => by rcases Nat.lt_succ_iff_lt_or_eq.1 hj with h | rfl; exact HA.out j h; exact ⟨h1, h2⟩)
      have HJ := Lib.hid (show idsOk l → identP l[k]! = true ∧ (l.take k).any (fun y => decide (y = l[k]!)) = false from fun h => h k (by rw [HL.out]; exact hkn))
      subst hA
      obtain ⟨zk, hzk⟩ : ∃ z, l[k]! = z := ⟨_, rfl⟩
      have HZK := Lib.hid hzk
      rw [hzk] at x0 x1
      clear hzk
      obtain ⟨s, t⟩ := zk
      have HSM2 := Lib.hid (show s.size ≤ 1048576 ∧ t.size ≤ 1048576 by have := HSM.out; rw [HZK.out] at this; exact this)
      have cI := refIdent_any s t (Nat.le_trans HSM2.out.2 (by decide)) wr
      cases hid : identP (s, t) with
      | false =>
        have HF := Lib.hid (show ¬ idsOk l from fun h => by have := (HJ.out h).1; rw [HZK.out, hid] at this; cases this)
        rw [hid] at cI
        clear hid
        go_wp2_with fail
        refine cI.mono ?_
        rintro e w5 ⟨rfl, hb5⟩
        have HB5 := Lib.hid (HB.out.trans (hb5.mono HB.out.size))
        clear hb5
        go_wp2_with fail
        go_ret
        exact ⟨⟨false, rfl, by simp [HF.out]⟩, HB5.out⟩
      | true =>
        have HID := Lib.hid hid
        rw [hid] at cI
        clear hid
        go_wp2_with fail
        refine cI.mono ?_
        rintro e w5 ⟨rfl, hb5⟩
        have HB5 := Lib.hid (HB.out.trans (hb5.mono HB.out.size))
        clear hb5 x0 x1 cI
        go_wp2_with fail
        go_loopw [4] (fun i wr => RjR l k w5 i wr) (fun i _ => k - (RowKit.intOf i).toNat)
        case atStart => exact ⟨0, 0, rfl, Nat.zero_le _, fun a ha => absurd ha (by omega), rfl⟩
        case round =>
          obtain ⟨j, q, rfl, hj, hne, rfl⟩ := hrel
          have HNE := Lib.hid hne
          clear hne
          by_cases hjk : j < k
          · have hjk2 : ((j : Nat) : Int) < (k : Int) := by omega
            have hjn : ((j : Nat) : Int) < (n : Int) := by omega
            obtain ⟨b2, off2, hA2, _, p0, p1⟩ := SlId.at_ (HZ.out.below HB5.out) (show j < n by omega)
            obtain ⟨b3, off3, hA3, _, r0, r1⟩ := SlId.at_ (HZ.out.below HB5.out) hkn
            injection hA2 with hA2
            injection hA2 with hA4 hA5
            subst hA4 hA5
            injection hA3 with hA3
            injection hA3 with hA4 hA5
            subst hA4 hA5
            rw [HZK.out] at r0 r1
            obtain ⟨zj, hzj⟩ : ∃ z, l[j]! = z := ⟨_, rfl⟩
            have HZJ := Lib.hid hzj
            rw [hzj] at p0 p1
            clear hzj
            obtain ⟨s', t'⟩ := zj
            cases hd : decide ((s', t') = (s, t)) with
            | true =>
              have HF := Lib.hid (show ¬ idsOk l from fun h => by
                have h2 := (HJ.out h).2
                rw [List.any_eq_false] at h2
                have hll := HL.out
                refine h2 l[j]! ?_ (by rw [HZJ.out, HZK.out]; exact hd)
                rw [getElem!_pos l j (by omega)]
                exact List.mem_take_iff_getElem.2 ⟨j, by omega, rfl⟩)
              have hq := fun w : World => (eqId w s' t' s t).trans (by rw [hd] : _ = Result.ok (.bool true) w)
              clear hd
              go_wp2_with fail
              go_quiet (fail)
              go_wp2_with fail
              go_ret
              exact ⟨⟨false, rfl, by simp [HF.out]⟩, drewN_below (drewN_below HB5.out q) nq⟩
            | false =>
              have HN2 := Lib.hid (show ∀ a, a < j + 1 → l[a]! ≠ l[k]! from fun a ha => by
                rcases Nat.lt_succ_iff_lt_or_eq.1 ha with h | rfl
                · exact HNE.out a h
                · rw [HZJ.out, HZK.out]; exact of_decide_eq_false hd)
              have hq := fun w : World => (eqId w s' t' s t).trans (by rw [hd] : _ = Result.ok (.bool false) w)
              clear hd
              go_wp2_with fail
              go_quiet (fail)
              go_wp2_with fail
              go_roundw
              case rel => exact ⟨j + 1, q + nq, by go_num, by omega, HN2.out, by first | rfl | rw [World.drewN_drewN]⟩
              case measure => simp [RowKit.intOf]; omega
          · have hjk2 : ¬ ((j : Nat) : Int) < (k : Int) := by omega
            have HANY := Lib.hid (show (l.take k).any (fun y => decide (y = l[k]!)) = false by
              rw [List.any_eq_false]
              intro y hy
              obtain ⟨a, ha, e⟩ := List.mem_take_iff_getElem.1 hy
              have h2 := HNE.out a (by omega)
              rw [getElem!_pos l a (by omega), e] at h2
              simpa using h2)
            have HI2 := Lib.hid (HI.out (by rw [HZK.out]; exact HID.out) HANY.out)
            go_wp2_with fail
            go_roundw
            case rel => exact ⟨k + 1, by go_num, by omega, HI2.out, drewN_below HB5.out q⟩
            case measure => simp [RowKit.intOf]; omega
    · have hkn2 : ¬ ((k : Nat) : Int) < (n : Int) := by omega
      have HT := Lib.hid (show idsOk l from fun j hj => HA.out j (by rw [HL.out] at hj; omega))
      go_wp2_with fail
      go_ret
      exact ⟨⟨true, rfl, by simp [HT.out]⟩, HB.out⟩
open Classical in
set_option maxRecDepth 100000 in
set_option maxHeartbeats 2000000 in
theorem refRightS_any (i tm : Int) (A : Option Addr) (n c : Nat) (l : List IdV) (w : World) (h : SesOk w (i, tm, A, n, c) l 1048576) : Calls Tryz.prog 53 #[.agg #[.int .i64 i, .int .i32 tm, .slice A n c]] w (RetB w (decide (rightS (i, tm, l)))) := by
  obtain ⟨_, h2, h3, h4, h5, h6⟩ := h
  have hl : l.length = n := h3.len
  have hb0 : Below w.heap.size w (w.alloc (.cells #[.int .i64 i, .int .i32 tm, .slice A n c] 56)) := (Below.refl _ w).alloc (Nat.le_refl _) _
  obtain ⟨bb, HBB⟩ : ∃ bb, Hid (decide (rightS (i, tm, l)) = bb) := ⟨_, Lib.hid rfl⟩
  rw [HBB.out]
  have HB := Lib.hid hb0
  by_cases hr : 0 < i ∧ 4 ≤ tm ∧ tm ≤ 1048576 ∧ n ≤ 16
  · obtain ⟨r1, r2, r3, r4⟩ := hr
    have r5 : (n : Int) ≤ 16 := by omega
    have cI := refIds_any A n c l _ (h3.belowMore hb0 hb0.size) h5 h6
    have HRI := Lib.hid (show rightS (i, tm, l) ↔ idsOk l by
      show (0 < i ∧ 4 ≤ tm ∧ tm ≤ 1048576 ∧ l.length ≤ 16 ∧ idsOk l) ↔ idsOk l
      rw [hl]
      exact ⟨fun h => h.2.2.2.2, fun h => ⟨r1, r2, r3, r4, h⟩⟩)
    clear hb0 h3 h4 h6
    go_enter Tryz.func53, Tryz.ntmps53
    go_wp2_with fail
    refine cI.mono ?_
    rintro e w5 ⟨⟨b, rfl, hb⟩, hb5⟩
    have HB5 := Lib.hid (HB.out.trans (hb5.mono HB.out.size))
    have HE := Lib.hid (show b = bb by rw [← HBB.out, Bool.eq_iff_iff, decide_eq_true_iff, HRI.out]; exact hb)
    clear hb hb5
    cases b
    all_goals (
      go_wp2_with fail
      go_ret
      exact RetB.mk HB5.out HE.out)
  · have HE := Lib.hid (show false = bb by
      rw [← HBB.out, eq_comm, decide_eq_false_iff_not]
      rintro ⟨a1, a2, a3, a4, _⟩
      exact hr ⟨a1, a2, a3, by rw [← hl]; exact a4⟩)
    have hc : ¬ 0 < i ∨ (0 < i ∧ ¬ 4 ≤ tm) ∨ (0 < i ∧ 4 ≤ tm ∧ ¬ tm ≤ 1048576) ∨ (0 < i ∧ 4 ≤ tm ∧ tm ≤ 1048576 ∧ ¬ (n : Int) ≤ 16) := by
      by_cases a1 : 0 < i
      · by_cases a2 : 4 ≤ tm
        · by_cases a3 : tm ≤ 1048576
          · exact .inr (.inr (.inr ⟨a1, a2, a3, fun a4 => hr ⟨a1, a2, a3, by omega⟩⟩))
          · exact .inr (.inr (.inl ⟨a1, a2, a3⟩))
        · exact .inr (.inl ⟨a1, a2⟩)
      · exact .inl a1
    clear hr hb0 h3 h4 h6 hl
    rcases hc with a1 | ⟨a1, a2⟩ | ⟨a1, a2, a3⟩ | ⟨a1, a2, a3, a4⟩
    all_goals (
      go_enter Tryz.func53, Tryz.ntmps53
      go_wp2_with fail
      go_ret
      exact RetB.mk HB.out HE.out)
end Go.Proofs.YtfnigjeklcagnaaGreatDoor
namespace Go.Proofs.YtfnigjeklcagnaaGreatDoor
open Go.RowKit Go.MapKept Go.Maps
/-- the slice holds these sessions, in a block of ro that is not rb -/
def KnT (w : World) (rb : Nat) (ro : List Nat) (A : Option Addr) (n c : Nat) (Z : List EntV) : Prop := Z.length = n ∧ ((A = none ∧ n = 0 ∧ c = 0) ∨ ∃ b off, A = some ⟨b, off, none⟩ ∧ b ∈ ro ∧ b ≠ rb ∧ n ≤ c ∧ ∀ j, j < n → w.cell? ⟨b, off + j * 3, none⟩ = some (.int .i64 Z[j]!.1.1) ∧ w.cell? ⟨b, off + j * 3 + 1, none⟩ = some (.int .i32 Z[j]!.1.2.1) ∧ w.cell? ⟨b, off + j * 3 + 2, none⟩ = some (.slice Z[j]!.1.2.2.1 Z[j]!.1.2.2.2.1 Z[j]!.1.2.2.2.2))
section
variable {w w' : World} {rb : Nat} {ro ro' : List Nat} {A : Option Addr} {n c : Nat} {Z : List EntV}
theorem KnT.keep (h : KnT w rb ro A n c Z) (hk : ∀ p : Addr, p.block ∈ ro → p.block ≠ rb → p.block < w.heap.size → w'.cell? p = w.cell? p) : KnT w' rb ro A n c Z :=
  ⟨h.1, h.2.imp (fun x => x) fun ⟨b, off, e, h1, h2, h3, h4⟩ => ⟨b, off, e, h1, h2, h3, fun j hj => by
    obtain ⟨y0, y1, y2⟩ := h4 j hj
    exact ⟨(hk _ h1 h2 (World.block_lt_of_cell? w _ y0)).trans y0, (hk _ h1 h2 (World.block_lt_of_cell? w _ y1)).trans y1, (hk _ h1 h2 (World.block_lt_of_cell? w _ y2)).trans y2⟩⟩⟩
theorem KnT.more (h : KnT w rb ro A n c Z) (hr : ∀ g ∈ ro, g ∈ ro') : KnT w rb ro' A n c Z :=
  ⟨h.1, h.2.imp (fun x => x) fun ⟨b, off, e, h1, r⟩ => ⟨b, off, e, hr _ h1, r⟩⟩
theorem KnT.sl (h : KnT w rb ro A n c Z) (hr : ∀ g ∈ ro, g < w.heap.size) : Sl w w.heap.size encS 3 A n (Z.map (·.1)) :=
  ⟨by rw [List.length_map]; exact h.1, fun hn => by
    rcases h.2 with ⟨_, e, _⟩ | ⟨b, off, e, h1, h2, h3, h4⟩
    · omega
    · refine ⟨b, off, e, hr _ h1, fun j hj i u hu => ?_⟩
      have hl := h.1
      rw [show (Z.map (·.1))[j]! = Z[j]!.1 by rw [getElem!_pos _ j (by rw [List.length_map]; omega), getElem!_pos Z j (by omega), List.getElem_map]] at hu
      obtain ⟨y0, y1, y2⟩ := h4 j hj
      match i, hu with
      | 0, hu => exact (y0.trans hu : _)
      | 1, hu => exact (y1.trans hu : _)
      | 2, hu => exact (y2.trans hu : _)⟩
theorem KnT.nil_cap (h : KnT w rb ro none n c Z) : n = 0 ∧ c = 0 := by
  rcases h.2 with ⟨_, e, e2⟩ | ⟨_, _, e, _⟩
  · exact ⟨e, e2⟩
  · cases e
theorem KnT.cap (h : KnT w rb ro A n c Z) : n ≤ c := by
  rcases h.2 with ⟨_, e, _⟩ | ⟨_, _, _, _, _, h, _⟩
  · omega
  · exact h
theorem KnT.at_ (h : KnT w rb ro A n c Z) {k : Nat} (hk : k < n) : ∃ b off, A = some ⟨b, off, none⟩ ∧ n ≤ c ∧ w.cell? ⟨b, off + k * 3, none⟩ = some (.int .i64 Z[k]!.1.1) ∧ w.cell? ⟨b, off + k * 3 + 1, none⟩ = some (.int .i32 Z[k]!.1.2.1) ∧ w.cell? ⟨b, off + k * 3 + 2, none⟩ = some (.slice Z[k]!.1.2.2.1 Z[k]!.1.2.2.2.1 Z[k]!.1.2.2.2.2) := by
  rcases h.2 with ⟨_, e, _⟩ | ⟨b, off, e, _, _, h3, h⟩
  · omega
  · exact ⟨b, off, e, h3, (h k hk).1, (h k hk).2.1, (h k hk).2.2⟩
theorem KnT.upto (h : KnT w rb ro A n c Z) {k : Nat} (hk : k ≤ n) : KnT w rb ro A k c (Z.take k) :=
  ⟨by rw [List.length_take, h.1]; omega, by
    rcases h.2 with ⟨e, e1, e2⟩ | ⟨b, off, e, h1, h2, h3, h4⟩
    · exact .inl ⟨e, by omega, e2⟩
    · refine .inr ⟨b, off, e, h1, h2, by omega, fun j hj => ?_⟩
      have := h4 j (by omega)
      have e2 : (Z.take k)[j]! = Z[j]! := by
        have := h.1
        rw [getElem!_pos _ j (by rw [List.length_take]; omega), getElem!_pos Z j (by omega), List.getElem_take]
      rw [e2]; exact this⟩
theorem KnT.from (h : KnT w rb ro A n c Z) {k : Nat} (hk : k ≤ n) : KnT w rb ro (if c = k then A else A.map (·.add (k * 3))) (n - k) (c - k) (Z.drop k) :=
  ⟨by rw [List.length_drop, h.1], by
    rcases h.2 with ⟨e, e1, e2⟩ | ⟨b, off, e, h1, h2, h3, h4⟩
    · exact .inl ⟨by subst e; split <;> rfl, by omega, by omega⟩
    · right
      by_cases hck : c = k
      · rw [if_pos hck]
        exact ⟨b, off, e, h1, h2, by omega, fun j hj => absurd hj (by omega)⟩
      · rw [if_neg hck]
        refine ⟨b, off + k * 3, by subst e; simp [Addr.add_lit], h1, h2, by omega, fun j hj => ?_⟩
        have := h4 (k + j) (by omega)
        have e2 : (Z.drop k)[j]! = Z[k + j]! := by
          have := h.1
          rw [getElem!_pos _ j (by rw [List.length_drop]; omega), getElem!_pos Z (k + j) (by omega), List.getElem_drop]
        rw [e2]
        have e3 : off + k * 3 + j * 3 = off + (k + j) * 3 := by omega
        rw [e3]; exact this⟩
end
theorem slice_fromS (A : Option Addr) (n c k : Nat) (hk : k ≤ n) (w : World) : (Instr.sliceAt 50 (.slice A n c) (some (.int .i64 ↑k)) none none).run Tryz.prog w = .ok (.slice (if c = k then A else A.map (·.add (k * 3))) (n - k) (c - k)) w := by
  have h0 : (0 : Int) ≤ ↑k := by omega
  have h1 : ((k : Nat) : Int) ≤ ↑n := by omega
  go_simp
structure RtAt (w : World) (rb : Nat) (ro : List Nat) (A : Option Addr) (c : Nat) (Z : List EntV) : Prop where
  rb_ : rb ∈ ro
  lt : ∀ g ∈ ro, g < w.heap.size
  cell : w.heap[rb]? = some (.cells #[.slice A Z.length c] 68 (0, 0))
  row : KnT w rb ro A Z.length c Z
  ent : ∀ z ∈ Z, EntOk w ro rb rb z
/-- the document's table: these sessions, rising by id -/
def RefTab (w : World) (R : List SesP) (rb : Nat) (ro : List Nat) : Prop := ∃ A c Z, RtAt w rb ro A c Z ∧ Z.map toP = R
theorem RtAt.fr {w w' : World} {rb c : Nat} {ro own : List Nat} {A : Option Addr} {Z : List EntV} (h : RtAt w rb ro A c Z) (hf : Fr own w w') (ha : ∀ g ∈ ro, g ∉ own) : RtAt w' rb ro A c Z where
  rb_ := h.rb_
  lt := fun g hg => Nat.lt_of_lt_of_le (h.lt g hg) hf.size
  cell := (hf.block rb (h.lt rb h.rb_) (ha rb h.rb_)).trans h.cell
  row := h.row.keep fun _ hp _ hl => hf.cell hl (ha _ hp)
  ent := fun e he => (h.ent e he).keep (fun _ hg => hg) fun _ hp _ _ => hf.cell (h.lt _ hp) (ha _ hp)
theorem RefTab.fr {w w' : World} {R : List SesP} {rb : Nat} {ro own : List Nat} (h : RefTab w R rb ro) (hf : Fr own w w') (ha : ∀ g ∈ ro, g ∉ own) : RefTab w' R rb ro := by
  obtain ⟨A, c, Z, h, e⟩ := h
  exact ⟨A, c, Z, h.fr hf ha, e⟩
theorem RefTab.below {w w' : World} {R : List SesP} {rb : Nat} {ro : List Nat} (h : RefTab w R rb ro) (hb : Below w.heap.size w w') : RefTab w' R rb ro := h.fr (Fr.of_below (own := []) hb) (by simp)
theorem RefTab.lt {w : World} {R : List SesP} {rb : Nat} {ro : List Nat} (h : RefTab w R rb ro) : ∀ g ∈ ro, g < w.heap.size := by
  obtain ⟨A, c, Z, h, _⟩ := h
  exact h.lt
theorem RefTab.rb_ {w : World} {R : List SesP} {rb : Nat} {ro : List Nat} (h : RefTab w R rb ro) : rb ∈ ro := by
  obtain ⟨A, c, Z, h, _⟩ := h
  exact h.rb_
def RtPostT (v : Value) (R : List SesP) (rb : Nat) (ro : List Nat) (w : World) (e : Ending) (w' : World) : Prop := e = .returned v ∧ (∃ ro', RefTab w' R rb ro' ∧ ∀ g ∈ ro', g ∈ ro ∨ w.heap.size ≤ g) ∧ Fr [rb] w w'
/-- where a session stands, or would stand -/
def AtT (R : List SesP) (i : Int) (k : Nat) : Prop := k ≤ R.length ∧ (∀ j, j < k → (R[j]!).1 < i) ∧ (k = R.length ∨ (k < R.length ∧ i ≤ (R[k]!).1))
def AtB (R : List SesP) (i : Int) (k : Nat) (b : Bool) : Prop := b = true ↔ k < R.length ∧ (R[k]!).1 = i
def AtPost (R : List SesP) (i : Int) (w : World) (e : Ending) (w' : World) : Prop := ∃ (k : Nat) (b : Bool), e = .returned (.tuple #[.int .i64 ↑k, .bool b]) ∧ AtT R i k ∧ AtB R i k b ∧ ∃ q, w' = w.drewN q
theorem toP_at {Z : List EntV} {k : Nat} (h : k < Z.length) : (Z.map toP)[k]! = toP Z[k]! := by
  rw [getElem!_pos _ k (by rw [List.length_map]; exact h), getElem!_pos Z k h, List.getElem_map]
set_option maxRecDepth 100000 in
set_option maxHeartbeats 2000000 in
theorem refAt_any (R : List SesP) (rb : Nat) (ro : List Nat) (i : Int) (w : World) (h : RefTab w R rb ro) (hR : R.length ≤ 1048576) :
    Calls Tryz.prog 54 #[.pointer (some ⟨rb, 0, none⟩), .int .i64 i] w (AtPost R i w) := by
  obtain ⟨A, c, Z, h, rfl⟩ := h
  rw [List.length_map] at hR
  have k0 : w.cell? ⟨rb, 0, none⟩ = some (.slice A Z.length c) := by rw [cellH h.cell]; rfl
  have HK := Lib.hid h.row
  have HR := Lib.hid hR
  clear h hR
  go_enter Tryz.func54, Tryz.ntmps54
  go_wp2_with fail
  go_loopw [6] (fun j wr => ∃ (k q : Nat), j = .int .i64 ↑k ∧ k ≤ Z.length ∧ (∀ a, a < k → Z[a]!.1.1 < i) ∧ wr = w.drewN q) (fun j _ => Z.length - (RowKit.intOf j).toNat)
  case atStart => exact ⟨0, 0, rfl, Nat.zero_le _, fun a ha => absurd ha (by omega), rfl⟩
  case round =>
    obtain ⟨k, q, rfl, hk, hall, rfl⟩ := hrel
    have HA := Lib.hid hall
    clear hall
    have hL := HR.out
    by_cases hlt : k < Z.length
    · obtain ⟨b, off, hA, hcap, x0, _, _⟩ := HK.out.at_ hlt
      have HK2 := Lib.hid HK
      subst hA
      clear HK
      have hk2 : ((k : Nat) : Int) < (Z.length : Int) := by omega
      by_cases h1 : Z[k]!.1.1 < i
      · have HA1 := Lib.hid (show ∀ a, a < k + 1 → Z[a]!.1.1 < i from fun a ha => by rcases Nat.lt_succ_iff_lt_or_eq.1 ha with h | rfl; exact HA.out a h; exact h1)
        generalize Z[k]!.1.1 = x at *
        go_wp2_with fail
        go_roundw
        case rel => exact ⟨k + 1, q, by go_num, by omega, HA1.out, by first | rfl | trivial⟩
        case measure => simp [RowKit.intOf]; omega
      · have HAT := Lib.hid (show AtT (Z.map toP) i k from ⟨by rw [List.length_map]; omega, fun a ha => by rw [toP_at (by omega)]; exact HA.out a ha, .inr ⟨by rw [List.length_map]; exact hlt, by rw [toP_at hlt]; show i ≤ Z[k]!.1.1; omega⟩⟩)
        by_cases h2 : Z[k]!.1.1 = i
        · have HB2 := Lib.hid (show AtB (Z.map toP) i k true from ⟨fun _ => ⟨by rw [List.length_map]; exact hlt, by rw [toP_at hlt]; exact h2⟩, fun _ => rfl⟩)
          have hb2 : (Z[k]!.1.1 == i) = true := beq_iff_eq.2 h2
          clear h2
          generalize Z[k]!.1.1 = x at *
          have hdk : decide (((k : Nat) : Int) < (Z.length : Int)) = true := decide_eq_true hk2
          go_wp2_with fail
          go_quiet (fail)
          go_wp2_with fail
          go_ret2
          exact ⟨k, _, rfl, HAT.out, HB2.out, _, by first | rfl | exact World.drewN_drewN ..⟩
        · have HB2 := Lib.hid (show AtB (Z.map toP) i k false from ⟨fun h => (by cases h), fun h => by
            rw [toP_at hlt] at h; exact absurd h.2 h2⟩)
          have hb2 : (Z[k]!.1.1 == i) = false := beq_eq_false_iff_ne.2 h2
          clear h2
          generalize Z[k]!.1.1 = x at *
          have hdk : decide (((k : Nat) : Int) < (Z.length : Int)) = true := decide_eq_true hk2
          go_wp2_with fail
          go_quiet (fail)
          go_wp2_with fail
          go_ret2
          exact ⟨k, _, rfl, HAT.out, HB2.out, _, by first | rfl | exact World.drewN_drewN ..⟩
    · have HAT := Lib.hid (show AtT (Z.map toP) i k from ⟨by rw [List.length_map]; exact hk, fun a ha => by rw [toP_at (by omega)]; exact HA.out a ha, .inl (by rw [List.length_map]; omega)⟩)
      have HB2 := Lib.hid (show AtB (Z.map toP) i k false from ⟨fun h => (by cases h), fun h => by
        have := h.1; rw [List.length_map] at this; exact absurd this hlt⟩)
      have hk2 : ¬ ((k : Nat) : Int) < (Z.length : Int) := by omega
      have hdk : decide (((k : Nat) : Int) < (Z.length : Int)) = false := decide_eq_false hk2
      go_wp2_with fail
      go_quiet (fail)
      go_wp2_with fail
      go_ret2
      exact ⟨k, _, rfl, HAT.out, HB2.out, _, by first | rfl | exact World.drewN_drewN ..⟩
def RGetPost (R : List SesP) (i : Int) (w : World) (e : Ending) (w' : World) : Prop := ∃ (z : EntV) (b : Bool), e = .returned (.tuple #[.agg #[.int .i64 z.1.1, .int .i32 z.1.2.1, .slice z.1.2.2.1 z.1.2.2.2.1 z.1.2.2.2.2], .bool b]) ∧ SesOk w' z.1 z.2 1048576 ∧ ((b = true ∧ toP z ∈ R ∧ z.1.1 = i) ∨ (b = false ∧ (∃ k, AtT R i k ∧ AtB R i k false) ∧ toP z = (0, 0, []))) ∧ Below w.heap.size w w'
set_option maxRecDepth 100000 in
set_option maxHeartbeats 2000000 in
theorem refGet_any (R : List SesP) (rb : Nat) (ro : List Nat) (i : Int) (w : World) (h : RefTab w R rb ro) (hR : R.length ≤ 1048576) :
    Calls Tryz.prog 36 #[.pointer (some ⟨rb, 0, none⟩), .int .i64 i] w (RGetPost R i w) := by
  have hb0 : Below w.heap.size w (w.alloc (.cells #[.int .i64 0, .int .i32 0, .slice none 0 0] 56)) := (Below.refl _ w).alloc (Nat.le_refl _) _
  have HR := Lib.hid hR
  have hlt := h.lt rb h.rb_
  have cA := refAt_any R rb ro i _ (h.below hb0) hR
  have H0 := Lib.hid h
  have g0 : (w.alloc (.cells #[.int .i64 0, .int .i32 0, .slice none 0 0] 56)).heap[w.heap.size]? = some (.cells #[.int .i64 0, .int .i32 0, .slice none 0 0] 56 (0, 0)) := heap_alloc_new w _
  have HB0 := Lib.hid hb0
  clear hR hb0
  go_enter Tryz.func36, Tryz.ntmps36
  go_wp2_with fail
  refine cA.mono ?_
  rintro e w' ⟨k, b, rfl, hat, hab, q, rfl⟩
  have hWB : Below w.heap.size w ((w.alloc (.cells #[.int .i64 0, .int .i32 0, .slice none 0 0] 56)).drewN q) := drewN_below HB0.out q
  have g0 : ((w.alloc (.cells #[.int .i64 0, .int .i32 0, .slice none 0 0] 56)).drewN q).heap[w.heap.size]? = some (.cells #[.int .i64 0, .int .i32 0, .slice none 0 0] 56 (0, 0)) := g0
  have hT := h.below hWB
  generalize (w.alloc (.cells #[.int .i64 0, .int .i32 0, .slice none 0 0] 56)).drewN q = W at *
  have HB := Lib.hid hWB; have G := Lib.hid g0; have HAT := Lib.hid hat; have HAB := Lib.hid hab
  have e0 : W.frozen? ⟨w.heap.size, 0, none⟩ = false := by simp [World.frozen?, g0]
  have e1 : W.frozen? ⟨w.heap.size, 1, none⟩ = false := by simp [World.frozen?, g0]
  have e2 : W.frozen? ⟨w.heap.size, 2, none⟩ = false := by simp [World.frozen?, g0]
  have x0 : W.cell? ⟨w.heap.size, 0, none⟩ = some (.int .i64 0) := by rw [cellH g0]; rfl
  have x1 : W.cell? ⟨w.heap.size, 1, none⟩ = some (.int .i32 0) := by rw [cellH g0]; rfl
  have x2 : W.cell? ⟨w.heap.size, 2, none⟩ = some (.slice none 0 0) := by rw [cellH g0]; rfl
  clear cA hWB g0 hat h HB0
  cases b with
  | true =>
    obtain ⟨hkl, hki⟩ := HAB.out.1 rfl
    obtain ⟨A, c, Z, hZ, rfl⟩ := hT
    rw [List.length_map] at hkl
    rw [toP_at hkl] at hki
    have k0 : W.cell? ⟨rb, 0, none⟩ = some (.slice A Z.length c) := by rw [cellH hZ.cell]; rfl
    obtain ⟨b1, off1, hA1, hcap, p0, p1, p2⟩ := hZ.row.at_ hkl
    have hmem : Z[k]! ∈ Z := by rw [getElem!_pos Z k hkl]; exact List.getElem_mem _
    have hok := hZ.ent _ hmem
    have HZLT := Lib.hid hZ.lt
    have HIN := Lib.hid (show toP Z[k]! ∈ Z.map toP from List.mem_map.2 ⟨_, hmem, rfl⟩)
    have HKI := Lib.hid hki
    have hk2 : ((k : Nat) : Int) < (Z.length : Int) := by omega
    subst hA1
    clear hmem hki hab
    generalize Z[k]! = z at *
    obtain ⟨⟨i9, t9, A9, n9, c9⟩, l9⟩ := z
    dsimp only at p0 p1 p2
    have HOK := Lib.hid hok
    clear hok
    go_wp2_with fail
    have hF : Fr [w.heap.size] W (((W.setCell ⟨w.heap.size, 0, none⟩ (.int .i64 i9)).setCell ⟨w.heap.size, 1, none⟩ (.int .i32 t9)).setCell ⟨w.heap.size, 2, none⟩ (.slice A9 n9 c9)) := (((Fr.refl _ W).set (by simp) 0 _).set (by simp) 1 _).set (by simp) 2 _
    have hC : (((W.setCell ⟨w.heap.size, 0, none⟩ (.int .i64 i9)).setCell ⟨w.heap.size, 1, none⟩ (.int .i32 t9)).setCell ⟨w.heap.size, 2, none⟩ (.slice A9 n9 c9)).heap[w.heap.size]? = some (.cells #[.int .i64 i9, .int .i32 t9, .slice A9 n9 c9] 56 (0, 0)) := heap_setN (heap_setN (heap_setN G.out _) _) _
    generalize (((W.setCell ⟨w.heap.size, 0, none⟩ (.int .i64 i9)).setCell ⟨w.heap.size, 1, none⟩ (.int .i32 t9)).setCell ⟨w.heap.size, 2, none⟩ (.slice A9 n9 c9)) = V at *
    have q0 : V.cell? ⟨w.heap.size, 0, none⟩ = some (.int .i64 i9) := by rw [cellH hC]; rfl
    have q1 : V.cell? ⟨w.heap.size, 1, none⟩ = some (.int .i32 t9) := by rw [cellH hC]; rfl
    have q2 : V.cell? ⟨w.heap.size, 2, none⟩ = some (.slice A9 n9 c9) := by rw [cellH hC]; rfl
    have hB : Below w.heap.size w V := HB.out.trans (hF.below HB.out.size (fun g hg => by simp at hg; omega))
    (try simp only [Exit.inBlock, Exit.then])
    have hok : SesOk V (i9, t9, A9, n9, c9) l9 1048576 := (HOK.out.keep (w' := V) (fun _ hg => hg) (fun p hp _ _ => hF.cell (HZLT.out _ hp) (fun hm => by have := H0.out.lt _ hp; simp at hm; omega))).ses (fun g hg => Nat.lt_of_lt_of_le (HZLT.out g hg) hF.size)
    refine bodyPost_ret ((results_cell_tmp rfl _ _ _).trans ?_) rfl ⟨((i9, t9, A9, n9, c9), l9), true, rfl, hok, .inl ⟨rfl, HIN.out, HKI.out⟩, hB⟩
    go_simp
  | false =>
    go_wp2_with fail
    have hF : Fr [w.heap.size] W (((W.setCell ⟨w.heap.size, 0, none⟩ (.int .i64 0)).setCell ⟨w.heap.size, 1, none⟩ (.int .i32 0)).setCell ⟨w.heap.size, 2, none⟩ (.slice none 0 0)) := (((Fr.refl _ W).set (by simp) 0 _).set (by simp) 1 _).set (by simp) 2 _
    have hC : (((W.setCell ⟨w.heap.size, 0, none⟩ (.int .i64 0)).setCell ⟨w.heap.size, 1, none⟩ (.int .i32 0)).setCell ⟨w.heap.size, 2, none⟩ (.slice none 0 0)).heap[w.heap.size]? = some (.cells #[.int .i64 0, .int .i32 0, .slice none 0 0] 56 (0, 0)) := heap_setN (heap_setN (heap_setN G.out _) _) _
    generalize (((W.setCell ⟨w.heap.size, 0, none⟩ (.int .i64 0)).setCell ⟨w.heap.size, 1, none⟩ (.int .i32 0)).setCell ⟨w.heap.size, 2, none⟩ (.slice none 0 0)) = V at *
    have q0 : V.cell? ⟨w.heap.size, 0, none⟩ = some (.int .i64 0) := by rw [cellH hC]; rfl
    have q1 : V.cell? ⟨w.heap.size, 1, none⟩ = some (.int .i32 0) := by rw [cellH hC]; rfl
    have q2 : V.cell? ⟨w.heap.size, 2, none⟩ = some (.slice none 0 0) := by rw [cellH hC]; rfl
    have hB : Below w.heap.size w V := HB.out.trans (hF.below HB.out.size (fun g hg => by simp at hg; omega))
    (try simp only [Exit.inBlock, Exit.then])
    refine bodyPost_ret ((results_cell_tmp rfl _ _ _).trans ?_) rfl ⟨((0, 0, none, 0, 0), []), false, rfl, ⟨⟨by decide, by decide⟩, ⟨by decide, by decide⟩, Sl.nil_, ⟨fun _ => ⟨rfl, rfl⟩, Nat.le_refl _⟩, by decide, fun j hj => absurd hj (by simp)⟩, .inr ⟨rfl, ⟨k, HAT.out, HAB.out⟩, rfl⟩, hB⟩
    go_simp
theorem RtAt.set {w w2 : World} {rb n c c0 B : Nat} {ro : List Nat} {A A0 : Option Addr} {Z Z' : List EntV} (h : RtAt w rb ro A0 c0 Z) (hb : Below w.heap.size w w2) (hv : w2.ownsRow w.heap.size 56 3 (.slice A n c) n ((Z'.map (·.1)).flatMap encS)) (hl : Z'.length = n) (hB : B ≤ w.heap.size) (roi : List Nat) (hroi : ∀ g ∈ roi, g < w2.heap.size ∧ (g ∈ ro ∨ B ≤ g)) (hent : ∀ z ∈ Z', EntOk w2 roi rb rb z) :
    (∃ ro', RtAt (w2.setCell ⟨rb, 0, none⟩ (.slice A n c)) rb ro' A c Z' ∧ ∀ g ∈ ro', g ∈ ro ∨ B ≤ g) ∧ Fr [rb] w (w2.setCell ⟨rb, 0, none⟩ (.slice A n c)) := by
  have h5 := (hb.block rb (h.lt rb h.rb_)).trans h.cell
  have hF : Fr [rb] w2 (w2.setCell ⟨rb, 0, none⟩ (.slice A n c)) := fr_set w2 rb 0 _
  have hrbl : rb < w2.heap.size := Nat.lt_of_lt_of_le (h.lt rb h.rb_) hb.size
  refine ⟨?_, (Fr.of_below hb).trans hF (fun g hg => .inl hg)⟩
  have key : ∃ rr : List Nat, KnT w2 rb rr A n c Z' ∧ ∀ g ∈ rr, w.heap.size ≤ g ∧ g < w2.heap.size := by
    rcases hv.2 with ⟨e, e2⟩ | ⟨g, cap, cur, e, h1, h2, h3, _⟩
    · injection e with e e3 e4
      exact ⟨[], ⟨hl, .inl ⟨e, e2, e4⟩⟩, by simp⟩
    · injection e with e e3 e4
      subst e e4
      refine ⟨[g], ⟨hl, .inr ⟨g, 0, rfl, by simp, (by have := h.lt rb h.rb_; omega), h3, fun j hj => ?_⟩⟩, fun x hx => by
        rw [List.mem_singleton.1 hx]; exact ⟨h1, (Array.getElem?_eq_some_iff.1 h2).1⟩⟩
      have hs := (Sl.of_own (zs := Z'.map (·.1)) (k := 3) (enc := encS) (fun _ => rfl) hv (by rw [List.length_map]; exact hl)).cells hj
      obtain ⟨b, off, e, _, hc⟩ := hs
      injection e with e
      injection e with e5 e6
      subst e5 e6
      rw [show (Z'.map (·.1))[j]! = Z'[j]!.1 by rw [getElem!_pos _ j (by rw [List.length_map]; omega), getElem!_pos Z' j (by omega), List.getElem_map]] at hc
      exact ⟨hc 0 _ rfl, hc 1 _ rfl, hc 2 _ rfl⟩
  obtain ⟨rr, k1, k2⟩ := key
  have hcell : ∀ p : Addr, p.block ≠ rb → (w2.setCell ⟨rb, 0, none⟩ (.slice A n c)).cell? p = w2.cell? p := fun p hne => by
    have := heap_set_other w2 rb 0 (.slice A n c) hne
    obtain ⟨b, o, s⟩ := p
    simp only [World.cell?] at this ⊢
    rw [this]
  refine ⟨rb :: (rr ++ roi), ⟨by simp, fun g hg => ?_, ?_, ?_, fun z hz => ?_⟩, fun g hg => ?_⟩
  · refine Nat.lt_of_lt_of_le ?_ hF.size
    rcases List.mem_cons.1 hg with rfl | hg
    · exact hrbl
    · rcases List.mem_append.1 hg with hg | hg
      · exact (k2 g hg).2
      · exact (hroi g hg).1
  · rw [hl]
    have := heap_setN (o := 0) h5 (.slice A n c)
    exact this
  · rw [hl]
    exact (k1.more (ro' := rb :: (rr ++ roi)) (fun g hg => by simp [hg])).keep fun p _ hne _ => hcell p hne
  · exact (hent z hz).keep (fun g hg => by simp [hg]) fun p _ hne _ => hcell p hne
  · rcases List.mem_cons.1 hg with rfl | hg
    · exact .inl h.rb_
    · rcases List.mem_append.1 hg with hg | hg
      · exact .inr (Nat.le_trans hB (k2 g hg).1)
      · exact (hroi g hg).2
theorem RtAt.frozen {w : World} {rb c : Nat} {ro : List Nat} {A : Option Addr} {Z : List EntV} (h : RtAt w rb ro A c Z) : w.frozen? ⟨rb, 0, none⟩ = false := by simp [World.frozen?, h.cell]
end Go.Proofs.YtfnigjeklcagnaaGreatDoor
namespace Go.Proofs.YtfnigjeklcagnaaGreatDoor
open Go.RowKit Go.MapKept Go.Maps
def RClosePost (R : List SesP) (i : Int) (rb : Nat) (ro : List Nat) (w : World) (e : Ending) (w' : World) : Prop := ∃ (k : Nat) (b : Bool), AtT R i k ∧ AtB R i k b ∧ RtPostT (.int .i64 (if b then 0 else 80)) (if b then R.take k ++ R.drop (k + 1) else R) rb ro w e w'
set_option maxRecDepth 100000 in
set_option maxHeartbeats 2000000 in
theorem refClose_any (R : List SesP) (rb : Nat) (ro : List Nat) (i : Int) (w : World) (h : RefTab w R rb ro) (hR : R.length ≤ 1048576) :
    Calls Tryz.prog 35 #[.pointer (some ⟨rb, 0, none⟩), .int .i64 i] w (RClosePost R i rb ro w) := by
  have HR := Lib.hid hR
  have cA := refAt_any R rb ro i w h hR
  have H := Lib.hid h
  clear h hR
  go_enter Tryz.func35, Tryz.ntmps35
  go_wp2_with fail
  refine cA.mono ?_
  rintro e w' ⟨k, b, rfl, hat, hab, q, rfl⟩
  have hWB : Below w.heap.size w (w.drewN q) := drewN_self w q
  have hT := H.out.below hWB
  have HSZ : Hid ((w.drewN q).heap.size = w.heap.size) := Lib.hid rfl
  have HFW := Lib.hid (Fr.drewN [rb] w q)
  generalize w.drewN q = W at *
  have HAT := Lib.hid hat; have HAB := Lib.hid hab
  clear cA hat hab hWB
  cases b with
  | true =>
    obtain ⟨A, c, Z, hZ, rfl⟩ := hT
    obtain ⟨hkl, _⟩ := HAB.out.1 rfl
    rw [List.length_map] at hkl
    have HRL := Lib.hid (show Z.length ≤ 1048576 by have := HR.out; rwa [List.length_map] at this)
    have HZ := Lib.hid hZ
    have k1 : W.cell? ⟨rb, 0, none⟩ = some (.slice A Z.length c) := by rw [cellH hZ.cell]; rfl
    have hcap := hZ.row.cap
    have hsz := hZ.lt rb hZ.rb_
    have hne : rb ≠ W.heap.size := by omega
    have hk1 : k + 1 ≤ Z.length := hkl
    have hS3 := hZ.row.from hk1
    have hsl := slice_fromS A Z.length c (k + 1) hk1
    generalize (if c = k + 1 then A else A.map (·.add ((k + 1) * 3))) = A3 at hS3 hsl
    generalize hn3 : Z.length - (k + 1) = n3 at hS3 hsl
    generalize c - (k + 1) = c3 at hS3 hsl
    rw [Int.natCast_add, show ((1 : Nat) : Int) = 1 from rfl] at hsl
    have HS3 := Lib.hid hS3
    have HN3 := Lib.hid (show A3 = none → n3 = 0 ∧ c3 = 0 from fun e => by subst e; exact hS3.nil_cap)
    have hb0 : Below W.heap.size W (W.alloc (.cells #[] 56)) := (Below.refl _ W).alloc (Nat.le_refl _) _
    obtain ⟨La, hLa⟩ : ∃ La, La = (Z.take k).map (fun z : EntV => z.1) := ⟨_, rfl⟩
    obtain ⟨Lb, hLb⟩ : ∃ Lb, Lb = (Z.drop (k + 1)).map (fun z : EntV => z.1) := ⟨_, rfl⟩
    have HLA := Lib.hid hLa; have HLB := Lib.hid hLb
    have HS1 := Lib.hid (show Sl _ _ _ _ A k La from hLa ▸ ((hZ.row.upto (Nat.le_of_lt hkl)).sl hZ.lt).belowMore hb0 hb0.size)
    clear hLa hLb
    have HN1 := Lib.hid (show A = none → k = 0 ∧ c = 0 from fun e => by subst e; exact (hZ.row.upto (Nat.le_of_lt hkl)).nil_cap)
    have HB0 := Lib.hid hb0
    have hRL := HRL.out
    clear hS3 hb0 hZ
    go_wp2_with (at_builtin; refine wpList_appG elemSes rfl _ _ rfl W.heap.size (some ⟨W.heap.size, 0, none⟩) 0 0 [] ?hx1 (own_empty W) A k c La ?hy1 HS1.out HN1.out (by omega) HB0.out.size ?hk1)
    (try case hx1 => rfl)
    (try case hy1 => rfl)
    case hk1 =>
      intro A2 c2 w1 hv1 hb1
      have hB1 := HB0.out.trans hb1
      have k2 := keep1 k1 hB1
      have HV1 := Lib.hid hv1; have HB1 := Lib.hid hB1
      have HS4 := Lib.hid (show Sl _ _ _ _ A3 n3 Lb from HLB.out ▸ (HS3.out.sl HZ.out.lt).belowMore hB1 hB1.size)
      clear hv1 hb1 hB1
      go_wp2_with (at_builtin; refine wpList_appG elemSes rfl _ _ rfl W.heap.size A2 k c2 La ?hx2 HV1.out A3 n3 c3 Lb ?hy2 HS4.out HN3.out (by omega) HB1.out.size ?hk2)
      (try case hx2 => rfl)
      (try case hy2 => rfl)
      case hk2 =>
        intro A4 c4 w2 hv2 hb2
        have hB2 := HB1.out.trans hb2
        have k3 := keep1 k1 hB2
        have fz : w2.frozen? ⟨rb, 0, none⟩ = false := (HZ.out.fr (Fr.of_below (own := []) hB2) (by simp)).frozen
        have hv2' : w2.ownsRow W.heap.size 56 3 (.slice A4 (k + n3) c4) (k + n3) (((Z.take k ++ Z.drop (k + 1)).map (·.1)).flatMap encS) := by rw [List.map_append, List.flatMap_append, ← HLA.out, ← HLB.out]; simpa using hv2
        have HZZ := Lib.hid (HZ.out.set hB2 hv2' (by rw [List.length_append, List.length_take, List.length_drop]; omega) (Nat.le_refl _) ro (fun g hg => ⟨Nat.lt_of_lt_of_le (HZ.out.lt g hg) hB2.size, .inl hg⟩) (fun z hz => by
          have hm : z ∈ Z := by
            rcases List.mem_append.1 hz with hz | hz
            · exact List.mem_of_mem_take hz
            · exact List.mem_of_mem_drop hz
          exact (HZ.out.ent z hm).keep (fun _ hg => hg) fun p hp _ _ => hB2.cell (HZ.out.lt _ hp)))
        clear hv2 hv2' hb2 hB2
        go_wp2_with fail
        go_ret
        obtain ⟨⟨ro', z1, z2⟩, z3⟩ := HZZ.out
        refine ⟨k, true, HAT.out, HAB.out, rfl, ⟨ro', ⟨_, _, _, z1, by rw [List.map_append, List.map_take, List.map_drop]; rfl⟩, fun g hg => (z2 g hg).imp (fun h => h) (fun h => by rw [HSZ.out] at h; exact h)⟩, HFW.out.trans z3 (fun g hg => .inl hg)⟩
  | false =>
    have HT := Lib.hid hT
    clear hT
    go_wp2_with fail
    go_ret
    exact ⟨k, false, HAT.out, HAB.out, rfl, ⟨ro, HT.out, fun g hg => .inl hg⟩, HFW.out⟩
end Go.Proofs.YtfnigjeklcagnaaGreatDoor
namespace Go.Proofs.YtfnigjeklcagnaaGreatDoor
open Go.RowKit Go.MapKept Go.Maps
theorem ent_of_row {w : World} {rb b0 B n c : Nat} {ro : List Nat} {A : Option Addr} {i tm : Int} {l : List IdV} (hrow : RowId w b0 A n c l) (hB : B ≤ b0) (hrb : rb < b0) (hro : ∀ g ∈ ro, g < w.heap.size) (hi : wfI i) (ht : -2147483648 ≤ tm ∧ tm ≤ 2147483647) (hl : l.length = n) (h16 : n ≤ 16) (hs : SmallI l n 1048576) :
    ∃ roi : List Nat, (∀ g ∈ ro, g ∈ roi) ∧ (∀ g ∈ roi, g < w.heap.size ∧ (g ∈ ro ∨ B ≤ g)) ∧ EntOk w roi rb rb ((i, tm, A, n, c), l) := by
  subst hl
  have hsl := Sl.of_own (zs := l) (k := 2) (enc := encId) (fun _ => rfl) hrow rfl
  rcases hrow.2 with ⟨e, e2⟩ | ⟨g, cap, cur, e, q1, q2, q3, _⟩
  · injection e with e5 e6 e7
    exact ⟨ro, fun _ hg => hg, fun g hg => ⟨hro g hg, .inl hg⟩, hi, ht, rfl, ⟨fun _ => ⟨e2, e7⟩, by simp only; omega⟩, h16, hs, fun h0 => by simp only at h0; omega⟩
  · injection e with e5 e6 e7
    subst e5 e7
    refine ⟨g :: ro, fun _ hg => List.mem_cons_of_mem _ hg, fun x hx => ?_, hi, ht, rfl, ⟨(fun hh => by cases hh), q3⟩, h16, hs, fun h0 => ⟨g, 0, rfl, by simp, by omega, by omega, fun j hj i u hu2 => ?_⟩⟩
    · rcases List.mem_cons.1 hx with rfl | hx
      · exact ⟨(Array.getElem?_eq_some_iff.1 q2).1, .inr (Nat.le_trans hB q1)⟩
      · exact ⟨hro x hx, .inl hx⟩
    · obtain ⟨b, off, e8, _, hc⟩ := hsl.cells hj
      injection e8 with e8
      injection e8 with e9 e10
      subst e9 e10
      exact hc i u hu2
open Classical in
def ROpenPost (R : List SesP) (s : SesP) (rb : Nat) (ro : List Nat) (w : World) (e : Ending) (w' : World) : Prop := (¬ rightS s ∧ RtPostT (.int .i64 1) R rb ro w e w') ∨ (rightS s ∧ ∃ (k : Nat) (b : Bool), AtT R s.1 k ∧ AtB R s.1 k b ∧ RtPostT (.int .i64 (if b then 80 else 0)) (if b then R else R.take k ++ [s] ++ R.drop k) rb ro w e w')
open Classical in
set_option maxRecDepth 100000 in
set_option maxHeartbeats 4000000 in
theorem refOpen_any (R : List SesP) (rb : Nat) (ro : List Nat) (i tm : Int) (A : Option Addr) (n c : Nat) (l : List IdV) (w : World) (h : RefTab w R rb ro) (hR : R.length ≤ 1048576) (hs : SesOk w (i, tm, A, n, c) l 1048576) :
    Calls Tryz.prog 34 #[.pointer (some ⟨rb, 0, none⟩), .agg #[.int .i64 i, .int .i32 tm, .slice A n c]] w (ROpenPost R (i, tm, l) rb ro w) := by
  have hb0 : Below w.heap.size w (w.alloc (.cells #[.int .i64 i, .int .i32 tm, .slice A n c] 56)) := (Below.refl _ w).alloc (Nat.le_refl _) _
  have g0 : (w.alloc (.cells #[.int .i64 i, .int .i32 tm, .slice A n c] 56)).heap[w.heap.size]? = some (.cells #[.int .i64 i, .int .i32 tm, .slice A n c] 56 (0, 0)) := heap_alloc_new w _
  have y0 : (w.alloc (.cells #[.int .i64 i, .int .i32 tm, .slice A n c] 56)).cell? ⟨w.heap.size, 0, none⟩ = some (.int .i64 i) := by rw [cellH g0]; rfl
  have y1 : (w.alloc (.cells #[.int .i64 i, .int .i32 tm, .slice A n c] 56)).cell? ⟨w.heap.size, 1, none⟩ = some (.int .i32 tm) := by rw [cellH g0]; rfl
  have y2 : (w.alloc (.cells #[.int .i64 i, .int .i32 tm, .slice A n c] 56)).cell? ⟨w.heap.size, 2, none⟩ = some (.slice A n c) := by rw [cellH g0]; rfl
  have cR := refRightS_any i tm A n c l _ (hs.below hb0)
  have H := Lib.hid h; have HR := Lib.hid hR; have HS := Lib.hid hs; have HB0 := Lib.hid hb0; have G0 := Lib.hid g0
  clear h hR hs hb0 g0
  by_cases hr : rightS (i, tm, l)
  case neg =>
    rw [decide_eq_false hr] at cR
    have HNR := Lib.hid hr
    clear hr
    go_enter Tryz.func34, Tryz.ntmps34
    go_wp2_with fail
    refine cR.mono ?_
    rintro e w1 ⟨rfl, hb1⟩
    have HB1 := Lib.hid (HB0.out.trans (hb1.mono HB0.out.size))
    clear hb1 y0 y1 y2
    go_wp2_with fail
    go_ret
    exact .inl ⟨HNR.out, rfl, ⟨ro, H.out.below HB1.out, fun g hg => .inl hg⟩, Fr.of_below HB1.out⟩
  case pos =>
  rw [decide_eq_true hr] at cR
  have HRT := Lib.hid hr
  clear hr
  go_enter Tryz.func34, Tryz.ntmps34
  go_wp2_with fail
  refine cR.mono ?_
  rintro e w1 ⟨rfl, hb1⟩
  have HB1 := Lib.hid (HB0.out.trans (hb1.mono HB0.out.size))
  have G1 := Lib.hid ((hb1.block w.heap.size (Array.getElem?_eq_some_iff.1 G0.out).1).trans G0.out)
  have y0 := keep1 y0 hb1; have y1 := keep1 y1 hb1; have y2 := keep1 y2 hb1
  clear hb1 cR
  have cA := refAt_any R rb ro i w1 (H.out.below HB1.out) HR.out
  go_wp2_with fail
  refine cA.mono ?_
  rintro e w' ⟨k, b, rfl, hat, hab, q, rfl⟩
  have HAT := Lib.hid hat; have HAB := Lib.hid hab
  have HBW := Lib.hid (drewN_below HB1.out q)
  have y0 : (w1.drewN q).cell? ⟨w.heap.size, 0, none⟩ = some (.int .i64 i) := y0
  have y1 : (w1.drewN q).cell? ⟨w.heap.size, 1, none⟩ = some (.int .i32 tm) := y1
  have y2 : (w1.drewN q).cell? ⟨w.heap.size, 2, none⟩ = some (.slice A n c) := y2
  have GW := Lib.hid (show (w1.drewN q).heap[w.heap.size]? = some (.cells #[.int .i64 i, .int .i32 tm, .slice A n c] 56 (0, 0)) from G1.out)
  clear hat hab cA G1
  generalize w1.drewN q = W at *
  cases b with
  | true =>
    clear y0 y1 y2
    go_wp2_with fail
    go_ret
    exact .inr ⟨HRT.out, k, true, HAT.out, HAB.out, rfl, ⟨ro, H.out.below HBW.out, fun g hg => .inl hg⟩, Fr.of_below HBW.out⟩
  | false =>
    have hbs : Below W.heap.size W (W.alloc (.cells #[] 73)) := (Below.refl _ W).alloc (Nat.le_refl _) _
    have HBS := Lib.hid hbs
    have HSL := Lib.hid ((HS.out.2.2.1.belowMore HBW.out HBW.out.size).belowMore hbs hbs.size)
    have HSA := Lib.hid HS.out.2.2.2.1.1
    have hn := HS.out.2.2.2.2.1
    have hsW : w.heap.size < W.heap.size := (Array.getElem?_eq_some_iff.1 GW.out).1
    have hne : w.heap.size ≠ W.heap.size := by omega
    dsimp only at hn
    clear hbs
    go_wp2_with (at_builtin; refine wpList_appG elemId rfl _ _ rfl W.heap.size (some ⟨W.heap.size, 0, none⟩) 0 0 [] ?hx1 (own_empty W) A n c l ?hy1 HSL.out HSA.out (by omega) HBS.out.size ?hk1)
    (try case hx1 => rfl)
    (try case hy1 => rfl)
    case hk1 =>
      intro A1 c1 w2 hv1 hb2
      have hB2 := HBS.out.trans hb2
      have hrow : RowId w2 W.heap.size A1 n c1 l := by unfold RowId; simpa using hv1
      have g2 := (hB2.block w.heap.size hsW).trans GW.out
      have y0 := keep1 y0 hB2; have y1 := keep1 y1 hB2; have y2 := keep1 y2 hB2
      have fz : w2.frozen? ⟨w.heap.size, 2, none⟩ = false := by simp [World.frozen?, g2]
      have hX := fr_set w2 w.heap.size 2 (.slice A1 n c1)
      have GX := Lib.hid (show (w2.setCell ⟨w.heap.size, 2, none⟩ (.slice A1 n c1)).heap[w.heap.size]? = some (.cells #[.int .i64 i, .int .i32 tm, .slice A1 n c1] 56 (0, 0)) from heap_setN g2 _)
      have HBX := Lib.hid (show Below w.heap.size w (w2.setCell ⟨w.heap.size, 2, none⟩ (.slice A1 n c1)) from (HBW.out.trans (hB2.mono HBW.out.size)).trans (hX.below (Nat.le_trans HBW.out.size hB2.size) (fun g hg => by simp at hg; omega)))
      have HRX := Lib.hid (show RowId (w2.setCell ⟨w.heap.size, 2, none⟩ (.slice A1 n c1)) W.heap.size A1 n c1 l from own_fr hrow hX (fun g hg => by simp at hg; omega))
      have z0 : (w2.setCell ⟨w.heap.size, 2, none⟩ (.slice A1 n c1)).cell? ⟨w.heap.size, 0, none⟩ = some (.int .i64 i) := by rw [cellH GX.out]; rfl
      have z1 : (w2.setCell ⟨w.heap.size, 2, none⟩ (.slice A1 n c1)).cell? ⟨w.heap.size, 1, none⟩ = some (.int .i32 tm) := by rw [cellH GX.out]; rfl
      have z2 : (w2.setCell ⟨w.heap.size, 2, none⟩ (.slice A1 n c1)).cell? ⟨w.heap.size, 2, none⟩ = some (.slice A1 n c1) := by rw [cellH GX.out]; rfl
      have HWX := Lib.hid (show W.heap.size ≤ (w2.setCell ⟨w.heap.size, 2, none⟩ (.slice A1 n c1)).heap.size from Nat.le_trans hB2.size hX.size)
      clear hv1 hb2 hB2 hrow g2 hX
      have hxs : (w2.setCell ⟨w.heap.size, 2, none⟩ (.slice A1 n c1)).heap.size = w2.heap.size := by simp [World.setCell]
      have hT := H.out.below HBX.out
      obtain ⟨A9, c9, Z, hZ, rfl⟩ := hT
      have hk : k ≤ Z.length := by have := HAT.out.1; rwa [List.length_map] at this
      have hRL : Z.length ≤ 1048576 := by have := HR.out; rwa [List.length_map] at this
      have HZ := Lib.hid hZ
      have k1 : (w2.setCell ⟨w.heap.size, 2, none⟩ (.slice A1 n c1)).cell? ⟨rb, 0, none⟩ = some (.slice A9 Z.length c9) := by rw [cellH hZ.cell]; rfl
      have hcap := hZ.row.cap
      have hrbl := hZ.lt rb hZ.rb_
      have hrw := H.out.lt rb H.out.rb_
      have hne2 : rb ≠ w2.heap.size := by omega
      have hrw2 : rb ≠ w.heap.size := by omega
      have k0 : w2.cell? ⟨rb, 0, none⟩ = some (.slice A9 Z.length c9) := by
        have e := k1
        rwa [World.cell?_setCell_far _ _ _ _ (Ne.symm hrw2)] at e
      have k9 : ((w2.setCell ⟨w.heap.size, 2, none⟩ (.slice A1 n c1)).alloc (.cells #[] 56)).cell? ⟨rb, 0, none⟩ = some (.slice A9 Z.length c9) := (World.cell?_alloc_lt _ _ _ hrbl).trans k1
      have hsn : w.heap.size ≠ w2.heap.size := by have := (Array.getElem?_eq_some_iff.1 GX.out).1; omega
      have hS3 := hZ.row.from hk
      have hsl := slice_fromS A9 Z.length c9 k hk
      generalize (if c9 = k then A9 else A9.map (·.add (k * 3))) = A3 at hS3 hsl
      generalize hn3 : Z.length - k = n3 at hS3 hsl
      generalize c9 - k = c3 at hS3 hsl
      have HS3 := Lib.hid hS3
      have HN3 := Lib.hid (show A3 = none → n3 = 0 ∧ c3 = 0 from fun e => by subst e; exact hS3.nil_cap)
      obtain ⟨La, hLa⟩ : ∃ La, La = (Z.take k).map (fun z : EntV => z.1) := ⟨_, rfl⟩
      obtain ⟨Lb, hLb⟩ : ∃ Lb, Lb = (Z.drop k).map (fun z : EntV => z.1) := ⟨_, rfl⟩
      have HLA := Lib.hid hLa; have HLB := Lib.hid hLb
      have hb3 : Below (w2.setCell ⟨w.heap.size, 2, none⟩ (.slice A1 n c1)).heap.size (w2.setCell ⟨w.heap.size, 2, none⟩ (.slice A1 n c1)) ((w2.setCell ⟨w.heap.size, 2, none⟩ (.slice A1 n c1)).alloc (.cells #[] 56)) := (Below.refl _ _).alloc (Nat.le_refl _) _
      have HS1 := Lib.hid (show Sl _ _ _ _ A9 k La from hLa ▸ ((hZ.row.upto hk).sl hZ.lt).belowMore hb3 hb3.size)
      have HN1 := Lib.hid (show A9 = none → k = 0 ∧ c9 = 0 from fun e => by subst e; exact (hZ.row.upto hk).nil_cap)
      have HB3 := Lib.hid hb3
      have HOWN := Lib.hid (show ((w2.setCell ⟨w.heap.size, 2, none⟩ (.slice A1 n c1)).alloc (.cells #[] 56)).ownsRow w2.heap.size 56 3 (.slice (some ⟨w2.heap.size, 0, none⟩) 0 0) 0 [] by
        have := own_empty (T := 56) (k := 3) (w2.setCell ⟨w.heap.size, 2, none⟩ (.slice A1 n c1))
        rwa [hxs] at this)
      have HBZ := Lib.hid (show w2.heap.size ≤ ((w2.setCell ⟨w.heap.size, 2, none⟩ (.slice A1 n c1)).alloc (.cells #[] 56)).heap.size by rw [← hxs]; exact hb3.size)
      have HXS := Lib.hid hxs
      have HWL := Lib.hid HS.out.2.2.1.len
      clear hS3 hb3 hZ hLa hLb hxs
      go_wp2_with (at_builtin; refine wpList_appG elemSes rfl _ _ rfl w2.heap.size (some ⟨w2.heap.size, 0, none⟩) 0 0 [] ?hx2 HOWN.out A9 k c9 La ?hy2 HS1.out HN1.out (by omega) HBZ.out ?hk2)
      (try case hx2 => rfl)
      (try case hy2 => rfl)
      case hk2 =>
        intro A4 c4 w4 hv4 hb4
        have hB4 : Below (w2.setCell ⟨w.heap.size, 2, none⟩ (.slice A1 n c1)).heap.size (w2.setCell ⟨w.heap.size, 2, none⟩ (.slice A1 n c1)) w4 := HB3.out.trans (by rw [HXS.out]; exact hb4)
        have z0 := keep1 z0 hB4; have z1 := keep1 z1 hB4; have z2 := keep1 z2 hB4
        have k4 := keep1 k1 hB4
        have hb5 : Below w4.heap.size w4 (w4.alloc (.cells #[.int .i64 i, .int .i32 tm, .slice A1 n c1] 56)) := (Below.refl _ _).alloc (Nat.le_refl _) _
        have HV4 := Lib.hid (own_later hv4 hb5)
        have HB5 := Lib.hid (hB4.trans (hb5.mono hB4.size))
        have HB5s := Lib.hid (show w2.heap.size ≤ (w4.alloc (.cells #[.int .i64 i, .int .i32 tm, .slice A1 n c1] 56)).heap.size by rw [← HXS.out]; exact Nat.le_trans hB4.size hb5.size)
        have hrn : rb ≠ w4.heap.size := by have := hB4.size; omega
        have HS5 := Lib.hid (show Sl (w4.alloc (.cells #[.int .i64 i, .int .i32 tm, .slice A1 n c1] 56)) (w4.alloc (.cells #[.int .i64 i, .int .i32 tm, .slice A1 n c1] 56)).heap.size encS 3 (some ⟨w4.heap.size, 0, none⟩) 1 [((i, tm, A1, n, c1) : SesV)] from
          ⟨rfl, fun _ => ⟨w4.heap.size, 0, rfl, by simp, fun j hj a u hu => by
            have hj0 : j = 0 := by omega
            subst hj0
            rw [cellH (heap_alloc_new w4 (.cells #[.int .i64 i, .int .i32 tm, .slice A1 n c1] 56))]
            match a, hu with
            | 0, hu => exact hu
            | 1, hu => exact hu
            | 2, hu => exact hu⟩⟩)
        clear hv4 hb4 hB4 hb5
        go_wp2_with (at_builtin; refine wpList_appG elemSes rfl _ _ rfl w2.heap.size A4 k c4 La ?hx3 HV4.out (some ⟨w4.heap.size, 0, none⟩) 1 1 [((i, tm, A1, n, c1) : SesV)] ?hy3 HS5.out (fun e => by cases e) (by omega) HB5s.out ?hk3)
        (try case hx3 => rfl)
        (try case hy3 => rfl)
        case hk3 =>
          intro A6 c6 w6 hv6 hb6
          have hX6 : Below (w2.setCell ⟨w.heap.size, 2, none⟩ (.slice A1 n c1)).heap.size (w2.setCell ⟨w.heap.size, 2, none⟩ (.slice A1 n c1)) w6 := HB5.out.trans (by rw [HXS.out]; exact hb6)
          have k6 := keep1 k1 hX6
          have HV6 := Lib.hid (show w6.ownsRow w2.heap.size 56 3 (.slice A6 (k + 1) c6) (k + 1) ((La ++ [((i, tm, A1, n, c1) : SesV)]).flatMap encS) by simpa using hv6)
          have HS6 := Lib.hid (show Sl _ _ _ _ A3 n3 Lb from HLB.out ▸ (HS3.out.sl HZ.out.lt).belowMore hX6 hX6.size)
          have HB6s := Lib.hid (show w2.heap.size ≤ w6.heap.size by rw [← HXS.out]; exact hX6.size)
          have HX6 := Lib.hid hX6
          clear hv6 hb6 hX6
          go_wp2_with (at_builtin; refine wpList_appG elemSes rfl _ _ rfl w2.heap.size A6 (k + 1) c6 (La ++ [((i, tm, A1, n, c1) : SesV)]) ?hx4 HV6.out A3 n3 c3 Lb ?hy4 HS6.out HN3.out (by omega) HB6s.out ?hk4)
          (try case hx4 => rfl)
          (try case hy4 => rfl)
          case hk4 =>
            intro A8 c8 w8 hv8 hb8
            have hX8 : Below (w2.setCell ⟨w.heap.size, 2, none⟩ (.slice A1 n c1)).heap.size (w2.setCell ⟨w.heap.size, 2, none⟩ (.slice A1 n c1)) w8 := HX6.out.trans (by rw [HXS.out]; exact hb8)
            have k8 := keep1 k1 hX8
            have fz8 : w8.frozen? ⟨rb, 0, none⟩ = false := (HZ.out.fr (Fr.of_below (own := []) hX8) (by simp)).frozen
            have hrow8 : RowId w8 W.heap.size A1 n c1 l := own_fr HRX.out (Fr.of_below (own := []) hX8) (by simp)
            obtain ⟨roi, hr1, hr2, hr3⟩ := ent_of_row (ro := ro) (rb := rb) hrow8 HBW.out.size (Nat.lt_of_lt_of_le hrw HBW.out.size) (fun g hg => Nat.lt_of_lt_of_le (HZ.out.lt g hg) hX8.size) HS.out.1 HS.out.2.1 HWL.out (by have h16 : l.length ≤ 16 := HRT.out.2.2.2.1; have hl := HWL.out; omega) HS.out.2.2.2.2.2
            have hv8' : w8.ownsRow (w2.setCell ⟨w.heap.size, 2, none⟩ (.slice A1 n c1)).heap.size 56 3 (.slice A8 (k + 1 + n3) c8) (k + 1 + n3) (((Z.take k ++ [(((i, tm, A1, n, c1), l) : EntV)] ++ Z.drop k).map (·.1)).flatMap encS) := by
              rw [HXS.out, List.map_append, List.map_append, ← HLA.out, ← HLB.out]
              simpa using hv8
            have HZZ := Lib.hid (HZ.out.set hX8 hv8' (by rw [List.length_append, List.length_append, List.length_take, List.length_drop, List.length_singleton]; omega) HBX.out.size roi hr2 (fun z hz => by
              have old : z ∈ Z → EntOk w8 roi rb rb z := fun hm => (HZ.out.ent z hm).keep hr1 fun p hp _ _ => hX8.cell (HZ.out.lt _ hp)
              rcases List.mem_append.1 hz with hz | hz
              · rcases List.mem_append.1 hz with hz | hz
                · exact old (List.mem_of_mem_take hz)
                · rw [List.mem_singleton.1 hz]; exact hr3
              · exact old (List.mem_of_mem_drop hz)))
            clear hv8 hv8' hb8 hX8 hrow8 hr1 hr2 hr3
            go_wp2_with fail
            go_ret
            obtain ⟨⟨ro', q1, q2⟩, q3⟩ := HZZ.out
            exact .inr ⟨HRT.out, k, false, HAT.out, HAB.out, rfl, ⟨ro', ⟨_, _, _, q1, by rw [List.map_append, List.map_append, List.map_take, List.map_drop]; rfl⟩, q2⟩, (Fr.of_below HBX.out).trans q3 (fun g hg => .inl hg)⟩
end Go.Proofs.YtfnigjeklcagnaaGreatDoor
namespace Go.Proofs.YtfnigjeklcagnaaGreatDoor
open Go.RowKit Go.MapKept
theorem RtAt.sls {w : World} {rb c : Nat} {ro : List Nat} {A : Option Addr} {Z : List EntV} (h : RtAt w rb ro A c Z) : SlS w A Z.length Z := by
  refine ⟨rfl, fun j hj => ?_⟩
  obtain ⟨b, off, e, _, hc⟩ := (h.row.sl h.lt).cells hj
  have e2 : (Z.map (fun z : EntV => z.1))[j]! = Z[j]!.1 := by
    rw [getElem!_pos _ j (by rw [List.length_map]; exact hj), getElem!_pos Z j hj, List.getElem_map]
  rw [e2] at hc
  have hs := (h.ent Z[j]! (by rw [getElem!_pos Z j hj]; exact List.getElem_mem _)).ses h.lt
  exact ⟨⟨b, off, e, hc 0 _ rfl, hc 1 _ rfl, hc 2 _ rfl⟩, hs.2.2.1, hs.2.2.2.2.1⟩
open Classical in
set_option maxRecDepth 100000 in
set_option maxHeartbeats 2000000 in
theorem refEqual_any (R1 R2 : List SesP) (rb rb2 : Nat) (ro ro2 : List Nat) (w : World) (h1 : RefTab w R1 rb ro) (h2 : RefTab w R2 rb2 ro2) (hn : R1.length ≤ 281474976710656) :
    Calls Tryz.prog 39 #[.pointer (some ⟨rb, 0, none⟩), .pointer (some ⟨rb2, 0, none⟩)] w (RetB w (decide (R1 = R2))) := by
  obtain ⟨A, c, Z1, h1, rfl⟩ := h1
  obtain ⟨A2, c2, Z2, h2, rfl⟩ := h2
  rw [List.length_map] at hn
  have k1 : w.cell? ⟨rb, 0, none⟩ = some (.slice A Z1.length c) := by rw [cellH h1.cell]; rfl
  have k2 : w.cell? ⟨rb2, 0, none⟩ = some (.slice A2 Z2.length c2) := by rw [cellH h2.cell]; rfl
  have hx := h1.sls; have hy := h2.sls
  clear h1 h2
  obtain ⟨bb, HBB⟩ : ∃ bb, Hid (decide (Z1.map toP = Z2.map toP) = bb) := ⟨_, Lib.hid rfl⟩
  rw [HBB.out]
  generalize hgn : Z1.length = n at *
  generalize hgm : Z2.length = m at *
  by_cases hnm : n = m
  · subst hnm
    have HX := Lib.hid hx; have HY := Lib.hid hy
    clear hx hy hgn hgm
    go_enter Tryz.func39, Tryz.ntmps39
    go_wp2_with fail
    go_quiet (fail)
    have HB0 := Lib.hid (drewN_self w nq)
    go_wp2_with fail
    go_loopw [5] (fun i wr => SaR Z1 Z2 n w i wr) (fun i _ => n - (RowKit.intOf i).toNat)
    case atStart => exact ⟨0, rfl, Nat.zero_le _, fun j hj => absurd hj (by omega), HB0.out⟩
    case round =>
      obtain ⟨k, rfl, hk, hall, hb⟩ := hrel
      have HA := Lib.hid hall; have HB := Lib.hid hb
      have v1 := keep1 k1 hb; have v2 := keep1 k2 hb
      clear hall hb
      by_cases hlt : k < n
      · obtain ⟨⟨b, off, hA, x0, x1, x2⟩, hs1, hl1⟩ := (HX.out.below HB.out).2 k hlt
        obtain ⟨⟨b', off', hA', y0, y1, y2⟩, hs2, hl2⟩ := (HY.out.below HB.out).2 k hlt
        have hk2 : ((k : Nat) : Int) < (n : Int) := by omega
        have HXY := Lib.hid (And.intro HX HY)
        subst hA hA'
        clear HX HY
        have HI := Lib.hid (show toP Z1[k]! = toP Z2[k]! → ∀ j, j < k + 1 → toP Z1[j]! = toP Z2[j]! from fun h1 j hj => by rcases Nat.lt_succ_iff_lt_or_eq.1 hj with h | rfl; exact HA.out j h; exact h1)
        have HJ := Lib.hid (show Z1.map toP = Z2.map toP → toP Z1[k]! = toP Z2[k]! from fun h => by
          have l1 := HXY.out.1.out.1; have l2 := HXY.out.2.out.1
          have := congrArg (fun q => q[k]?) h
          simp only [List.getElem?_map] at this
          rw [List.getElem?_eq_getElem (by omega), List.getElem?_eq_getElem (by omega)] at this
          rw [getElem!_pos Z1 k (by omega), getElem!_pos Z2 k (by omega)]
          simpa using this)
        generalize Z1[k]! = z1 at *
        generalize Z2[k]! = z2 at *
        obtain ⟨⟨i, tm, A3, n3, c3⟩, l⟩ := z1
        obtain ⟨⟨i', tm', A4, n4, c4⟩, l'⟩ := z2
        dsimp only at x0 x1 x2 y0 y1 y2 hs1 hs2 hl1 hl2
        cases hdd : decide ((i, tm, l) = (i', tm', l'))
        case true =>
          have CL := Lib.hid (fun (d : Nat) (os : Array Obj) => by
            have h := Calls.regrown_of (sameSes_any i tm A3 n3 c3 l i' tm' A4 n4 c4 l' (Go.Sort.grow (redrawn wr d) os) (hs1.belowMore (below_regrown wr d os) (below_regrown wr d os).size) (hs2.belowMore (below_regrown wr d os) (below_regrown wr d os).size) hl1)
            rw [hdd] at h
            exact h)
          have HDD := Lib.hid hdd
          have D0 := fun d os => cell_regrown x0 d os
          have D1 := fun d os => cell_regrown x1 d os
          have D2 := fun d os => cell_regrown x2 d os
          have E0 := fun d os => cell_regrown y0 d os
          have E1 := fun d os => cell_regrown y1 d os
          have E2 := fun d os => cell_regrown y2 d os
          have F1 := fun d os => cell_regrown v1 d os
          have F2 := fun d os => cell_regrown v2 d os
          clear x0 x1 x2 y0 y1 y2 hs1 hs2 hdd
          go_wp2_with fail
          clear v1 v2
          refine wp_region_quiet_below (by kernel_rfl) (by kernel_rfl) ?_
          repeat (go_big_quiet_step ((exact CL.out _ _)))
          refine wpQuiet_nil ?_
          intro _ hw'
          obtain ⟨⟨dq, osq⟩, hw''⟩ := hw'
          subst hw''
          have HBF := Lib.hid (HB.out.trans ((below_regrown wr dq osq).mono HB.out.size))
          clear D0 D1 D2 E0 E1 E2 F1 F2
          have HI2 := Lib.hid (HI.out (of_decide_eq_true HDD.out))
          go_wp2_with fail
          go_roundw
          case rel => exact ⟨k + 1, by go_num, by omega, HI2.out, HBF.out⟩
          case measure => simp [RowKit.intOf]; omega
        case false =>
          have CL := Lib.hid (fun (d : Nat) (os : Array Obj) => by
            have h := Calls.regrown_of (sameSes_any i tm A3 n3 c3 l i' tm' A4 n4 c4 l' (Go.Sort.grow (redrawn wr d) os) (hs1.belowMore (below_regrown wr d os) (below_regrown wr d os).size) (hs2.belowMore (below_regrown wr d os) (below_regrown wr d os).size) hl1)
            rw [hdd] at h
            exact h)
          have HDD := Lib.hid hdd
          have D0 := fun d os => cell_regrown x0 d os
          have D1 := fun d os => cell_regrown x1 d os
          have D2 := fun d os => cell_regrown x2 d os
          have E0 := fun d os => cell_regrown y0 d os
          have E1 := fun d os => cell_regrown y1 d os
          have E2 := fun d os => cell_regrown y2 d os
          have F1 := fun d os => cell_regrown v1 d os
          have F2 := fun d os => cell_regrown v2 d os
          clear x0 x1 x2 y0 y1 y2 hs1 hs2 hdd
          go_wp2_with fail
          clear v1 v2
          refine wp_region_quiet_below (by kernel_rfl) (by kernel_rfl) ?_
          repeat (go_big_quiet_step ((exact CL.out _ _)))
          refine wpQuiet_nil ?_
          intro _ hw'
          obtain ⟨⟨dq, osq⟩, hw''⟩ := hw'
          subst hw''
          have HBF := Lib.hid (HB.out.trans ((below_regrown wr dq osq).mono HB.out.size))
          clear D0 D1 D2 E0 E1 E2 F1 F2
          have HE := Lib.hid (show decide (Z1.map toP = Z2.map toP) = false from decide_eq_false fun e => of_decide_eq_false HDD.out (HJ.out e))
          go_wp2_with fail
          go_ret
          exact RetB.mk HBF.out (HE.out.symm.trans HBB.out)
      · have hk2 : ¬ ((k : Nat) : Int) < (n : Int) := by omega
        have HT := Lib.hid (show decide (Z1.map toP = Z2.map toP) = true from decide_eq_true (by
          have l1 := HX.out.1; have l2 := HY.out.1
          refine List.ext_getElem (by simp; omega) fun j h1 h2 => ?_
          rw [List.length_map] at h1 h2
          have := HA.out j (by omega)
          rw [getElem!_pos Z1 j h1, getElem!_pos Z2 j h2] at this
          simpa using this))
        go_wp2_with fail
        go_ret
        exact RetB.mk HB.out (HT.out.symm.trans HBB.out)
  · have HE := Lib.hid (show decide (Z1.map toP = Z2.map toP) = false from decide_eq_false fun e => hnm (by
      have := congrArg List.length e
      rw [List.length_map, List.length_map, hx.1, hy.1] at this
      exact this))
    have hd : ((n : Int) != (m : Int)) = true := bne_iff_ne.2 (by omega)
    clear hnm
    go_enter Tryz.func39, Tryz.ntmps39
    go_wp2_with fail
    go_quiet (fail)
    have HB0 := Lib.hid (drewN_self w nq)
    go_wp2_with fail
    go_ret
    exact RetB.mk HB0.out (HE.out.symm.trans HBB.out)
end Go.Proofs.YtfnigjeklcagnaaGreatDoor
