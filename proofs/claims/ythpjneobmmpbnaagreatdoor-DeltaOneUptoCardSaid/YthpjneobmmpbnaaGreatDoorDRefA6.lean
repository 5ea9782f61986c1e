/- A range over a map whose keys are int64, by its list of keys and values: who is still to come. -/
import Derived.Test.YthpjneobmmpbnaaGreatDoorDClkE
import Derived.Maps.Range
import Derived.Maps.RangeRun
import Derived.Laws.IdiomRangeMap
import Derived.WalkKit
import Derived.Test.YthpjneobmmpbnaaGreatDoorDAclF
namespace Go.Proofs.YthpjneobmmpbnaaGreatDoor
/-- a voter: its group, its weight -/
abbrev VtV := Int × Int
def gsum : List VtV → Int → Int
  | [], _ => 0
  | v :: r, g => (if v.1 = g then v.2 else 0) + gsum r g
/-- the groups, each once -/
def dk : List VtV → List Int
  | [] => []
  | v :: r => if v.1 ∈ dk r then dk r else v.1 :: dk r
def gk (l : List VtV) : List Int := (dk l).filter (fun g => decide (0 < gsum l g))
end Go.Proofs.YthpjneobmmpbnaaGreatDoor
namespace Go.Proofs.YthpjneobmmpbnaaGreatDoor
open Go.RowKit

theorem lt_of_moreI (b : Nat) : -1 ≤ (moreI b).1 ∧ (moreI b).1 ≤ 3 ∧ (moreI b).2.1 ≤ 255 ∧ (moreI b).2.2 ≤ 255 := by
  unfold moreI; (repeat' split) <;> simp
def RetM (w : World) (m : Int × Nat × Nat) (e : Ending) (w' : World) : Prop := e = .returned (.tuple #[.int .i64 m.1, .int .u8 m.2.1, .int .u8 m.2.2]) ∧ w = w'
theorem RetM.mk {w : World} {m : Int × Nat × Nat} {a b c : Int} (e1 : a = m.1) (e2 : b = m.2.1) (e3 : c = m.2.2) : RetM w m (.returned (.tuple #[.int .i64 a, .int .u8 b, .int .u8 c])) w := ⟨by rw [e1, e2, e3], rfl⟩

set_option maxRecDepth 100000 in
set_option maxHeartbeats 1000000 in
theorem more_any (b : Nat) (hb : b < 256) (w : World) :
    Calls Tryz.prog 203 #[.int .u8 (b : Int)] w (RetM w (moreI b)) := by
  have H := Lib.hid (show moreI b = if b < 128 then (0, 0, 0) else if 194 ≤ b ∧ b ≤ 223 then (1, 128, 191) else if b = 224 then (2, 160, 191) else if b = 237 then (2, 128, 159)
    else if 225 ≤ b ∧ b ≤ 239 then (2, 128, 191) else if b = 240 then (3, 144, 191) else if b = 244 then (3, 128, 143) else if 241 ≤ b ∧ b ≤ 243 then (3, 128, 191) else (-1, 0, 0) from rfl)
  have q : ∀ n : Nat, b = n → ((b : Int) == (n : Int)) = true := fun n h => by simp [h]
  have q' : ∀ n : Nat, b ≠ n → ((b : Int) == (n : Int)) = false := fun n h => by simp; omega
  have HQ := Lib.hid q; have HQ' := Lib.hid q'; clear q q'
  have fin : ∀ m : Int × Nat × Nat, moreI b = m → Hid (moreI b = m) := fun _ h => Lib.hid h
  have HF := Lib.hid fin; clear fin
  by_cases c1 : b < 128
  · have HM := HF.out _ (by rw [H.out, if_pos c1])
    go_enter Tryz.func203, Tryz.ntmps203
    go_wp2
    go_ret3
    exact RetM.mk (by rw [HM.out]) (by rw [HM.out]; rfl) (by rw [HM.out]; rfl)
  by_cases c2 : 194 ≤ b ∧ b ≤ 223
  · have HM := HF.out _ (by rw [H.out, if_neg c1, if_pos c2])
    obtain ⟨d1, d2⟩ := c2
    go_enter Tryz.func203, Tryz.ntmps203
    go_wp2
    go_ret3
    exact RetM.mk (by rw [HM.out]) (by rw [HM.out]; rfl) (by rw [HM.out]; rfl)
  have e1 : (decide ((194 : Int) ≤ (b : Int)) && decide ((b : Int) ≤ 223)) = false := by simp; omega
  by_cases c3 : b = 224
  · have HM := HF.out _ (by rw [H.out, if_neg c1, if_neg c2, if_pos c3])
    clear c1 c2
    subst c3
    go_enter Tryz.func203, Tryz.ntmps203
    go_wp2
    go_ret3
    exact RetM.mk (by rw [HM.out]) (by rw [HM.out]; rfl) (by rw [HM.out]; rfl)
  by_cases c4 : b = 237
  · have HM := HF.out _ (by rw [H.out, if_neg c1, if_neg c2, if_neg c3, if_pos c4])
    clear c1 c2 c3
    subst c4
    go_enter Tryz.func203, Tryz.ntmps203
    go_wp2
    go_ret3
    exact RetM.mk (by rw [HM.out]) (by rw [HM.out]; rfl) (by rw [HM.out]; rfl)
  have f3 := HQ'.out 224 c3
  have f4 := HQ'.out 237 c4
  by_cases c5 : 225 ≤ b ∧ b ≤ 239
  · have HM := HF.out _ (by rw [H.out, if_neg c1, if_neg c2, if_neg c3, if_neg c4, if_pos c5])
    clear c2 c3 c4
    obtain ⟨d1, d2⟩ := c5
    have d3 : 223 < b := by omega
    go_enter Tryz.func203, Tryz.ntmps203
    go_wp2
    go_ret3
    exact RetM.mk (by rw [HM.out]) (by rw [HM.out]; rfl) (by rw [HM.out]; rfl)
  by_cases c6 : b = 240
  · have HM := HF.out _ (by rw [H.out, if_neg c1, if_neg c2, if_neg c3, if_neg c4, if_neg c5, if_pos c6])
    clear c1 c2 c3 c4 c5 e1 f3 f4
    subst c6
    go_enter Tryz.func203, Tryz.ntmps203
    go_wp2
    go_ret3
    exact RetM.mk (by rw [HM.out]) (by rw [HM.out]; rfl) (by rw [HM.out]; rfl)
  by_cases c7 : b = 244
  · have HM := HF.out _ (by rw [H.out, if_neg c1, if_neg c2, if_neg c3, if_neg c4, if_neg c5, if_neg c6, if_pos c7])
    clear c1 c2 c3 c4 c5 c6 e1 f3 f4
    subst c7
    go_enter Tryz.func203, Tryz.ntmps203
    go_wp2
    go_ret3
    exact RetM.mk (by rw [HM.out]) (by rw [HM.out]; rfl) (by rw [HM.out]; rfl)
  have f6 := HQ'.out 240 c6
  have f7 := HQ'.out 244 c7
  by_cases c8 : 241 ≤ b ∧ b ≤ 243
  · have HM := HF.out _ (by rw [H.out, if_neg c1, if_neg c2, if_neg c3, if_neg c4, if_neg c5, if_neg c6, if_neg c7, if_pos c8])
    clear c2 c3 c4 c5 c6 c7
    obtain ⟨d1, d2⟩ := c8
    have d3 : 239 < b := by omega
    have d4 : 223 < b := by omega
    go_enter Tryz.func203, Tryz.ntmps203
    go_wp2
    go_ret3
    exact RetM.mk (by rw [HM.out]) (by rw [HM.out]; rfl) (by rw [HM.out]; rfl)
  have HM := HF.out _ (by rw [H.out, if_neg c1, if_neg c2, if_neg c3, if_neg c4, if_neg c5, if_neg c6, if_neg c7, if_neg c8])
  by_cases c9 : b < 194
  · clear c2 c3 c4 c5 c6 c7 c8
    have d1 : b < 225 := by omega
    have d2 : b < 241 := by omega
    go_enter Tryz.func203, Tryz.ntmps203
    go_wp2
    go_ret3
    exact RetM.mk (by rw [HM.out]) (by rw [HM.out]; rfl) (by rw [HM.out]; rfl)
  · have d0 : 244 < b := by omega
    clear c2 c3 c4 c5 c6 c7 c8
    have d1 : 239 < b := by omega
    have d2 : 243 < b := by omega
    have d3 : 223 < b := by omega
    go_enter Tryz.func203, Tryz.ntmps203
    go_wp2
    go_ret3
    exact RetM.mk (by rw [HM.out]) (by rw [HM.out]; rfl) (by rw [HM.out]; rfl)
end Go.Proofs.YthpjneobmmpbnaaGreatDoor
namespace Go.Proofs.YthpjneobmmpbnaaGreatDoor
open Go.RowKit

def loJ (m : Int × Nat × Nat) (j : Nat) : Nat := if j = 1 then m.2.1 else 128
def hiJ (m : Int × Nat × Nat) (j : Nat) : Nat := if j = 1 then m.2.2 else 191
theorem loJ_more (m : Int × Nat × Nat) (j : Nat) (h : 1 ≤ j) : loJ m (j + 1) = 128 := if_neg (by omega)
theorem hiJ_more (m : Int × Nat × Nat) (j : Nat) (h : 1 ≤ j) : hiJ m (j + 1) = 191 := if_neg (by omega)
def byteJ (b1 b2 b3 j : Nat) : Nat := if j = 1 then b1 else if j = 2 then b2 else b3
def goodJ (m : Int × Nat × Nat) (b1 b2 b3 j : Nat) : Prop := loJ m j ≤ byteJ b1 b2 b3 j ∧ byteJ b1 b2 b3 j ≤ hiJ m j
theorem next_short (len b0 b1 b2 b3 : Nat) (h : (moreI b0).1 < 0 ∨ (0 < (moreI b0).1 ∧ (len : Int) ≤ (moreI b0).1)) : nextM len b0 b1 b2 b3 = none := by
  unfold nextM; rw [if_pos h]
theorem next_bad (len b0 b1 b2 b3 j : Nat) (h1 : 1 ≤ j) (h2 : (j : Int) ≤ (moreI b0).1) (h : ¬ goodJ (moreI b0) b1 b2 b3 j) : nextM len b0 b1 b2 b3 = none := by
  have hr := lt_of_moreI b0
  unfold nextM
  have h3 : j ≤ 3 := by omega
  unfold goodJ at h
  split
  · rfl
  match j, h1, h3 with
  | 1, _, _ => rw [if_pos ⟨by omega, by simp [loJ, hiJ, byteJ] at h; omega⟩]
  | 2, _, _ =>
    split
    · rfl
    · rw [if_pos ⟨by omega, by simp [loJ, hiJ, byteJ] at h; omega⟩]
  | 3, _, _ =>
    split
    · rfl
    · split
      · rfl
      · rw [if_pos ⟨by omega, by simp [loJ, hiJ, byteJ] at h; omega⟩]
theorem next_ok (len b0 b1 b2 b3 : Nat) (h : ¬ ((moreI b0).1 < 0 ∨ (0 < (moreI b0).1 ∧ (len : Int) ≤ (moreI b0).1))) (hg : ∀ j : Nat, 1 ≤ j → (j : Int) ≤ (moreI b0).1 → goodJ (moreI b0) b1 b2 b3 j) :
    nextM len b0 b1 b2 b3 = some ((moreI b0).1.toNat + 1) := by
  unfold nextM
  rw [if_neg h, if_neg, if_neg, if_neg]
  · rintro ⟨a, b⟩
    have := hg 3 (by omega) (by omega)
    simp [goodJ, loJ, hiJ, byteJ] at this; omega
  · rintro ⟨a, b⟩
    have := hg 2 (by omega) (by omega)
    simp [goodJ, loJ, hiJ, byteJ] at this; omega
  · rintro ⟨a, b⟩
    have := hg 1 (by omega) (by omega)
    simp [goodJ, loJ, hiJ, byteJ] at this; omega
theorem get_bang (s : ByteArray) (k : Nat) (h : k < s.size) : s.get! k = s[k] := by
  show s.data[k]! = _
  rw [getElem!_pos s.data k h]; rfl
theorem byteJ_at (s : ByteArray) (p j : Nat) (h1 : 1 ≤ j) (h2 : j ≤ 3) (h : p + j < s.size) : (s[p + j].toNat : Nat) = byteJ (s.get! (p + 1)).toNat (s.get! (p + 2)).toNat (s.get! (p + 3)).toNat j := by
  rw [← get_bang s (p + j) h]
  match j, h1, h2 with
  | 1, _, _ => rfl
  | 2, _, _ => rfl
  | 3, _, _ => rfl
def SameB (w : World) (b : Bool) (e : Ending) (w' : World) : Prop := e = .returned (.bool b) ∧ w = w'
theorem SameB.mk {w : World} {a b : Bool} (e : b = a) : SameB w a (.returned (.bool b)) w := ⟨by rw [e], rfl⟩
def InRel (m : Int × Nat × Nat) (b1 b2 b3 : Nat) (lo hi k : Value) : Prop := ∃ j : Nat, k = .int .i64 ↑j ∧ 1 ≤ j ∧ (j : Int) ≤ m.1 + 1 ∧ lo = .int .u8 ↑(loJ m j) ∧ hi = .int .u8 ↑(hiJ m j) ∧ ∀ i, 1 ≤ i → i < j → goodJ m b1 b2 b3 i

set_option maxRecDepth 100000 in
set_option maxHeartbeats 4000000 in
theorem refU8_any (s : ByteArray) (hs : s.size ≤ 140737488355328) (w : World) :
    Calls Tryz.prog 164 #[.string s] w (SameB w (validFrom s 0)) := by
  go_enter Tryz.func164, Tryz.ntmps164
  go_wp2
  go_loop [3] (fun i => ∃ p : Nat, i = .int .i64 ↑p ∧ p ≤ s.size ∧ validFrom s p = validFrom s 0) (fun i => s.size - (RowKit.intOf i).toNat)
  case atStart => exact ⟨0, rfl, by omega, rfl⟩
  case round =>
    obtain ⟨p, rfl, hp, hF⟩ := hrel
    have HF := Lib.hid hF; clear hF
    by_cases hlt : p < s.size
    · have hst := validFrom_step s p hlt
      have hg0 : (s[p].toNat : Nat) = (s.get! p).toNat := by rw [get_bang s p hlt]
      have hb0 : (s.get! p).toNat < 256 := UInt8.toNat_lt _
      have hr := lt_of_moreI (s.get! p).toNat
      have HS := Lib.hid hst; clear hst
      have hi1 : (0 : Int) ≤ (p : Int) ∧ (p : Int) < (s.size : Int) := by omega
      have cM := fun W => more_any (s.get! p).toNat hb0 W
      unfold RetM at cM
      have HJ := Lib.hid (fun j (h1 : 1 ≤ j) (h2 : j ≤ 3) (h : p + j < s.size) => byteJ_at s p j h1 h2 h)
      have HBJ : Hid (∀ j, byteJ (s.get! (p + 1)).toNat (s.get! (p + 2)).toNat (s.get! (p + 3)).toNat j < 256) := Lib.hid (fun j => by
        unfold byteJ; split
        · exact UInt8.toNat_lt _
        · split <;> exact UInt8.toNat_lt _)
      have HG0 := Lib.hid hg0; clear hg0
      have HN0 := Lib.hid (next_short (s.size - p) (s.get! p).toNat (s.get! (p + 1)).toNat (s.get! (p + 2)).toNat (s.get! (p + 3)).toNat)
      have HN1 := Lib.hid (next_bad (s.size - p) (s.get! p).toNat (s.get! (p + 1)).toNat (s.get! (p + 2)).toNat (s.get! (p + 3)).toNat)
      have HN2 := Lib.hid (next_ok (s.size - p) (s.get! p).toNat (s.get! (p + 1)).toNat (s.get! (p + 2)).toNat (s.get! (p + 3)).toNat)
      generalize moreI (s.get! p).toNat = mm at *
      generalize nextM (s.size - p) (s.get! p).toNat (s.get! (p + 1)).toNat (s.get! (p + 2)).toNat (s.get! (p + 3)).toNat = nx at *
      generalize (s.get! (p + 1)).toNat = b1 at *
      generalize (s.get! (p + 2)).toNat = b2 at *
      generalize (s.get! (p + 3)).toNat = b3 at *
      generalize (s.get! p).toNat = b0 at *
      obtain ⟨n, lo, hi⟩ := mm
      simp only [] at hr cM
      obtain ⟨r1, r2, r3, r4⟩ := hr
      by_cases hn : n < 0
      · have HX : Hid (validFrom s 0 = false) := Lib.hid (by rw [← HF.out, HS.out, HN0.out (.inl hn)])
        go_wp2_with fail
        rw [HG0.out]
        refine (cM _).mono ?_
        rintro e w1 ⟨rfl, rfl⟩
        go_wp2
        go_ret
        exact SameB.mk HX.out.symm
      by_cases hsh : 0 < n ∧ (s.size : Int) ≤ p + n
      · have HX : Hid (validFrom s 0 = false) := Lib.hid (by rw [← HF.out, HS.out, HN0.out (.inr ⟨hsh.1, by omega⟩)])
        obtain ⟨h1, h2⟩ := hsh
        have h3 : 0 ≤ n := by omega
        clear hn
        go_wp2_with fail
        rw [HG0.out]
        refine (cM _).mono ?_
        rintro e w1 ⟨rfl, rfl⟩
        go_wp2
        go_ret
        exact SameB.mk HX.out.symm
      have h0n : 0 ≤ n := by omega
      have hpn : (p : Int) + n < s.size := by omega
      have hpn0 : 0 ≤ (p : Int) + n := by omega
      have HSH := Lib.hid (show ¬ (n < 0 ∨ (0 < n ∧ ((s.size - p : Nat) : Int) ≤ n)) by omega)
      clear hn hsh
      go_wp2_with fail
      rw [HG0.out]
      refine (cM _).mono ?_
      rintro e w1 ⟨rfl, rfl⟩
      go_wp2
      go_loop [5, 6, 7] (InRel (n, lo, hi) b1 b2 b3) (fun _ _ k => n.toNat + 2 - (RowKit.intOf k).toNat)
      case atStart => exact ⟨1, rfl, Nat.le_refl _, by show (1 : Int) ≤ n + 1; omega, rfl, rfl, fun i h1 h2 => absurd h1 (by omega)⟩
      case round =>
        obtain ⟨j, rfl, hj1, hj2, rfl, rfl, hall⟩ := hrel
        have HA := Lib.hid hall; clear hall
        simp only [] at hj2
        by_cases hle : (j : Int) ≤ n
        · have hx1 : p + j < s.size := by omega
          have hx2 : (0 : Int) ≤ (p : Int) + j ∧ (p : Int) + j < (s.size : Int) := by omega
          have hbj := HJ.out j hj1 (by omega) hx1
          have hb9 := HBJ.out j
          by_cases hgd : goodJ (n, lo, hi) b1 b2 b3 j
          · have HG := Lib.hid hgd
            unfold goodJ at hgd
            rw [← hbj] at hgd hb9
            clear hbj
            obtain ⟨g1, g2⟩ := hgd
            generalize loJ (n, lo, hi) j = x at *
            generalize hiJ (n, lo, hi) j = y at *
            go_wp2
            refine ⟨⟨j + 1, by go_num, by omega, by show ((j + 1 : Nat) : Int) ≤ n + 1; omega, by rw [loJ_more _ _ hj1]; rfl, by rw [hiJ_more _ _ hj1]; rfl, fun i h1 h2 => ?_⟩, by simp [RowKit.intOf]; omega⟩
            rcases Nat.lt_succ_iff_lt_or_eq.1 h2 with h | h
            · exact HA.out i h1 h
            · subst h; exact HG.out
          · have HX : Hid (validFrom s 0 = false) := Lib.hid (by rw [← HF.out, HS.out, HN1.out j hj1 hle hgd])
            unfold goodJ at hgd
            rw [← hbj] at hgd hb9
            clear hbj
            generalize loJ (n, lo, hi) j = x at *
            generalize hiJ (n, lo, hi) j = y at *
            by_cases g1 : s[p + j].toNat < x
            · clear hgd
              go_wp2
              go_ret
              exact SameB.mk HX.out.symm
            · have g2 : y < s[p + j].toNat := by omega
              clear hgd
              go_wp2
              go_ret
              exact SameB.mk HX.out.symm
        · have HX : Hid (validFrom s (p + 1 + n.toNat) = validFrom s 0) := Lib.hid (by rw [← HF.out, HS.out, HN2.out HSH.out (fun i h1 h2 => HA.out i h1 (by omega))]; show _ = validFrom s (p + (n.toNat + 1)); congr 1; omega)
          go_wp2
          refine ⟨⟨p + 1 + n.toNat, ?_, by omega, HX.out⟩, by simp [RowKit.intOf]; omega⟩
          rw [show ((p + 1 + n.toNat : Nat) : Int) = (p : Int) + 1 + n by omega]
    · go_wp2
      go_ret
      exact SameB.mk (by rw [← HF.out]; exact (validFrom_end s p hlt).symm)
end Go.Proofs.YthpjneobmmpbnaaGreatDoor
namespace Go.Proofs.YthpjneobmmpbnaaGreatDoor
open Go.RowKit

set_option maxRecDepth 100000 in
set_option maxHeartbeats 4000000 in
theorem refText_any (s : ByteArray) (hs : s.size ≤ 140737488355328) (w : World) :
    Calls Tryz.prog 246 #[.string s] w (SameB w (textOk s)) := by
  have HT := Lib.hid (show textOk s = (decide (1 ≤ s.size) && decide (s.size ≤ 256) && validFrom s 0 && okFrom s 0) from rfl)
  by_cases h0 : s.size = 0
  · have HX : Hid (textOk s = false) := Lib.hid (by rw [HT.out, h0]; rfl)
    have h1 : (s.size : Int) < 1 := by omega
    clear h0
    go_enter Tryz.func246, Tryz.ntmps246
    go_wp2
    go_ret
    exact SameB.mk HX.out.symm
  have h1 : 1 ≤ (s.size : Int) := by omega
  clear h0
  by_cases h2 : 256 < (s.size : Int)
  · have HX : Hid (textOk s = false) := Lib.hid (by rw [HT.out, decide_eq_false (show ¬ s.size ≤ 256 by omega)]; simp)
    go_enter Tryz.func246, Tryz.ntmps246
    go_wp2
    go_ret
    exact SameB.mk HX.out.symm
  have h3 : (s.size : Int) ≤ 256 := by omega
  clear h2
  have cU := fun W => refU8_any s hs W
  cases hv : validFrom s 0 with
  | false =>
    rw [hv] at cU
    have HX : Hid (textOk s = false) := Lib.hid (by rw [HT.out, hv]; simp)
    clear hv
    go_enter Tryz.func246, Tryz.ntmps246
    go_wp2_with fail
    refine (cU _).mono ?_
    rintro e w1 ⟨rfl, rfl⟩
    go_wp2
    go_ret
    exact SameB.mk HX.out.symm
  | true =>
    rw [hv] at cU
    have HX : Hid (textOk s = okFrom s 0) := Lib.hid (by rw [HT.out, hv, decide_eq_true (show 1 ≤ s.size by omega), decide_eq_true (show s.size ≤ 256 by omega)]; simp)
    clear hv
    go_enter Tryz.func246, Tryz.ntmps246
    go_wp2_with fail
    refine (cU _).mono ?_
    rintro e w1 ⟨rfl, rfl⟩
    go_wp2
    go_loop [3] (fun i => ∃ p : Nat, i = .int .i64 ↑p ∧ p ≤ s.size ∧ okFrom s p = okFrom s 0) (fun i => s.size - (RowKit.intOf i).toNat)
    case atStart => exact ⟨0, rfl, by omega, rfl⟩
    case round =>
      obtain ⟨p, rfl, hp, hF⟩ := hrel
      have HF := Lib.hid hF; clear hF
      by_cases hlt : p < s.size
      · have HS := Lib.hid (okFrom_step s p hlt)
        have HB := Lib.hid (show okB (s.get! p).toNat = okB s[p].toNat by rw [get_bang s p hlt])
        have hi1 : (0 : Int) ≤ (p : Int) ∧ (p : Int) < (s.size : Int) := by omega
        by_cases c1 : (s[p].toNat : Int) < 33
        · have HO : Hid (okFrom s 0 = false) := Lib.hid (by rw [← HF.out, HS.out, HB.out]; unfold okB; rw [decide_eq_false (show ¬ 33 ≤ s[p].toNat by omega)]; rfl)
          go_wp2
          go_ret
          exact SameB.mk (by rw [HX.out, HO.out])
        by_cases c2 : s[p].toNat = 127
        · have HO : Hid (okFrom s 0 = false) := Lib.hid (by rw [← HF.out, HS.out, HB.out, c2]; rfl)
          have c3 : ((s[p].toNat : Int) == 127) = true := by simp [c2]
          clear c2
          go_wp2
          go_ret
          exact SameB.mk (by rw [HX.out, HO.out])
        have d2 : ((s[p].toNat : Int) == 127) = false := by simp; omega
        by_cases c3 : s[p].toNat = 44
        · have HO : Hid (okFrom s 0 = false) := Lib.hid (by rw [← HF.out, HS.out, HB.out, c3]; rfl)
          have c4 : ((s[p].toNat : Int) == 44) = true := by simp [c3]
          clear c2 c3
          go_wp2
          go_ret
          exact SameB.mk (by rw [HX.out, HO.out])
        have d3 : ((s[p].toNat : Int) == 44) = false := by simp; omega
        have HO : Hid (okFrom s (p + 1) = okFrom s 0) := Lib.hid (by rw [← HF.out, HS.out, HB.out]; unfold okB; rw [decide_eq_true (show 33 ≤ s[p].toNat by omega), decide_eq_true c2, decide_eq_true c3]; simp)
        clear c2 c3
        go_wp2
        go_round
        case rel => exact ⟨p + 1, by go_num, by omega, HO.out⟩
        case measure => simp [RowKit.intOf]; omega
      · go_wp2
        go_ret
        exact SameB.mk (by rw [HX.out, ← HF.out, okFrom_end s p hlt])

def SameI (w : World) (n : Int) (e : Ending) (w' : World) : Prop := e = .returned (.int .i64 n) ∧ w = w'
theorem SameI.mk {w : World} {a b : Int} (e : b = a) : SameI w a (.returned (.int .i64 b)) w := ⟨by rw [e], rfl⟩
/-- the place of the first byte of that kind from a place on -/
def cutAt (s : ByteArray) (p : Nat) (c : UInt8) : Nat := p + untilN c (s.data.toList.drop p)
theorem rdrop_at (s : ByteArray) (p : Nat) (h : p < s.size) : s.data.toList.drop p = s[p] :: s.data.toList.drop (p + 1) := by
  rw [List.drop_eq_getElem_cons (by simpa using h)]; rfl
theorem cutAt_hit (s : ByteArray) (p : Nat) (c : UInt8) (h : p < s.size) (hc : s[p] = c) : cutAt s p c = p := by
  unfold cutAt; rw [rdrop_at s p h, untilN, if_pos hc]; rfl
theorem cutAt_go (s : ByteArray) (p : Nat) (c : UInt8) (h : p < s.size) (hc : s[p] ≠ c) : cutAt s (p + 1) c = cutAt s p c := by
  unfold cutAt; rw [rdrop_at s p h, untilN, if_neg hc]; omega
theorem cutAt_end (s : ByteArray) (p : Nat) (c : UInt8) (h : s.size ≤ p) : cutAt s p c = p := by
  unfold cutAt; rw [List.drop_of_length_le (by simpa using h)]; rfl
theorem cutAt_le (s : ByteArray) (p : Nat) (c : UInt8) (h : p ≤ s.size) : p ≤ cutAt s p c ∧ cutAt s p c ≤ s.size := by
  unfold cutAt
  have := untilN_le c (s.data.toList.drop p)
  rw [List.length_drop] at this
  have hl : s.data.toList.length = s.size := by simp
  omega

set_option maxHeartbeats 1000000 in
theorem cut_any (s : ByteArray) (hs : s.size ≤ 140737488355328) (p0 : Nat) (hp0 : p0 ≤ s.size) (c : UInt8) (w : World) :
    Calls Tryz.prog 255 #[.string s, .int .i64 p0, .int .u8 (c.toNat : Int)] w (SameI w (cutAt s p0 c)) := by
  go_enter Tryz.func255, Tryz.ntmps255
  go_wp2
  go_loop [1] (fun i => ∃ p : Nat, i = .int .i64 ↑p ∧ p ≤ s.size ∧ cutAt s p c = cutAt s p0 c) (fun i => s.size - (RowKit.intOf i).toNat)
  case atStart => exact ⟨p0, rfl, hp0, rfl⟩
  case round =>
    obtain ⟨p, rfl, hp, hF⟩ := hrel
    have HF := Lib.hid hF; clear hF
    by_cases hlt : p < s.size
    · have hi1 : (0 : Int) ≤ (p : Int) ∧ (p : Int) < (s.size : Int) := by omega
      by_cases hc : s[p] = c
      · have HC := Lib.hid (cutAt_hit s p c hlt hc)
        have hd : ((s[p].toNat : Int) != (c.toNat : Int)) = false := by rw [hc]; simp
        clear hc
        go_wp2
        go_ret
        exact SameI.mk (by rw [← HF.out, HC.out])
      · have HC := Lib.hid (cutAt_go s p c hlt hc)
        have hd : ((s[p].toNat : Int) != (c.toNat : Int)) = true := by
          rw [bne_iff_ne]; intro e; exact hc (UInt8.toNat_inj.1 (by omega))
        clear hc
        go_wp2
        go_round
        case rel => exact ⟨p + 1, by go_num, by omega, by rw [HC.out, HF.out]⟩
        case measure => simp [RowKit.intOf]; omega
    · have HC := Lib.hid (cutAt_end s p c (by omega))
      go_wp2
      go_ret
      exact SameI.mk (by rw [← HF.out, HC.out])
end Go.Proofs.YthpjneobmmpbnaaGreatDoor
namespace Go.Proofs.YthpjneobmmpbnaaGreatDoor
open Go.RowKit

theorem digF_drop (s : ByteArray) (acc : Int) (k : Nat) (h : k < s.size) (hd : isD s[k] = true) : digF acc (s.data.toList.drop k) = digF (10 * acc + ((s[k].toNat : Int) - 48)) (s.data.toList.drop (k + 1)) := by
  rw [rdrop_at s k h, digF, if_pos hd]
theorem digF_stop (s : ByteArray) (acc : Int) (k : Nat) (h : k < s.size) (hd : isD s[k] = false) : digF acc (s.data.toList.drop k) = none := by
  rw [rdrop_at s k h, digF, if_neg (by rw [hd]; simp)]
theorem pow10_le3 (k : Nat) (h : k < 3) : (10 : Int) ^ k ≤ 100 := by
  match k, h with
  | 0, _ => decide
  | 1, _ => decide
  | 2, _ => decide
set_option maxRecDepth 100000 in
set_option maxHeartbeats 2000000 in
theorem refDec_any (s : ByteArray) (hs : s.size ≤ 140737488355328) (most : Int) (w : World) :
    Calls Tryz.prog 256 #[.string s, .int .i64 most] w (SameI w (decR s.data.toList most)) := by
  have hl : s.data.toList.length = s.size := by simp
  have HT := Lib.hid (show decR s.data.toList most = if s.data.toList.length < 1 ∨ 3 < s.data.toList.length ∨ (1 < s.data.toList.length ∧ s.data.toList.getD 0 0 = 48) then -1
    else match digF 0 s.data.toList with | none => -1 | some n => if most < n then -1 else n from rfl)
  rw [hl] at HT
  clear hl
  by_cases h0 : s.size < 1
  · have HX : Hid (decR s.data.toList most = -1) := Lib.hid (by rw [HT.out, if_pos (.inl h0)])
    go_enter Tryz.func256, Tryz.ntmps256
    go_wp2
    go_ret
    exact SameI.mk HX.out.symm
  by_cases h3 : 3 < s.size
  · have HX : Hid (decR s.data.toList most = -1) := Lib.hid (by rw [HT.out, if_pos (.inr (.inl h3))])
    go_enter Tryz.func256, Tryz.ntmps256
    go_wp2
    go_ret
    exact SameI.mk HX.out.symm
  have h1 : 1 ≤ s.size := by omega
  have h3' : s.size ≤ 3 := by omega
  have hg0 : s.data.toList.getD 0 0 = s[0] := by rw [← get_bang s 0 (by omega)]; exact get_dropU s 0 0
  rw [hg0] at HT
  clear hg0
  have i0 : (0 : Int) ≤ 0 ∧ (0 : Int) < (s.size : Int) := by omega
  by_cases h2 : 1 < s.size ∧ s[0] = 48
  · have HX : Hid (decR s.data.toList most = -1) := Lib.hid (by rw [HT.out, if_pos (.inr (.inr h2))])
    obtain ⟨h4, h5⟩ := h2
    have hd : ((s[0].toNat : Int) == 48) = true := by rw [h5]; rfl
    clear h5 h0 h3
    go_enter Tryz.func256, Tryz.ntmps256
    go_wp2
    go_ret
    exact SameI.mk HX.out.symm
  have HT2 : Hid (decR s.data.toList most = match digF 0 (s.data.toList.drop 0) with | none => -1 | some n => if most < n then -1 else n) := Lib.hid (by rw [HT.out, if_neg (by rintro (h | h | h); exact h0 h; exact h3 h; exact h2 h), List.drop_zero])
  clear HT
  have hcase : (s.size : Int) ≤ 1 ∨ (1 < (s.size : Int) ∧ ((s[0].toNat : Int) == 48) = false) := by
    by_cases h : 1 < s.size
    · right
      refine ⟨by omega, ?_⟩
      rw [beq_eq_false_iff_ne]
      intro e; exact h2 ⟨h, UInt8.toNat_inj.1 (by show s[0].toNat = 48; omega)⟩
    · left; omega
  clear h2 h0 h3
  rcases hcase with hc | ⟨hc, hd⟩
  all_goals
    go_enter Tryz.func256, Tryz.ntmps256
    go_wp2
    go_loop [5, 6] (fun n i => ∃ (k : Nat) (acc : Int), i = .int .i64 ↑k ∧ n = .int .i64 acc ∧ k ≤ s.size ∧ 0 ≤ acc ∧ acc < 10 ^ k ∧ digF 0 (s.data.toList.drop 0) = digF acc (s.data.toList.drop k)) (fun _ i => s.size - (RowKit.intOf i).toNat)
    case atStart => exact ⟨0, 0, rfl, rfl, by omega, by omega, by decide, rfl⟩
    case round =>
      obtain ⟨k, acc, rfl, rfl, hk, ha0, ha1, hF⟩ := hrel
      have HF := Lib.hid hF; clear hF
      by_cases hlt : k < s.size
      · have hi1 : (0 : Int) ≤ (k : Int) ∧ (k : Int) < (s.size : Int) := by omega
        have hp := pow10_le3 k (by omega)
        have hb8 := UInt8.toNat_lt s[k]
        by_cases hdg : isD s[k] = true
        · have HS := Lib.hid (digF_drop s acc k hlt hdg)
          simp only [isD, Bool.and_eq_true, decide_eq_true_eq] at hdg
          obtain ⟨d1, d2⟩ := hdg
          go_wp2
          go_round
          case rel => exact ⟨k + 1, 10 * acc + ((s[k].toNat : Int) - 48), by go_num, by first | rfl | (congr 1; omega), by omega, by omega, by rw [Int.pow_succ]; omega, by rw [HF.out, HS.out]⟩
          case measure => simp [RowKit.intOf]; omega
        · have hdf : isD s[k] = false := by simpa using hdg
          have HS := Lib.hid (digF_stop s acc k hlt hdf)
          have HX : Hid (decR s.data.toList most = -1) := Lib.hid (by rw [HT2.out, HF.out, HS.out])
          have hor : s[k].toNat < 48 ∨ 57 < s[k].toNat := by
            simp only [isD, Bool.and_eq_true, decide_eq_true_eq] at hdg; omega
          clear hdg hdf
          rcases hor with d1 | d1
          · go_wp2
            go_ret
            exact SameI.mk HX.out.symm
          · go_wp2
            go_ret
            exact SameI.mk HX.out.symm
      · have HX : Hid (decR s.data.toList most = if most < acc then -1 else acc) := Lib.hid (by
          have hn : s.data.toList.drop k = [] := List.drop_of_length_le (by simp; omega)
          rw [HT2.out, HF.out, hn, digF])
        by_cases hma : most < acc
        · rw [if_pos hma] at HX
          go_wp2
          go_ret
          exact SameI.mk HX.out.symm
        · rw [if_neg hma] at HX
          go_wp2
          go_ret
          exact SameI.mk HX.out.symm
end Go.Proofs.YthpjneobmmpbnaaGreatDoor
namespace Go.Proofs.YthpjneobmmpbnaaGreatDoor
open Go.RowKit

def SameA (w : World) (o : Option Int) (e : Ending) (w' : World) : Prop := e = .returned (.tuple #[.int .u32 (o.getD 0), .bool o.isSome]) ∧ w = w'
theorem SameA.no {w : World} {o : Option Int} (e : o = none) : SameA w o (.returned (.tuple #[.int .u32 0, .bool false])) w := ⟨by rw [e]; rfl, rfl⟩
theorem SameA.yes {w : World} {o : Option Int} {a : Int} (e : o = some a) : SameA w o (.returned (.tuple #[.int .u32 a, .bool true])) w := ⟨by rw [e]; rfl, rfl⟩
theorem extract_list (s : ByteArray) (a b : Nat) : (s.extract a b).data.toList = (s.data.toList.drop a).take (b - a) := by
  simp [ByteArray.data_extract, Array.toList_extract, List.extract_eq_take_drop]
theorem or_st' (acc n : Int) (h0 : 0 ≤ acc) (h1 : acc < 16777216) (h2 : 0 ≤ n) (h3 : n ≤ 255) : bits .or .u32 (acc * 256) n = stA acc n := by
  rw [← or_st acc n h0 h1 h2 h3, Int.emod_eq_of_lt (by omega) (by omega)]
def AdrRel (s : ByteArray) (x f k : Value) : Prop := ∃ (j p : Nat) (acc : Int), x = .int .u32 acc ∧ f = .int .i64 ↑p ∧ k = .int .i64 ↑j ∧ j ≤ 4 ∧ 0 ≤ acc ∧ acc < 256 ^ j ∧
  ((j < 4 ∧ p ≤ s.size ∧ adr s = addrF stA (3 - j) acc (s.data.toList.drop p)) ∨ (j = 4 ∧ adr s = some acc))
theorem addrF_succ (st : Int → Int → Int) (k : Nat) (acc : Int) (l : List UInt8) : addrF st (k + 1) acc l = if decR (l.take (untilN 46 l)) 255 < 0 ∨ untilN 46 l = l.length then none else addrF st k (st acc (decR (l.take (untilN 46 l)) 255)) (l.drop (untilN 46 l + 1)) := rfl
theorem adr_last (s : ByteArray) (p : Nat) (acc : Int) : addrF stA 0 acc (s.data.toList.drop p) =
    if decR (s.extract p (cutAt s p 46)).data.toList 255 < 0 ∨ cutAt s p 46 - p ≠ s.size - p then none else some (stA acc (decR (s.extract p (cutAt s p 46)).data.toList 255)) := by
  rw [extract_list]; unfold cutAt addrF
  rw [Nat.add_sub_cancel_left, List.length_drop]
  simp
theorem adr_next (s : ByteArray) (p m : Nat) (acc : Int) : addrF stA (m + 1) acc (s.data.toList.drop p) =
    if decR (s.extract p (cutAt s p 46)).data.toList 255 < 0 ∨ cutAt s p 46 - p = s.size - p then none else addrF stA m (stA acc (decR (s.extract p (cutAt s p 46)).data.toList 255)) (s.data.toList.drop (cutAt s p 46 + 1)) := by
  rw [extract_list, addrF_succ]; unfold cutAt
  rw [Nat.add_sub_cancel_left, List.length_drop, List.drop_drop]
  simp [Nat.add_assoc]

set_option maxRecDepth 100000 in
set_option maxHeartbeats 4000000 in
theorem refAdr_any (s : ByteArray) (hs : s.size ≤ 140737488355327) (w : World) :
    Calls Tryz.prog 245 #[.string s] w (SameA w (adr s)) := by
  have hA : adr s = addrF stA 3 0 (s.data.toList.drop 0) := by rw [List.drop_zero]; exact addr_eq stA _
  have HA := Lib.hid hA; clear hA
  go_enter Tryz.func245, Tryz.ntmps245
  go_wp2
  go_loop [4, 5, 6] (AdrRel s) (fun _ _ k => 4 - (RowKit.intOf k).toNat)
  case atStart => exact ⟨0, 0, 0, rfl, rfl, rfl, by omega, by omega, by decide, .inl ⟨by omega, by omega, HA.out⟩⟩
  case round =>
    obtain ⟨j, p, acc, rfl, rfl, rfl, hj, ha0, ha1, hF⟩ := hrel
    by_cases hlt : j < 4
    · obtain ⟨hp, hF⟩ : p ≤ s.size ∧ adr s = addrF stA (3 - j) acc (s.data.toList.drop p) := by
        rcases hF with h | h
        · exact h.2
        · omega
      have HF := Lib.hid hF; clear hF
      have hpw := pow_le3 j hlt
      have hq := cutAt_le s p 46 hp
      have cC := fun W => cut_any s (by omega) p hp 46 W
      rw [show (((46 : UInt8).toNat : Nat) : Int) = 46 from rfl] at cC
      have hxs : (s.extract p (cutAt s p 46)).size ≤ 140737488355328 := by rw [ByteArray.size_extract]; omega
      have cD := fun W => refDec_any (s.extract p (cutAt s p 46)) hxs 255 W
      have hr := decR_range (s.extract p (cutAt s p 46)).data.toList 255 (by omega)
      have HL := Lib.hid (adr_last s p acc)
      have HN := Lib.hid (fun m => adr_next s p m acc)
      clear hxs
      generalize cutAt s p 46 = q at *
      obtain ⟨q1, q2⟩ := hq
      generalize hx : s.extract p q = x at *
      have HX := Lib.hid hx; clear hx
      generalize decR x.data.toList 255 = n at *
      by_cases hn : n < 0
      · have HZ : Hid (adr s = none) := Lib.hid (by
          rw [HF.out]
          by_cases h3 : j = 3
          · subst h3; rw [HL.out, if_pos (.inl hn)]
          · rw [show 3 - j = (2 - j) + 1 by omega, HN.out, if_pos (.inl hn)])
        go_wp2_with fail
        refine (cC _).mono ?_
        rintro e w1 ⟨rfl, rfl⟩
        go_wp2_with fail
        rw [HX.out]
        refine (cD _).mono ?_
        rintro e w1 ⟨rfl, rfl⟩
        go_wp2
        go_ret2
        exact SameA.no HZ.out
      · have hn0 : 0 ≤ n := by omega
        obtain ⟨_, hn9⟩ := hr
        clear hn
        by_cases h3 : j = 3
        · subst h3
          by_cases hqs : q = s.size
          · have HZ : Hid (adr s = some (stA acc n)) := Lib.hid (by rw [HF.out, HL.out, if_neg (by rintro (h | h); omega; omega)])
            have hd : ((q : Int) == (s.size : Int)) = true := by simp; omega
            clear hqs hF HN
            go_wp2_with fail
            refine (cC _).mono ?_
            rintro e w1 ⟨rfl, rfl⟩
            go_wp2_with fail
            rw [HX.out]
            refine (cD _).mono ?_
            rintro e w1 ⟨rfl, rfl⟩
            go_wp2
            exact ⟨⟨4, q + 1, stA acc n, by rw [or_st' acc n ha0 (by omega) hn0 hn9], by go_num, rfl, by omega, by unfold stA; omega, by unfold stA; rw [Int.pow_succ]; omega, .inr ⟨rfl, HZ.out⟩⟩, by simp [RowKit.intOf]⟩
          · have HZ : Hid (adr s = none) := Lib.hid (by rw [HF.out, HL.out, if_pos (.inr (by omega))])
            have hd : ((q : Int) == (s.size : Int)) = false := by simp; omega
            clear hqs hF HN
            go_wp2_with fail
            refine (cC _).mono ?_
            rintro e w1 ⟨rfl, rfl⟩
            go_wp2_with fail
            rw [HX.out]
            refine (cD _).mono ?_
            rintro e w1 ⟨rfl, rfl⟩
            go_wp2
            go_ret2
            exact SameA.no HZ.out
        · have hj3 : ((j : Int) == 3) = false := by simp; omega
          by_cases hqs : q = s.size
          · have HZ : Hid (adr s = none) := Lib.hid (by rw [HF.out, show 3 - j = (2 - j) + 1 by omega, HN.out, if_pos (.inr (by omega))])
            have hd : ((q : Int) == (s.size : Int)) = true := by simp; omega
            clear hqs HN h3
            go_wp2_with fail
            refine (cC _).mono ?_
            rintro e w1 ⟨rfl, rfl⟩
            go_wp2_with fail
            rw [HX.out]
            refine (cD _).mono ?_
            rintro e w1 ⟨rfl, rfl⟩
            go_wp2
            go_ret2
            exact SameA.no HZ.out
          · have HZ : Hid (adr s = addrF stA (3 - (j + 1)) (stA acc n) (s.data.toList.drop (q + 1))) := Lib.hid (by rw [HF.out, show 3 - j = (2 - j) + 1 by omega, HN.out, if_neg (by rintro (h | h); omega; omega)]; congr 1; omega)
            have hd : ((q : Int) == (s.size : Int)) = false := by simp; omega
            have hql : q + 1 ≤ s.size := by omega
            have hj4 : j + 1 < 4 := by omega
            clear hqs HN h3
            go_wp2_with fail
            refine (cC _).mono ?_
            rintro e w1 ⟨rfl, rfl⟩
            go_wp2_with fail
            rw [HX.out]
            refine (cD _).mono ?_
            rintro e w1 ⟨rfl, rfl⟩
            go_wp2
            exact ⟨⟨j + 1, q + 1, stA acc n, by rw [or_st' acc n ha0 (by omega) hn0 hn9], by go_num, by go_num, by omega, by unfold stA; omega, by unfold stA; rw [Int.pow_succ]; omega, .inl ⟨hj4, hql, HZ.out⟩⟩, by simp [RowKit.intOf]; omega⟩
    · have HZ : Hid (adr s = some acc) := Lib.hid (by rcases hF with h | h; omega; exact h.2)
      clear hF
      go_wp2
      go_ret2
      exact SameA.yes HZ.out

theorem cutAt_zero (s : ByteArray) (c : UInt8) : cutAt s 0 c = untilN c s.data.toList := by unfold cutAt; simp

end Go.Proofs.YthpjneobmmpbnaaGreatDoor
namespace Go.Proofs.YthpjneobmmpbnaaGreatDoor
open Go.RowKit

set_option maxRecDepth 100000 in
set_option maxHeartbeats 2000000 in
theorem refDigest_any (s : ByteArray) (hs : s.size ≤ 140737488355327) (w : World) :
    Calls Tryz.prog 244 #[.string s] w (SameB w (textOk s && digestP s)) := by
  have hq := cutAt_le s 0 58 (by omega)
  have cC := fun W => cut_any s (by omega) 0 (by omega) 58 W
  rw [show (((58 : UInt8).toNat : Nat) : Int) = 58 from rfl] at cC
  have cT := fun W => refText_any s (by omega) W
  have HD := Lib.hid (show digestP s = (decide (0 < cutAt s 0 58) && decide (cutAt s 0 58 < s.size)) by rw [cutAt_zero]; rfl)
  generalize cutAt s 0 58 = q at *
  cases ht : textOk s with
  | false =>
    rw [ht] at cT
    have HT := Lib.hid ht; clear ht
    go_enter Tryz.func244, Tryz.ntmps244
    go_wp2_with fail
    refine (cC _).mono ?_
    rintro e w1 ⟨rfl, rfl⟩
    go_wp2_with fail
    refine (cT _).mono ?_
    rintro e w1 ⟨rfl, rfl⟩
    go_wp2
    go_ret
    exact SameB.mk rfl
  | true =>
    rw [ht] at cT
    have HT := Lib.hid ht; clear ht
    by_cases h0 : 0 < q
    · by_cases h1 : q < s.size
      all_goals
        go_enter Tryz.func244, Tryz.ntmps244
        go_wp2_with fail
        refine (cC _).mono ?_
        rintro e w1 ⟨rfl, rfl⟩
        go_wp2_with fail
        refine (cT _).mono ?_
        rintro e w1 ⟨rfl, rfl⟩
        go_wp2
        go_ret
        exact SameB.mk (by rw [HD.out]; simp [h0, h1])
    · go_enter Tryz.func244, Tryz.ntmps244
      go_wp2_with fail
      refine (cC _).mono ?_
      rintro e w1 ⟨rfl, rfl⟩
      go_wp2_with fail
      refine (cT _).mono ?_
      rintro e w1 ⟨rfl, rfl⟩
      go_wp2
      go_ret
      exact SameB.mk (by rw [HD.out]; simp [h0])

set_option maxRecDepth 100000 in
set_option maxHeartbeats 2000000 in
theorem refIdent_any (s t : ByteArray) (ht : t.size ≤ 140737488355327) (w : World) :
    Calls Tryz.prog 231 #[.agg #[.string s, .string t]] w (RetB w (identP (s, t))) := by
  have HR := Lib.hid (identP_eq s t)
  have hb0 : Below w.heap.size w (w.alloc (.cells #[.string s, .string t] 108)) := (Below.refl _ w).alloc (Nat.le_refl _) _
  have f1 := str_digest s; have f2 := str_ip s; have f3 := str_super s
  by_cases e1 : s = sDigest
  · have HV : Hid (identP (s, t) = (textOk t && digestP t)) := Lib.hid (by rw [HR.out, if_pos e1])
    rw [decide_eq_true e1] at f1
    have cD := fun W => refDigest_any t ht W
    clear e1 f2 f3 HR
    generalize (textOk t && digestP t) = b at *
    go_enter Tryz.func231, Tryz.ntmps231
    go_wp2_with fail
    refine (cD _).mono ?_
    rintro e w1 ⟨rfl, rfl⟩
    go_wp2
    go_ret
    exact RetB.mk hb0 HV.out.symm
  rw [decide_eq_false e1] at f1
  by_cases e2 : s = sIp
  · have HV : Hid (identP (s, t) = (adr t).isSome) := Lib.hid (by rw [HR.out, if_neg e1, if_pos e2])
    rw [decide_eq_true e2] at f2
    have cD := fun W => refAdr_any t ht W
    unfold SameA at cD
    clear e1 e2 f3 HR
    generalize (adr t).isSome = b at *
    generalize (adr t).getD 0 = a at *
    go_enter Tryz.func231, Tryz.ntmps231
    go_wp2_with fail
    refine (cD _).mono ?_
    rintro e w1 ⟨rfl, rfl⟩
    go_wp2
    go_ret
    exact RetB.mk hb0 HV.out.symm
  rw [decide_eq_false e2] at f2
  by_cases e3 : s = sSuper
  · have HV : Hid (identP (s, t) = textOk t) := Lib.hid (by rw [HR.out, if_neg e1, if_neg e2, decide_eq_true e3, Bool.true_and])
    rw [decide_eq_true e3] at f3
    have cD := fun W => refText_any t (by omega) W
    clear e1 e2 e3 HR
    generalize textOk t = b at *
    go_enter Tryz.func231, Tryz.ntmps231
    go_wp2_with fail
    refine (cD _).mono ?_
    rintro e w1 ⟨rfl, rfl⟩
    go_wp2
    go_ret
    exact RetB.mk hb0 HV.out.symm
  · have HV : Hid (identP (s, t) = false) := Lib.hid (by rw [HR.out, if_neg e1, if_neg e2, decide_eq_false e3, Bool.false_and])
    rw [decide_eq_false e3] at f3
    clear e1 e2 e3 HR
    go_enter Tryz.func231, Tryz.ntmps231
    go_wp2
    go_ret
    exact RetB.mk hb0 HV.out.symm

end Go.Proofs.YthpjneobmmpbnaaGreatDoor
