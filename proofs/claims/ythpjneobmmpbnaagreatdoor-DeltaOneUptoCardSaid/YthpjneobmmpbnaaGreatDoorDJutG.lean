/- The walks of a Reader's done, Fail, Left, next, number, Int, Long, size, bytes, Text, Count, Buffer. -/
import Derived.Test.YthpjneobmmpbnaaGreatDoorDJutW2
import Derived.Laws.Bits64b
import Derived.Shelf.Unicode.ValidAny
import Derived.Lib.BufferRead
import Derived.Test.YthpjneobmmpbnaaGreatDoorDAclDec
import Derived.Defers
import Derived.Recover
import Derived.Lib.Builder
namespace Go.Proofs.YthpjneobmmpbnaaGreatDoor
open Go.RowKit Go.MapKept Go.Maps
section
variable {w : World} {rb n c p : Nat} {A : Option Addr} {l : Bs}
theorem Rd.c0 (h : Rd w rb A n c l p) : w.cell? ⟨rb, 0, none⟩ = some (.slice A n c) := by rw [cellH h.cell]; rfl
theorem Rd.c1 (h : Rd w rb A n c l p) : w.cell? ⟨rb, 1, none⟩ = some (.int .i64 (p : Int)) := by rw [cellH h.cell]; rfl
theorem Rd.c2 (h : Rd w rb A n c l p) : w.cell? ⟨rb, 2, none⟩ = some (.bool false) := by rw [cellH h.cell]; rfl
theorem Rd.f1 (h : Rd w rb A n c l p) (o : Nat) : w.frozen? ⟨rb, o, none⟩ = false := by simp [World.frozen?, h.cell]
theorem Rd.len (h : Rd w rb A n c l p) : l.length = n := h.sl.len
theorem Rd.drewN (h : Rd w rb A n c l p) (q : Nat) : Rd (w.drewN q) rb A n c l p := ⟨h.cell, h.sl, h.at_, h.small, h.cap, h.nil⟩
theorem Rd.step (h : Rd w rb A n c l p) (k : Nat) {q : Nat} (hq : q ≤ n) : Rd ((w.drewN k).setCell ⟨rb, 1, none⟩ (.int .i64 (q : Int))) rb A n c l q ∧ Fr [rb] w ((w.drewN k).setCell ⟨rb, 1, none⟩ (.int .i64 (q : Int))) := by
  have hf : Fr [rb] w ((w.drewN k).setCell ⟨rb, 1, none⟩ (.int .i64 (q : Int))) := (Fr.of_below (drewN_self w k)).setJ (by simp) 1 _
  exact ⟨h.go hf (heap_setJ (w := w.drewN k) h.cell _) hq, hf⟩
end
theorem Fr.drewJ {own : List Nat} (w : World) (k : Nat) : Fr own w (w.drewN k) := Fr.of_below (drewN_self w k)
theorem Fr.transJ {rb : Nat} {w w1 w2 : World} (h : Fr [rb] w w1) (k : Fr [rb] w1 w2) : Fr [rb] w w2 := h.trans k (fun _ hg => .inl hg)
set_option maxRecDepth 100000 in
theorem done_any {w : World} {rb n c p : Nat} {A : Option Addr} {l : Bs} (h : Rd w rb A n c l p) :
    Calls Tryz.prog 112 #[.pointer (some ⟨rb, 0, none⟩)] w fun e w' => e = .returned (.bool false) ∧ w = w' := by
  have k2 := h.c2
  clear h
  go_enter Tryz.func112, Tryz.ntmps112
  go_wp2_with fail
  go_ret
  exact ⟨rfl, rfl⟩
set_option maxRecDepth 100000 in
theorem fail_any {w : World} {rb n c p : Nat} {A : Option Addr} {l : Bs} (k : Int) (h : Rd w rb A n c l p) (hk : k ≠ 0) :
    Calls Tryz.prog 65 #[.pointer (some ⟨rb, 0, none⟩), .int .i64 k] w fun e w' => e = .panicked [failV rb k] ∧ w = w' := by
  have HD := Lib.hid (done_any h)
  have hk2 : (k != 0) = true := by simpa using hk
  have hp : ∀ (v : Value) (w : World), (Instr.panic (.iface 140 v)).run Tryz.prog w = .halt (.panic (.iface 140 v)) w := fun v w => rfl
  clear h
  go_enter Tryz.func65, Tryz.ntmps65
  go_wp2_with fail
  refine HD.out.mono ?_
  rintro e w1 ⟨rfl, rfl⟩
  go_wp2_with fail
  exact ⟨rfl, rfl, rfl⟩
set_option maxRecDepth 100000 in
theorem left_any {w : World} {rb n c p : Nat} {A : Option Addr} {l : Bs} (h : Rd w rb A n c l p) :
    Calls Tryz.prog 171 #[.pointer (some ⟨rb, 0, none⟩)] w fun e w' => e = .returned (.int .i64 ((n : Int) - (p : Int))) ∧ ∃ q, w' = w.drewN q := by
  have HD := Lib.hid (done_any h)
  have k0 := h.c0; have k1 := h.c1
  have hs := h.small; have ha := h.at_
  have hw : IntKind.i64.wrap ((n : Int) - (p : Int)) = (n : Int) - (p : Int) := IntWalk.i64_in _ (by omega)
  clear h
  go_enter Tryz.func171, Tryz.ntmps171
  go_wp2_with fail
  refine HD.out.mono ?_
  rintro e w1 ⟨rfl, rfl⟩
  go_wp2_with fail
  go_quiet (fail)
  go_wp2_with fail
  go_ret
  exact ⟨rfl, nq, rfl⟩
theorem slice_mid (A : Option Addr) (n c p m : Nat) (hm : p + m ≤ n) (hc : n ≤ c) (w : World) : (Instr.sliceAt 22 (.slice A n c) (some (.int .i64 ↑p)) (some (.int .i64 (↑p + ↑m))) none).run Tryz.prog w = .ok (.slice (if c = p then A else A.map (·.add p)) m (c - p)) w := by
  have h0 : (0 : Int) ≤ ↑p := by omega
  have h1 : ((p : Nat) : Int) ≤ ↑p + ↑m := by omega
  have h2 : ((p : Nat) : Int) + ↑m ≤ ↑c := by omega
  have h3 : ((p : Nat) : Int) + ↑m ≤ ↑n := by omega
  go_simp
  omega
/-- bytes that lie below the Reader -/
def BufAt (rb : Nat) (b : Bs) (u : Value) (w : World) : Prop := ∃ A c, u = .slice A b.length c ∧ Sl w rb enc8 1 A b.length b ∧ (A = none → b.length = 0 ∧ c = 0) ∧ b.length ≤ c
theorem BufAt.fr {w w' : World} {rb : Nat} {b : Bs} {u : Value} (h : BufAt rb b u w) (hf : Fr [rb] w w') (hb : rb < w.heap.size) : BufAt rb b u w' := by
  obtain ⟨A, c, e, hs, hn, hc⟩ := h
  exact ⟨A, c, e, hs.fr hf (Nat.le_of_lt hb) (fun g hg => by rw [List.mem_singleton.1 hg]; exact Nat.le_refl _), hn, hc⟩
theorem BufAt.mid {w : World} {rb n c p m : Nat} {A : Option Addr} {l : Bs} (h : Rd w rb A n c l p) (hm : p + m ≤ n) : BufAt rb ((l.drop p).take m) (.slice (if c = p then A else A.map (·.add p)) m (c - p)) w ∧ ((l.drop p).take m).length = m := by
  have hl := h.len
  have hlen : ((l.drop p).take m).length = m := by rw [List.length_take, List.length_drop]; omega
  refine ⟨⟨if c = p then A else A.map (·.add p), c - p, by rw [hlen], ?_, fun e => ?_, by rw [hlen]; have := h.cap; omega⟩, hlen⟩
  · rw [hlen]
    refine ⟨hlen, fun h0 => ?_⟩
    have hc := h.cap
    rw [if_neg (by omega)]
    obtain ⟨b, off, e, hb, hcl⟩ := h.sl.2 (by omega)
    refine ⟨b, off + p, by rw [e]; simp only [Option.map_some, Addr.add]; by_cases h0 : p = 0 <;> simp [h0], hb, fun j hj i u hu => ?_⟩
    have e1 : ((l.drop p).take m)[j]! = l[p + j]! := by
      rw [getElem!_pos _ j (by rw [hlen]; exact hj), getElem!_pos l (p + j) (by omega)]; simp
    have := hcl (p + j) (by omega) i u (by rw [← hu, e1])
    rw [← this]; congr 2; omega
  · have hn : A = none := by
      by_cases h1 : c = p
      · rw [if_pos h1] at e; exact e
      · rw [if_neg h1] at e; simpa using e
    obtain ⟨h1, h2⟩ := h.nil hn
    rw [hlen]; omega
set_option maxRecDepth 100000 in
theorem next_any {w : World} {rb n c p : Nat} {A : Option Addr} {l : Bs} (m : Nat) (h : Rd w rb A n c l p) (hm9 : m ≤ 1048576) :
    Calls Tryz.prog 114 #[.pointer (some ⟨rb, 0, none⟩), .int .i64 (m : Int)] w (RdOut rb A n c l w (takeP l m p) (fun b u w' => BufAt rb b u w')) := by
  have HL := Lib.hid (left_any h)
  have HR := Lib.hid h
  have k0 := h.c0; have k1 := h.c1; have f1 := h.f1 1
  have hs := h.small; have ha := h.at_; have hc := h.cap
  have hl := h.len
  by_cases hm : p + m ≤ n
  · have hm2 : ¬ ((n : Int) - (p : Int)) < (m : Int) := by omega
    have hw : IntKind.i64.wrap ((p : Int) + (m : Int)) = (p : Int) + (m : Int) := IntWalk.i64_in _ (by omega)
    have hsl := slice_mid A n c p m hm hc
    have hmid := BufAt.mid h hm
    have HT := Lib.hid (show takeP l m p = .ok ((l.drop p).take m, p + m) by unfold takeP; rw [if_neg (by omega)])
    have HQ := Lib.hid hm
    clear h hm
    generalize (if c = p then A else A.map (·.add p)) = A2 at hmid hsl
    generalize c - p = c2 at hmid hsl
    have HM := Lib.hid hmid
    clear hmid
    go_enter Tryz.func114, Tryz.ntmps114
    go_wp2_with fail
    refine HL.out.mono ?_
    rintro e w1 ⟨rfl, q1, rfl⟩
    go_wp2_with fail
    go_quiet (fail)
    go_wp2_with fail
    go_ret
    have hst := HR.out.step (q1 + nq) HQ.out
    have hb := HM.out.1.fr hst.2 HR.out.lt
    rw [HT.out]
    rw [← Int.natCast_add]
    exact ⟨⟨_, rfl, hb⟩, hst.1, hst.2⟩
  · have hm2 : ((n : Int) - (p : Int)) < (m : Int) := by omega
    have HT := Lib.hid (show takeP l m p = .error (p, 20) by unfold takeP; rw [if_pos (by omega)])
    clear h hm
    go_enter Tryz.func114, Tryz.ntmps114
    go_wp2_with fail
    refine HL.out.mono ?_
    rintro e w1 ⟨rfl, q1, rfl⟩
    go_wp2_with fail
    refine (fail_any 20 (HR.out.drewN q1) (by decide)).mono ?_
    rintro e w2 ⟨rfl, rfl⟩
    refine ⟨rfl, ?_⟩
    rw [HT.out]
    exact ⟨rfl, HR.out.drewN q1, Fr.drewJ _ _⟩
/-- the number of some bytes -/
theorem beN_snoc (a : Bs) (b : UInt8) : beN (a ++ [b]) = beN a * 256 + b.toNat := by simp [beN]
theorem beN_lt : ∀ (l : Bs), beN l < 256 ^ l.length := by
  have go : ∀ (n : Nat) (l : Bs), l.length = n → beN l < 256 ^ n := by
    intro n
    induction n with
    | zero => intro l h; rw [List.eq_nil_of_length_eq_zero h]; simp [beN]
    | succ n ih =>
      intro l h
      have hne : l ≠ [] := fun e => by rw [e] at h; simp at h
      have e := List.dropLast_concat_getLast hne
      rw [← e, beN_snoc, Nat.pow_succ]
      have h1 := ih l.dropLast (by rw [List.length_dropLast, h]; omega)
      have h2 := (l.getLast hne).toNat_lt
      omega
  exact fun l => go _ l rfl
theorem pow_le7 (k : Nat) (h : k ≤ 7) : 256 ^ k ≤ 72057594037927936 := by
  have := Nat.pow_le_pow_right (show 0 < 256 by decide) h
  exact this
theorem or_beN (x b : Nat) (hx : x < 72057594037927936) (hb : b < 256) : bits .or .u64 (((x * 256 : Nat)) : Int) (b : Int) = ((x * 256 + b : Nat) : Int) := by
  rw [bits_or_u64_nat _ _ (by omega) (by omega)]
  have h := Nat.shiftLeft_add_eq_or_of_lt (i := 8) (b := b) (by omega) x
  rw [Nat.shiftLeft_eq, show (2 : Nat) ^ 8 = 256 from rfl] at h
  rw [h]
def NbR (l : Bs) (w : World) (x i : Value) (wr : World) : Prop := ∃ k : Nat, x = .int .u64 ((beN (l.take k) : Nat) : Int) ∧ i = .int .i64 (k : Int) ∧ k ≤ l.length ∧ ∃ q, wr = w.drewN q
set_option maxRecDepth 100000 in
theorem beNum_any {B m c : Nat} {A : Option Addr} {l : Bs} (w : World) (h : Sl w B enc8 1 A m l) (hm : m ≤ 8) :
    Calls Tryz.prog 113 #[.slice A m c] w fun e w' => e = .returned (.int .u64 ((beN l : Nat) : Int)) ∧ ∃ q, w' = w.drewN q := by
  have HS := Lib.hid h
  have HL := Lib.hid h.len
  clear h
  go_enter Tryz.func113, Tryz.ntmps113
  go_wp2_with fail
  go_loopw [3, 8] (fun x i wr => NbR l w x i wr) (fun _ i _ => m - (RowKit.intOf i).toNat)
  case atStart => exact ⟨0, rfl, rfl, Nat.zero_le _, 0, rfl⟩
  case round =>
    obtain ⟨k, rfl, rfl, hk, q, rfl⟩ := hrel
    by_cases hkm : k < m
    · have hlt : (k : Int) < (m : Int) := by omega
      obtain ⟨b, off, rfl, _, x0⟩ := HS.out.at8 hkm
      have hk1 : k < l.length := by rw [HL.out]; exact hkm
      have hst : beN (l.take (k + 1)) = beN (l.take k) * 256 + l[k]!.toNat := by
        rw [List.take_succ_eq_append_getElem hk1, beN_snoc, getElem!_pos l k hk1]
      have hx : beN (l.take k) < 72057594037927936 := Nat.lt_of_lt_of_le (beN_lt _) (pow_le7 _ (by rw [List.length_take]; omega))
      have hby := l[k]!.toNat_lt
      have hor := or_beN (beN (l.take k)) l[k]!.toNat hx hby
      rw [← hst] at hor
      generalize l[k]!.toNat = y at *
      generalize hX : beN (l.take k) = X at *
      have HST := Lib.hid hst
      clear hst
      generalize hY : beN (l.take (k + 1)) = Y at *
      have HY := Lib.hid hY
      clear hY
      have HX := Lib.hid hX
      clear hX
      go_wp2_with fail
      go_roundw
      case rel => exact ⟨k + 1, by rw [HY.out]; exact congrArg _ hor, by go_num, by omega, q, rfl⟩
      case measure => simp [RowKit.intOf]; omega
    · have hlt : ¬ (k : Int) < (m : Int) := by omega
      have HX := Lib.hid (show l.take k = l from List.take_of_length_le (by rw [HL.out]; omega))
      go_wp2_with fail
      go_ret
      rw [HX.out]
      exact ⟨rfl, q, rfl⟩
theorem takeP_len {l : Bs} {n p : Nat} {b : Bs} {q : Nat} (h : takeP l n p = .ok (b, q)) : b.length = n := by
  unfold takeP at h
  by_cases h1 : l.length - p < n
  · rw [if_pos h1] at h; cases h
  · rw [if_neg h1] at h
    injection h with h
    injection h with h _
    rw [← h, List.length_take, List.length_drop]; omega
theorem takeP_at {l : Bs} {n p : Nat} {b : Bs} {q : Nat} (h : takeP l n p = .ok (b, q)) : q = p + n := by
  unfold takeP at h
  by_cases h1 : l.length - p < n
  · rw [if_pos h1] at h; cases h
  · rw [if_neg h1] at h
    injection h with h
    injection h with _ h
    exact h.symm
theorem next_at {w : World} {rb n c p : Nat} {A : Option Addr} {l : Bs} (mi : Int) (m : Nat) (hmi : mi = (m : Int)) (h : Rd w rb A n c l p) (hm9 : m ≤ 1048576) :
    Calls Tryz.prog 114 #[.pointer (some ⟨rb, 0, none⟩), .int .i64 mi] w (RdOut rb A n c l w (takeP l m p) (fun b u w' => BufAt rb b u w')) := by
  subst hmi; exact next_any m h hm9
set_option maxRecDepth 100000 in
theorem rInt_any {w : World} {rb n c p : Nat} {A : Option Addr} {l : Bs} (h : Rd w rb A n c l p) :
    Calls Tryz.prog 64 #[.pointer (some ⟨rb, 0, none⟩)] w (RdOut rb A n c l w (intP l p) (fun v u _ => u = .int .i32 v)) := by
  have HD := Lib.hid (done_any h)
  have hN := next_at 4 4 rfl h (by decide)
  clear h
  rcases hT : takeP l 4 p with ⟨q, k⟩ | ⟨b, q⟩
  · have HG := Lib.hid (show intP l p = .error (q, k) by unfold intP; rw [hT]; rfl)
    rw [hT] at hN
    have HN := Lib.hid hN
    clear hN hT
    go_enter Tryz.func64, Tryz.ntmps64
    go_wp2_with fail
    refine HD.out.mono ?_
    rintro e w1 ⟨rfl, rfl⟩
    go_wp2_with fail
    refine HN.out.mono ?_
    rintro e w2 ⟨rfl, hr, hf⟩
    refine ⟨rfl, ?_⟩
    rw [HG.out]
    exact ⟨rfl, hr, hf⟩
  · have HG := Lib.hid (show intP l p = .ok (i32N (beN b), q) by unfold intP; rw [hT]; rfl)
    have HB := Lib.hid (takeP_len hT)
    rw [hT] at hN
    have HN := Lib.hid hN
    clear hN hT
    go_enter Tryz.func64, Tryz.ntmps64
    go_wp2_with fail
    refine HD.out.mono ?_
    rintro e w1 ⟨rfl, rfl⟩
    go_wp2_with fail
    refine HN.out.mono ?_
    rintro e w2 ⟨⟨u, rfl, A2, c2, rfl, hs, hn, _⟩, hr, hf⟩
    have HR := Lib.hid hr; have HF := Lib.hid hf
    have hM := beNum_any (c := c2) w2 hs (by rw [HB.out]; decide)
    have HM := Lib.hid hM
    have hlt := beN_lt b
    rw [HB.out] at hlt
    have HC := Lib.hid (show wrap32 (((beN b : Nat) : Int) % 4294967296) = i32N (beN b) by unfold i32N wrap32; split <;> omega)
    clear hr hf hs hn hM hlt
    go_wp2_with fail
    refine HM.out.mono ?_
    rintro e w3 ⟨rfl, q3, rfl⟩
    go_wp2_with fail
    go_ret
    rw [HG.out]
    exact ⟨⟨_, rfl, congrArg (Value.int .i32) HC.out⟩, HR.out.drewN q3, HF.out.transJ (Fr.drewJ _ _)⟩
set_option maxRecDepth 100000 in
theorem rLong_any {w : World} {rb n c p : Nat} {A : Option Addr} {l : Bs} (h : Rd w rb A n c l p) :
    Calls Tryz.prog 63 #[.pointer (some ⟨rb, 0, none⟩)] w (RdOut rb A n c l w (longP l p) (fun v u _ => u = .int .i64 v)) := by
  have HD := Lib.hid (done_any h)
  have hN := next_at 8 8 rfl h (by decide)
  clear h
  rcases hT : takeP l 8 p with ⟨q, k⟩ | ⟨b, q⟩
  · have HG := Lib.hid (show longP l p = .error (q, k) by unfold longP; rw [hT]; rfl)
    rw [hT] at hN
    have HN := Lib.hid hN
    clear hN hT
    go_enter Tryz.func63, Tryz.ntmps63
    go_wp2_with fail
    refine HD.out.mono ?_
    rintro e w1 ⟨rfl, rfl⟩
    go_wp2_with fail
    refine HN.out.mono ?_
    rintro e w2 ⟨rfl, hr, hf⟩
    refine ⟨rfl, ?_⟩
    rw [HG.out]
    exact ⟨rfl, hr, hf⟩
  · have HG := Lib.hid (show longP l p = .ok (i64N (beN b), q) by unfold longP; rw [hT]; rfl)
    have HB := Lib.hid (takeP_len hT)
    rw [hT] at hN
    have HN := Lib.hid hN
    clear hN hT
    go_enter Tryz.func63, Tryz.ntmps63
    go_wp2_with fail
    refine HD.out.mono ?_
    rintro e w1 ⟨rfl, rfl⟩
    go_wp2_with fail
    refine HN.out.mono ?_
    rintro e w2 ⟨⟨u, rfl, A2, c2, rfl, hs, hn, _⟩, hr, hf⟩
    have HR := Lib.hid hr; have HF := Lib.hid hf
    have hM := beNum_any (c := c2) w2 hs (by rw [HB.out]; decide)
    have HM := Lib.hid hM
    have hlt := beN_lt b
    rw [HB.out] at hlt
    have HC := Lib.hid (show wrap64 ((beN b : Nat) : Int) = i64N (beN b) by unfold i64N wrap64; split <;> omega)
    clear hr hf hs hn hM hlt
    go_wp2_with fail
    refine HM.out.mono ?_
    rintro e w3 ⟨rfl, q3, rfl⟩
    go_wp2_with fail
    go_ret
    rw [HG.out]
    exact ⟨⟨_, rfl, congrArg (Value.int .i64) HC.out⟩, HR.out.drewN q3, HF.out.transJ (Fr.drewJ _ _)⟩
theorem i32N_range {x : Nat} (h : x < 4294967296) : -2147483648 ≤ i32N x ∧ i32N x < 2147483648 := by
  unfold i32N; split <;> omega
theorem intP_ok {l : Bs} {p q : Nat} {v : Int} (h : intP l p = .ok (v, q)) : q = p + 4 ∧ -2147483648 ≤ v ∧ v < 2147483648 := by
  unfold intP at h
  rcases hT : takeP l 4 p with e | ⟨b, q'⟩
  · rw [hT] at h; cases h
  · rw [hT] at h
    injection h with h
    injection h with h1 h2
    have hl := beN_lt b
    rw [takeP_len hT] at hl
    rw [← h1, ← h2]
    exact ⟨takeP_at hT, i32N_range hl⟩
set_option maxRecDepth 100000 in
theorem back_any {w : World} {rb n c p : Nat} {A : Option Addr} {l : Bs} (mi : Int) (m : Nat) (hmi : mi = (m : Int)) (k : Int) (h : Rd w rb A n c l p) (hm : m ≤ p) (hk : k ≠ 0) :
    Calls Tryz.prog 174 #[.pointer (some ⟨rb, 0, none⟩), .int .i64 mi, .int .i64 k] w fun e w' => e = .panicked [failV rb k] ∧ Rd w' rb A n c l (p - m) ∧ Fr [rb] w w' := by
  subst hmi
  have k1 := h.c1; have f1 := h.f1 1
  have hs := h.small; have ha := h.at_
  have hw : IntKind.i64.wrap ((p : Int) - (m : Int)) = ((p - m : Nat) : Int) := by rw [IntWalk.i64_in _ (by omega)]; omega
  have hst := h.step 0 (q := p - m) (by omega)
  have hF := fail_any k hst.1 hk
  have HF := Lib.hid (show Calls Tryz.prog 65 #[.pointer (some ⟨rb, 0, none⟩), .int .i64 k] (w.setCell ⟨rb, 1, none⟩ (.int .i64 ((p - m : Nat) : Int))) fun e w' => e = .panicked [failV rb k] ∧ (w.setCell ⟨rb, 1, none⟩ (.int .i64 ((p - m : Nat) : Int))) = w' from hF)
  have HS := Lib.hid (show Rd (w.setCell ⟨rb, 1, none⟩ (.int .i64 ((p - m : Nat) : Int))) rb A n c l (p - m) ∧ Fr [rb] w (w.setCell ⟨rb, 1, none⟩ (.int .i64 ((p - m : Nat) : Int))) from hst)
  clear h hst hF
  generalize ((p - m : Nat) : Int) = pm at *
  go_enter Tryz.func174, Tryz.ntmps174
  go_wp2_with fail
  refine HF.out.mono ?_
  rintro e w1 ⟨rfl, rfl⟩
  exact ⟨rfl, rfl, HS.out⟩
theorem sizeP_ok {l : Bs} {p q m v : Nat} (h : sizeP l m p = .ok (v, q)) : q = p + 4 ∧ v ≤ m := by
  unfold sizeP at h
  rcases hT : intP l p with e | ⟨z, q'⟩
  · rw [hT] at h; cases h
  · rw [hT] at h
    obtain ⟨h1, h2, h3⟩ := intP_ok hT
    have h4 : (if z < 0 ∨ (m : Int) < z then (.error (p, 22) : PR Nat) else .ok (z.toNat, q')) = .ok (v, q) := h
    by_cases hc : z < 0 ∨ (m : Int) < z
    · rw [if_pos hc] at h4; cases h4
    · rw [if_neg hc] at h4
      injection h4 with h4
      injection h4 with h4 h5
      omega
set_option maxRecDepth 100000 in
theorem rSize_any {w : World} {rb n c p : Nat} {A : Option Addr} {l : Bs} (mi : Int) (m : Nat) (hmi : mi = (m : Int)) (h : Rd w rb A n c l p) :
    Calls Tryz.prog 217 #[.pointer (some ⟨rb, 0, none⟩), .int .i64 mi] w (RdOut rb A n c l w (sizeP l m p) (fun v u _ => u = .int .i64 (v : Int))) := by
  subst hmi
  have hN := rInt_any h
  clear h
  rcases hT : intP l p with ⟨q, k⟩ | ⟨z, q⟩
  · have HG := Lib.hid (show sizeP l m p = .error (q, k) by unfold sizeP; rw [hT]; rfl)
    rw [hT] at hN
    have HN := Lib.hid hN
    clear hN hT
    go_enter Tryz.func217, Tryz.ntmps217
    go_wp2_with fail
    refine HN.out.mono ?_
    rintro e w2 ⟨rfl, hr, hf⟩
    refine ⟨rfl, ?_⟩
    rw [HG.out]
    exact ⟨rfl, hr, hf⟩
  · obtain ⟨rfl, z1, z2⟩ := intP_ok hT
    have hw : IntKind.i64.wrap z = z := IntWalk.i64_in _ (by omega)
    by_cases hc : z < 0 ∨ (m : Int) < z
    · have HG := Lib.hid (show sizeP l m p = .error (p, 22) by unfold sizeP; rw [hT]; exact if_pos hc)
      rw [hT] at hN
      have HN := Lib.hid hN
      clear hN hT
      have fin : ∀ (W : World), Rd W rb A n c l (p + 4) → Fr [rb] w W → Calls Tryz.prog 174 #[.pointer (some ⟨rb, 0, none⟩), .int .i64 4, .int .i64 22] W fun e w' => e = .panicked [failV rb 22] ∧ RdOut rb A n c l w (sizeP l m p) (fun v u _ => u = .int .i64 (v : Int)) e w' := fun W hr hf => by
        refine (back_any 4 4 rfl 22 hr (by omega) (by decide)).mono ?_
        rintro e w' ⟨rfl, hr2, hf2⟩
        rw [HG.out]
        exact ⟨rfl, rfl, hr2, hf.transJ hf2⟩
      have FIN := Lib.hid fin
      clear fin
      rcases Int.lt_or_le z 0 with h0 | h0
      · go_enter Tryz.func217, Tryz.ntmps217
        go_wp2_with fail
        refine HN.out.mono ?_
        rintro e w2 ⟨⟨u, rfl, rfl⟩, hr, hf⟩
        have HR := Lib.hid hr; have HF := Lib.hid hf
        clear hr hf
        go_wp2_with fail
        refine (FIN.out _ HR.out HF.out).mono ?_
        rintro e w3 ⟨rfl, ho⟩
        exact ⟨rfl, ho⟩
      · have h1 : (m : Int) < z := by omega
        have h2 : ¬ z < 0 := by omega
        go_enter Tryz.func217, Tryz.ntmps217
        go_wp2_with fail
        refine HN.out.mono ?_
        rintro e w2 ⟨⟨u, rfl, rfl⟩, hr, hf⟩
        have HR := Lib.hid hr; have HF := Lib.hid hf
        clear hr hf
        go_wp2_with fail
        refine (FIN.out _ HR.out HF.out).mono ?_
        rintro e w3 ⟨rfl, ho⟩
        exact ⟨rfl, ho⟩
    · have HG := Lib.hid (show sizeP l m p = .ok (z.toNat, p + 4) by unfold sizeP; rw [hT]; exact if_neg hc)
      rw [hT] at hN
      have HN := Lib.hid hN
      have h1 : ¬ (m : Int) < z := by omega
      have h2 : ¬ z < 0 := by omega
      have HZ := Lib.hid (show (z.toNat : Int) = z by omega)
      clear hN hT hc
      go_enter Tryz.func217, Tryz.ntmps217
      go_wp2_with fail
      refine HN.out.mono ?_
      rintro e w2 ⟨⟨u, rfl, rfl⟩, hr, hf⟩
      have HR := Lib.hid hr; have HF := Lib.hid hf
      clear hr hf
      go_wp2_with fail
      go_ret
      rw [HG.out]
      exact ⟨⟨_, rfl, congrArg (Value.int .i64) HZ.out.symm⟩, HR.out, HF.out⟩
theorem bytesP_ok {l : Bs} {p q m : Nat} {b : Bs} (h : bytesP l m p = .ok (b, q)) : q = p + 4 + b.length ∧ b.length ≤ m := by
  unfold bytesP at h
  rcases hT : sizeP l m p with e | ⟨k, q'⟩
  · rw [hT] at h; cases h
  · rw [hT] at h
    obtain ⟨h1, h2⟩ := sizeP_ok hT
    have h4 : (if l.length - q' < k then (.error (p, 20) : PR Bs) else .ok ((l.drop q').take k, q' + k)) = .ok (b, q) := h
    by_cases hc : l.length - q' < k
    · rw [if_pos hc] at h4; cases h4
    · rw [if_neg hc] at h4
      injection h4 with h4
      injection h4 with h4 h5
      have : b.length = k := by rw [← h4, List.length_take, List.length_drop]; omega
      omega
set_option maxRecDepth 100000 in
theorem rBytes_any {w : World} {rb n c p : Nat} {A : Option Addr} {l : Bs} (mi : Int) (m : Nat) (hmi : mi = (m : Int)) (h : Rd w rb A n c l p) (hm : m ≤ 1048576) :
    Calls Tryz.prog 172 #[.pointer (some ⟨rb, 0, none⟩), .int .i64 mi] w (RdOut rb A n c l w (bytesP l m p) (fun b u w' => BufAt rb b u w')) := by
  subst hmi
  have hN := rSize_any _ m rfl h
  have HLen := Lib.hid h.len
  clear h
  rcases hT : sizeP l m p with ⟨q, k⟩ | ⟨z, q⟩
  · have HG := Lib.hid (show bytesP l m p = .error (q, k) by unfold bytesP; rw [hT]; rfl)
    rw [hT] at hN
    have HN := Lib.hid hN
    clear hN hT
    go_enter Tryz.func172, Tryz.ntmps172
    go_wp2_with fail
    refine HN.out.mono ?_
    rintro e w2 ⟨rfl, hr, hf⟩
    refine ⟨rfl, ?_⟩
    rw [HG.out]
    exact ⟨rfl, hr, hf⟩
  · obtain ⟨rfl, z1⟩ := sizeP_ok hT
    rw [hT] at hN
    have HN := Lib.hid hN
    by_cases hc : l.length - (p + 4) < z
    · have HG := Lib.hid (show bytesP l m p = .error (p, 20) by unfold bytesP; rw [hT]; exact if_pos hc)
      clear hN hT
      go_enter Tryz.func172, Tryz.ntmps172
      go_wp2_with fail
      refine HN.out.mono ?_
      rintro e w2 ⟨⟨u, rfl, rfl⟩, hr, hf⟩
      have HR := Lib.hid hr; have HF := Lib.hid hf
      have HL := Lib.hid (left_any hr)
      have h1 : ((n : Int) - ((p + 4 : Nat) : Int)) < (z : Int) := by rw [HLen.out] at hc; have := hr.at_; omega
      clear hr hf
      go_wp2_with fail
      refine HL.out.mono ?_
      rintro e w3 ⟨rfl, q3, rfl⟩
      go_wp2_with fail
      refine (back_any 4 4 rfl 20 (HR.out.drewN q3) (by omega) (by decide)).mono ?_
      rintro e w4 ⟨rfl, hr2, hf2⟩
      refine ⟨rfl, ?_⟩
      rw [HG.out]
      exact ⟨rfl, hr2, (HF.out.transJ (Fr.drewJ _ q3)).transJ hf2⟩
    · have HG := Lib.hid (show bytesP l m p = .ok ((l.drop (p + 4)).take z, p + 4 + z) by unfold bytesP; rw [hT]; exact if_neg hc)
      have HT := Lib.hid (show takeP l z (p + 4) = .ok ((l.drop (p + 4)).take z, p + 4 + z) by unfold takeP; exact if_neg hc)
      clear hN hT
      go_enter Tryz.func172, Tryz.ntmps172
      go_wp2_with fail
      refine HN.out.mono ?_
      rintro e w2 ⟨⟨u, rfl, rfl⟩, hr, hf⟩
      have HR := Lib.hid hr; have HF := Lib.hid hf
      have HL := Lib.hid (left_any hr)
      have h1 : ¬ ((n : Int) - ((p + 4 : Nat) : Int)) < (z : Int) := by rw [HLen.out] at hc; have := hr.at_; omega
      clear hr hf
      go_wp2_with fail
      refine HL.out.mono ?_
      rintro e w3 ⟨rfl, q3, rfl⟩
      have hX := next_any z (HR.out.drewN q3) (by omega)
      rw [HT.out] at hX
      have HX := Lib.hid hX
      clear hX
      go_wp2_with fail
      refine HX.out.mono ?_
      rintro e w4 ⟨⟨u, rfl, hu⟩, hr, hf⟩
      have HR4 := Lib.hid hr; have HF4 := Lib.hid hf; have HU := Lib.hid hu
      clear hr hf hu
      go_wp2_with fail
      go_ret
      rw [HG.out]
      exact ⟨⟨_, rfl, HU.out⟩, HR4.out, (HF.out.transJ (Fr.drewJ _ q3)).transJ HF4.out⟩
end Go.Proofs.YthpjneobmmpbnaaGreatDoor
namespace Go.Proofs.YthpjneobmmpbnaaGreatDoor
open Go.RowKit Go.MapKept Go.Maps Go.Lib
/-- a slice value that holds these bytes, without spare room -/
def B8 (w : World) (B : Nat) (v : Value) (t : Bs) : Prop := ∃ A, v = .slice A t.length t.length ∧ Sl w B enc8 1 A t.length t
theorem B8.below {w w' : World} {B : Nat} {v : Value} {t : Bs} (h : B8 w B v t) (hb : Below B w w') : B8 w' B v t := by
  obtain ⟨A, e, hs⟩ := h
  exact ⟨A, e, hs.below hb⟩
theorem B8.form {w : World} {B : Nat} {v : Value} {t : Bs} (h : B8 w B v t) (h0 : 0 < t.length) : ∃ b off, v = .slice (some ⟨b, off, none⟩) t.length t.length ∧ b < B ∧ ∀ j, j < t.length → w.cell? ⟨b, off + j, none⟩ = some (.int .u8 ((t.getD j 0).toNat : Int)) := by
  obtain ⟨A, rfl, hs⟩ := h
  obtain ⟨b, off, rfl, hb, hc⟩ := hs.2 h0
  refine ⟨b, off, rfl, hb, fun j hj => ?_⟩
  have := hc j hj 0 _ rfl
  rw [show t.getD j 0 = t[j]! by rw [getElem!_pos t j hj, List.getD_eq_getElem?_getD, List.getElem?_eq_getElem hj]; rfl]
  simpa using this
theorem B8.drop {w : World} {B b off k : Nat} {t : Bs} (h : B8 w B (.slice (some ⟨b, off, none⟩) t.length t.length) t) (hk : k ≤ t.length) : B8 w B (.slice (if t.length = k then some ⟨b, off, none⟩ else some ⟨b, off + k, none⟩) (t.length - k) (t.length - k)) (t.drop k) := by
  obtain ⟨A, e, hs⟩ := h
  injection e with e _ _
  subst e
  have hl : (t.drop k).length = t.length - k := List.length_drop
  refine ⟨if t.length = k then some ⟨b, off, none⟩ else some ⟨b, off + k, none⟩, by rw [hl], ?_⟩
  rw [hl]
  refine ⟨hl, fun h0 => ?_⟩
  obtain ⟨b2, off2, e, hb, hc⟩ := hs.2 (by omega)
  injection e with e
  injection e with e1 e2 _
  subst e1; subst e2
  rw [if_neg (by omega)]
  refine ⟨_, _, rfl, hb, fun j hj i u hu => ?_⟩
  have e1 : (t.drop k)[j]! = t[k + j]! := by
    rw [getElem!_pos _ j (by rw [hl]; exact hj), getElem!_pos t (k + j) (by omega)]; simp
  have := hc (k + j) (by omega) i u (by rw [← hu, e1])
  rw [← this]; congr 2; omega
theorem slice_fromB (b off n k : Nat) (hk : k ≤ n) (w : World) : (Instr.sliceAt 22 (.slice (some ⟨b, off, none⟩) n n) (some (.int .i64 (k : Int))) none none).run Tryz.prog w = .ok (.slice (if n = k then some ⟨b, off, none⟩ else some ⟨b, off + k, none⟩) (n - k) (n - k)) w := by
  have h0 : (0 : Int) ≤ ↑k := by omega
  have h1 : ((k : Nat) : Int) ≤ ↑n := by omega
  go_simp
def asc8 (t : Bs) (k : Nat) : Prop := ∀ b ∈ t.take k, b.toNat < 128
theorem asc8_add {t : Bs} {a b : Nat} (h : asc8 t a) (k : asc8 (t.drop a) b) : asc8 t (a + b) := by
  unfold asc8 at *
  rw [List.take_add]
  intro x hx
  rcases List.mem_append.1 hx with h' | h'
  · exact h x h'
  · exact k x h'
theorem asc8_skip {t : Bs} {k : Nat} (h : asc8 t k) : validD (t.drop k) = validD t := (validD_ascii k _ h).symm
theorem asc8_one {t : Bs} (h0 : 0 < t.length) (h : (t.getD 0 0).toNat < 128) : asc8 t 1 := by
  unfold asc8
  match t, h0, h with
  | a :: r, _, h => intro x hx; simp at hx; subst hx; simpa using h
def wd8 (t : Bs) : Nat := leNat [t.getD 0 0, t.getD 1 0, t.getD 2 0, t.getD 3 0, t.getD 4 0, t.getD 5 0, t.getD 6 0, t.getD 7 0]
theorem take8L (t : Bs) (h : 8 ≤ t.length) : [t.getD 0 0, t.getD 1 0, t.getD 2 0, t.getD 3 0, t.getD 4 0, t.getD 5 0, t.getD 6 0, t.getD 7 0] = t.take 8 := by
  match t, h with
  | a0 :: a1 :: a2 :: a3 :: a4 :: a5 :: a6 :: a7 :: r, _ => simp
theorem wd8_asc (t : Bs) (h : 8 ≤ t.length) : (wd8 t &&& 9259542123273814144 = 0) ↔ asc8 t 8 := by
  have h8 : (t.take 8).length = 8 := by rw [List.length_take]; omega
  have := leNat_mask (t.take 8)
  rw [h8, maskN8] at this
  unfold wd8
  rw [take8L t h]
  exact this
theorem wd8_lt (t : Bs) : wd8 t < 18446744073709551616 := by
  have h := leNat_lt [t.getD 0 0, t.getD 1 0, t.getD 2 0, t.getD 3 0, t.getD 4 0, t.getD 5 0, t.getD 6 0, t.getD 7 0]
  show leNat _ < _
  simpa using h
set_option maxHeartbeats 8000000 in
set_option maxRecDepth 100000 in
theorem wd8_any {B : Nat} {v : Value} {t : Bs} (w : World) (h : B8 w B v t) (h8 : 8 ≤ t.length) :
    Calls Tryz.prog 218 #[v] w fun e w' => e = .returned (.int .u64 ((wd8 t : Nat) : Int)) ∧ ∃ q, w' = w.drewN q := by
  obtain ⟨b, off, rfl, _, hc⟩ := h.form (by omega)
  clear h
  have c0 := hc 0 (by omega)
  have q0 : (0 : Int) < (t.length : Int) := by omega
  have c1 := hc 1 (by omega)
  have q1 : (1 : Int) < (t.length : Int) := by omega
  have c2 := hc 2 (by omega)
  have q2 : (2 : Int) < (t.length : Int) := by omega
  have c3 := hc 3 (by omega)
  have q3 : (3 : Int) < (t.length : Int) := by omega
  have c4 := hc 4 (by omega)
  have q4 : (4 : Int) < (t.length : Int) := by omega
  have c5 := hc 5 (by omega)
  have q5 : (5 : Int) < (t.length : Int) := by omega
  have c6 := hc 6 (by omega)
  have q6 : (6 : Int) < (t.length : Int) := by omega
  have c7 := hc 7 (by omega)
  have q7 : (7 : Int) < (t.length : Int) := by omega
  clear hc
  rw [Nat.add_zero] at c0
  obtain ⟨x0, hx0⟩ : ∃ x0, t.getD 0 0 = x0 := ⟨_, rfl⟩
  have h0 : x0.toNat < 256 := x0.toNat_lt
  obtain ⟨x1, hx1⟩ : ∃ x1, t.getD 1 0 = x1 := ⟨_, rfl⟩
  have h1 : x1.toNat < 256 := x1.toNat_lt
  obtain ⟨x2, hx2⟩ : ∃ x2, t.getD 2 0 = x2 := ⟨_, rfl⟩
  have h2 : x2.toNat < 256 := x2.toNat_lt
  obtain ⟨x3, hx3⟩ : ∃ x3, t.getD 3 0 = x3 := ⟨_, rfl⟩
  have h3 : x3.toNat < 256 := x3.toNat_lt
  obtain ⟨x4, hx4⟩ : ∃ x4, t.getD 4 0 = x4 := ⟨_, rfl⟩
  have h4 : x4.toNat < 256 := x4.toNat_lt
  obtain ⟨x5, hx5⟩ : ∃ x5, t.getD 5 0 = x5 := ⟨_, rfl⟩
  have h5 : x5.toNat < 256 := x5.toNat_lt
  obtain ⟨x6, hx6⟩ : ∃ x6, t.getD 6 0 = x6 := ⟨_, rfl⟩
  have h6 : x6.toNat < 256 := x6.toNat_lt
  obtain ⟨x7, hx7⟩ : ∃ x7, t.getD 7 0 = x7 := ⟨_, rfl⟩
  have h7 : x7.toNat < 256 := x7.toNat_lt
  unfold wd8
  rw [hx0, hx1, hx2, hx3, hx4, hx5, hx6, hx7]
  rw [hx0] at c0
  rw [hx1] at c1
  rw [hx2] at c2
  rw [hx3] at c3
  rw [hx4] at c4
  rw [hx5] at c5
  rw [hx6] at c6
  rw [hx7] at c7
  have hv : ((leNat [x0, x1, x2, x3, x4, x5, x6, x7] : Nat) : Int) = (x0.toNat : Int) + (x1.toNat : Int) * 256 + (x2.toNat : Int) * 65536 + (x3.toNat : Int) * 16777216 + (x4.toNat : Int) * 4294967296 + (x5.toNat : Int) * 1099511627776 + (x6.toNat : Int) * 281474976710656 + (x7.toNat : Int) * 72057594037927936 := by
    simp only [leNat]
    push_cast
    omega
  clear hx0 hx1 hx2 hx3 hx4 hx5 hx6 hx7
  have HV := Lib.hid hv
  clear hv
  go_enter Tryz.func218, Tryz.ntmps218
  go_wp2
  go_quiet (fail)
  go_wp2
  go_ret
  refine ⟨?_, _, rfl⟩
  simp (disch := omega) only [u64_or8, u64_or16, u64_or24, u64_or32, u64_or40, u64_or48, u64_or56]
  rw [HV.out]
  rfl
theorem wd8_q {B : Nat} {v : Value} {t : Bs} {w : World} (h : B8 w B v t) (h8 : 8 ≤ t.length) (N : Nat) (hN : wd8 t = N) (q : Nat) :
    Calls Tryz.prog 218 #[v] (w.drewN q) fun e w' => e = .returned (.int .u64 (N : Int)) ∧ ∃ n, w' = w.drewN n := by
  refine (wd8_any (w.drewN q) (h.below (drewN_below (Below.refl _ _) q)) h8).mono ?_
  rintro e w' ⟨rfl, n, rfl⟩
  rw [hN]
  exact ⟨rfl, q + n, World.drewN_drewN ..⟩
theorem wd8_0 {B : Nat} {v : Value} {t : Bs} {w : World} (h : B8 w B v t) (h8 : 8 ≤ t.length) (N : Nat) (hN : wd8 t = N) :
    Calls Tryz.prog 218 #[v] w fun e w' => e = .returned (.int .u64 (N : Int)) ∧ ∃ n, w' = w.drewN n := wd8_q h h8 N hN 0
set_option maxHeartbeats 16000000 in
set_option maxRecDepth 1000000 in
theorem valid8_any {B : Nat} {A0 : Option Addr} {n0 c0 : Nat} {s : Bs} (w : World) (h : Sl w B enc8 1 A0 n0 s) (hB : B ≤ w.heap.size) (hc0 : n0 ≤ c0) (hn0 : n0 ≤ 4294967296) (hT : Lib.Utf8Tabs 1 2 w) :
    Calls Tryz.prog 173 #[.slice A0 n0 c0] w fun e w' => e = .returned (.bool (validD s)) ∧ Below w.heap.size w w' := by
  obtain ⟨ANS, hANS⟩ : ∃ ANS, validD s = ANS := ⟨_, rfl⟩
  rw [hANS]
  have H8 := Lib.hid (show B8 w B (.slice A0 n0 n0) s from ⟨A0, by rw [h.len], h.len.symm ▸ h⟩)
  have HL := Lib.hid h.len
  have HANS := Lib.hid hANS
  have hsl0 : ∀ w : World, (Instr.sliceAt 22 (.slice A0 n0 c0) none (some (.int .i64 (n0 : Int))) (some (.int .i64 (n0 : Int)))).run Tryz.prog w = .ok (.slice A0 n0 n0) w := fun w => by
    have h0 : ((n0 : Nat) : Int) ≤ ↑c0 := by omega
    go_simp
  clear h hANS
  go_enter Tryz.func173, Tryz.ntmps173
  go_wp2_with fail
  go_loopg [0] (s.length + 1) (fun gk s0 wx => Below w.heap.size w wx ∧ ∃ t : Bs, B8 wx B s0 t ∧ validD t = ANS ∧ t.length < gk ∧ t.length ≤ 4294967296)
  case atStart => exact ⟨Below.refl _ _, s, H8.out, HANS.out, by omega, by rw [HL.out]; exact hn0⟩
  case round =>
    obtain ⟨hbw, t, h8, hv, hg, hts⟩ := hrel
    have HTr := Lib.hid (Utf8Tabs_below hT hbw)
    have HBW := Lib.hid hbw
    have HV := Lib.hid hv
    have HBs := Lib.hid (show B ≤ wr.heap.size from Nat.le_trans hB hbw.size)
    clear hbw hv
    by_cases h0 : 0 < t.length
    · obtain ⟨g', rfl⟩ : ∃ g', gk = g' + 1 := ⟨gk - 1, by omega⟩
      have h0z : (0 : Int) < (t.length : Int) := by omega
      obtain ⟨b, off, rfl, hbB, hc⟩ := h8.form h0
      have H8 := Lib.hid h8
      clear h8
      obtain ⟨x0, hx0⟩ : ∃ x0, t.getD 0 0 = x0 := ⟨_, rfl⟩
      have hx0lt : x0.toNat < 256 := x0.toNat_lt
      have c0 := hc 0 h0
      rw [Nat.add_zero, hx0] at c0
      have HX0 := Lib.hid hx0
      clear hc hx0
      by_cases hasc : x0.toNat < 128
      · as_aux_lemma =>
        have hascz : (x0.toNat : Int) < 128 := by omega
        have a1 : asc8 t 1 := asc8_one h0 (by rw [HX0.out]; exact hasc)
        obtain ⟨t1, ht1⟩ : ∃ t1, t.drop 1 = t1 := ⟨_, rfl⟩
        have z1 : t1.length + 1 = t.length := by rw [← ht1, List.length_drop]; omega
        have V1 := Lib.hid (show validD t1 = ANS by rw [← ht1, asc8_skip a1]; exact HV.out)
        have hs1 := slice_fromB b off t.length 1 h0
        have hB1 := H8.out.drop h0
        rw [ht1] at hB1
        rw [show ((1 : Nat) : Int) = 1 from rfl] at hs1
        rw [show t.length - 1 = t1.length by omega] at hs1 hB1
        generalize (if t.length = 1 then some (Addr.mk b off none) else some (Addr.mk b (off + 1) none)) = A1 at hs1 hB1
        have HB1 := Lib.hid hB1
        clear a1 hB1 ht1
        by_cases c8 : 8 < t1.length
        · have c8z : (8 : Int) < (t1.length : Int) := by omega
          obtain ⟨b1, off1, e1, hb1B, _⟩ := HB1.out.form (by omega)
          injection e1 with e1 _ _
          subst e1
          obtain ⟨N1, hN1⟩ : ∃ N1, wd8 t1 = N1 := ⟨_, rfl⟩
          have lN1 : N1 < 18446744073709551616 := hN1 ▸ wd8_lt t1
          have CN1 := Lib.hid (wd8_q HB1.out (by omega) N1 hN1)
          have DN1 := Lib.hid (wd8_0 HB1.out (by omega) N1 hN1)
          have kN1 := wd8_asc t1 (by omega)
          rw [hN1] at kN1
          have KN1 := Lib.hid kN1
          clear kN1 hN1
          have hand1 : bits .and .u64 (N1 : Int) 9259542123273814144 = ((N1 &&& 9259542123273814144 : Nat) : Int) := u64_and_nat N1 9259542123273814144 lN1 (by omega)
          have k1 : N1 &&& 9259542123273814144 = 0 → asc8 t1 8 := KN1.out.1
          generalize N1 &&& 9259542123273814144 = Z1 at hand1 k1
          have K1 := Lib.hid k1
          clear k1
          by_cases hz1 : Z1 = 0
          · have hz1b : ((Z1 : Int) == 0) = true := by simp [hz1]
            obtain ⟨t2, ht2⟩ : ∃ t2, t1.drop 8 = t2 := ⟨_, rfl⟩
            have zt2 : t2.length + 8 = t1.length := by rw [← ht2, List.length_drop]; omega
            have st2 := slice_fromB b1 off1 t1.length 8 (by omega)
            have Bt2 := HB1.out.drop (k := 8) (by omega)
            rw [ht2] at Bt2
            rw [show ((8 : Nat) : Int) = 8 from rfl] at st2
            rw [show t1.length - 8 = t2.length by omega] at st2 Bt2
            rw [if_neg (by omega)] at st2 Bt2
            generalize off1 + 8 = off2 at st2 Bt2
            have Ht2 := Lib.hid ht2
            have HBt2 := Lib.hid Bt2
            clear ht2 Bt2
            have V2 := Lib.hid (show validD t2 = ANS by rw [← Ht2.out, asc8_skip (K1.out hz1)]; exact V1.out)
            go_wp2_with (with_reducible refine DN1.out.mono ?_; rintro e W1 ⟨rfl, q1, rfl⟩)
            have HBQ := Lib.hid (drewN_below HBW.out q1)
            have HBt2q := Lib.hid (show B8 (wr.drewN q1) B _ t2 from HBt2.out)
            generalize wr.drewN q1 = wq at HBQ HBt2q ⊢
            clear CN1 DN1 HBt2
            by_cases c16 : 16 < t2.length
            · as_aux_lemma =>
              have c16z : (16 : Int) < (t2.length : Int) := by omega
              obtain ⟨t2b, ht2b⟩ : ∃ t2b, t2.drop 8 = t2b := ⟨_, rfl⟩
              have zt2b : t2b.length + 8 = t2.length := by rw [← ht2b, List.length_drop]; omega
              have st2b := slice_fromB b1 off2 t2.length 8 (by omega)
              have Bt2b := HBt2q.out.drop (k := 8) (by omega)
              rw [ht2b] at Bt2b
              rw [show ((8 : Nat) : Int) = 8 from rfl] at st2b
              rw [show t2.length - 8 = t2b.length by omega] at st2b Bt2b
              rw [if_neg (by omega)] at st2b Bt2b
              generalize off2 + 8 = off2b at st2b Bt2b
              have Ht2b := Lib.hid ht2b
              have HBt2b := Lib.hid Bt2b
              clear ht2b Bt2b
              obtain ⟨N2, hN2⟩ : ∃ N2, wd8 t2 = N2 := ⟨_, rfl⟩
              have lN2 : N2 < 18446744073709551616 := hN2 ▸ wd8_lt t2
              have CN2 := Lib.hid (wd8_q HBt2q.out (by omega) N2 hN2)
              have DN2 := Lib.hid (wd8_0 HBt2q.out (by omega) N2 hN2)
              have kN2 := wd8_asc t2 (by omega)
              rw [hN2] at kN2
              have KN2 := Lib.hid kN2
              clear kN2 hN2
              obtain ⟨N3, hN3⟩ : ∃ N3, wd8 t2b = N3 := ⟨_, rfl⟩
              have lN3 : N3 < 18446744073709551616 := hN3 ▸ wd8_lt t2b
              have CN3 := Lib.hid (wd8_q HBt2b.out (by omega) N3 hN3)
              have DN3 := Lib.hid (wd8_0 HBt2b.out (by omega) N3 hN3)
              have kN3 := wd8_asc t2b (by omega)
              rw [hN3] at kN3
              have KN3 := Lib.hid kN3
              clear kN3 hN3
              have hor2 : bits .or .u64 (N2 : Int) (N3 : Int) = ((N2 ||| N3 : Nat) : Int) := u64_or_nat N2 N3 lN2 lN3
              have lor2 : N2 ||| N3 < 18446744073709551616 := Nat.or_lt_two_pow (n := 64) lN2 lN3
              have hand2 : bits .and .u64 ((N2 ||| N3 : Nat) : Int) 9259542123273814144 = (((N2 ||| N3) &&& 9259542123273814144 : Nat) : Int) := u64_and_nat _ 9259542123273814144 lor2 (by omega)
              have k2 : (N2 ||| N3) &&& 9259542123273814144 = 0 → asc8 t2 16 := fun h0' => by
                obtain ⟨e1, e2⟩ := (Lib.or_mask N2 N3 _).1 h0'
                exact asc8_add (a := 8) (b := 8) (KN2.out.1 e1) (by rw [Ht2b.out]; exact KN3.out.1 e2)
              generalize N2 ||| N3 = O2 at hor2 hand2 k2 lor2
              generalize O2 &&& 9259542123273814144 = Z2 at hand2 k2
              have K2 := Lib.hid k2
              clear k2
              by_cases hz2 : Z2 = 0
              · have hz2b : ((Z2 : Int) == 0) = true := by simp [hz2]
                obtain ⟨t3, ht3⟩ : ∃ t3, t2.drop 16 = t3 := ⟨_, rfl⟩
                have zt3 : t3.length + 16 = t2.length := by rw [← ht3, List.length_drop]; omega
                have st3 := slice_fromB b1 off2 t2.length 16 (by omega)
                have Bt3 := HBt2q.out.drop (k := 16) (by omega)
                rw [ht3] at Bt3
                rw [show ((16 : Nat) : Int) = 16 from rfl] at st3
                rw [show t2.length - 16 = t3.length by omega] at st3 Bt3
                rw [if_neg (by omega)] at st3 Bt3
                generalize off2 + 16 = off3 at st3 Bt3
                have Ht3 := Lib.hid ht3
                have HBt3 := Lib.hid Bt3
                clear ht3 Bt3
                have V3 := Lib.hid (show validD t3 = ANS by rw [← Ht3.out, asc8_skip (K2.out hz2)]; exact V2.out)
                go_quiet (first | (with_reducible exact CN2.out _) | (with_reducible exact CN3.out _))
                have HBR := Lib.hid (drewN_below HBQ.out nq)
                have HBt3q := Lib.hid (show B8 (wq.drewN nq) B _ t3 from HBt3.out)
                generalize wq.drewN nq = wq2 at HBR HBt3q ⊢
                clear CN2 CN3 DN2 DN3 HBt3
                go_wp2_with fail
                go_loopg [0] (t3.length + 1) (fun g2 s0 wx => Below w.heap.size w wx ∧ ∃ u : Bs, B8 wx B s0 u ∧ validD u = ANS ∧ u.length < g2 ∧ u.length ≤ t3.length)
                case atStart => exact ⟨HBR.out, t3, HBt3q.out, V3.out, by omega, Nat.le_refl _⟩
                case round =>
                 as_aux_lemma =>
                  obtain ⟨hbu, u, hu8, vu, hgu, hut⟩ := hrel
                  have HBU := Lib.hid hbu
                  have VU := Lib.hid vu
                  clear hbu vu
                  by_cases c32 : 32 < u.length
                  · obtain ⟨g3, rfl⟩ : ∃ g3, gk = g3 + 1 := ⟨gk - 1, by omega⟩
                    have c32z : (32 : Int) < (u.length : Int) := by omega
                    obtain ⟨bu, offu, rfl, _, _⟩ := hu8.form (by omega)
                    have HU8 := Lib.hid hu8
                    clear hu8
                    obtain ⟨ub, hub⟩ : ∃ ub, u.drop 8 = ub := ⟨_, rfl⟩
                    have zub : ub.length + 8 = u.length := by rw [← hub, List.length_drop]; omega
                    have sub := slice_fromB bu offu u.length 8 (by omega)
                    have Bub := HU8.out.drop (k := 8) (by omega)
                    rw [hub] at Bub
                    rw [show ((8 : Nat) : Int) = 8 from rfl] at sub
                    rw [show u.length - 8 = ub.length by omega] at sub Bub
                    rw [if_neg (by omega)] at sub Bub
                    generalize offu + 8 = offb at sub Bub
                    have Hub := Lib.hid hub
                    have HBub := Lib.hid Bub
                    clear hub Bub
                    obtain ⟨uc, huc⟩ : ∃ uc, u.drop 16 = uc := ⟨_, rfl⟩
                    have zuc : uc.length + 16 = u.length := by rw [← huc, List.length_drop]; omega
                    have suc := slice_fromB bu offu u.length 16 (by omega)
                    have Buc := HU8.out.drop (k := 16) (by omega)
                    rw [huc] at Buc
                    rw [show ((16 : Nat) : Int) = 16 from rfl] at suc
                    rw [show u.length - 16 = uc.length by omega] at suc Buc
                    rw [if_neg (by omega)] at suc Buc
                    generalize offu + 16 = offc at suc Buc
                    have Huc := Lib.hid huc
                    have HBuc := Lib.hid Buc
                    clear huc Buc
                    obtain ⟨ud, hud⟩ : ∃ ud, u.drop 24 = ud := ⟨_, rfl⟩
                    have zud : ud.length + 24 = u.length := by rw [← hud, List.length_drop]; omega
                    have sud := slice_fromB bu offu u.length 24 (by omega)
                    have Bud := HU8.out.drop (k := 24) (by omega)
                    rw [hud] at Bud
                    rw [show ((24 : Nat) : Int) = 24 from rfl] at sud
                    rw [show u.length - 24 = ud.length by omega] at sud Bud
                    rw [if_neg (by omega)] at sud Bud
                    generalize offu + 24 = offd at sud Bud
                    have Hud := Lib.hid hud
                    have HBud := Lib.hid Bud
                    clear hud Bud
                    obtain ⟨u2, hu2⟩ : ∃ u2, u.drop 32 = u2 := ⟨_, rfl⟩
                    have zu2 : u2.length + 32 = u.length := by rw [← hu2, List.length_drop]; omega
                    have su2 := slice_fromB bu offu u.length 32 (by omega)
                    have Bu2 := HU8.out.drop (k := 32) (by omega)
                    rw [hu2] at Bu2
                    rw [show ((32 : Nat) : Int) = 32 from rfl] at su2
                    rw [show u.length - 32 = u2.length by omega] at su2 Bu2
                    rw [if_neg (by omega)] at su2 Bu2
                    generalize offu + 32 = offe at su2 Bu2
                    have Hu2 := Lib.hid hu2
                    have HBu2 := Lib.hid Bu2
                    clear hu2 Bu2
                    obtain ⟨M0, hM0⟩ : ∃ M0, wd8 u = M0 := ⟨_, rfl⟩
                    have lM0 : M0 < 18446744073709551616 := hM0 ▸ wd8_lt u
                    have CM0 := Lib.hid (wd8_q HU8.out (by omega) M0 hM0)
                    have DM0 := Lib.hid (wd8_0 HU8.out (by omega) M0 hM0)
                    have kM0 := wd8_asc u (by omega)
                    rw [hM0] at kM0
                    have KM0 := Lib.hid kM0
                    clear kM0 hM0
                    obtain ⟨M1, hM1⟩ : ∃ M1, wd8 ub = M1 := ⟨_, rfl⟩
                    have lM1 : M1 < 18446744073709551616 := hM1 ▸ wd8_lt ub
                    have CM1 := Lib.hid (wd8_q HBub.out (by omega) M1 hM1)
                    have DM1 := Lib.hid (wd8_0 HBub.out (by omega) M1 hM1)
                    have kM1 := wd8_asc ub (by omega)
                    rw [hM1] at kM1
                    have KM1 := Lib.hid kM1
                    clear kM1 hM1
                    obtain ⟨M2, hM2⟩ : ∃ M2, wd8 uc = M2 := ⟨_, rfl⟩
                    have lM2 : M2 < 18446744073709551616 := hM2 ▸ wd8_lt uc
                    have CM2 := Lib.hid (wd8_q HBuc.out (by omega) M2 hM2)
                    have DM2 := Lib.hid (wd8_0 HBuc.out (by omega) M2 hM2)
                    have kM2 := wd8_asc uc (by omega)
                    rw [hM2] at kM2
                    have KM2 := Lib.hid kM2
                    clear kM2 hM2
                    obtain ⟨M3, hM3⟩ : ∃ M3, wd8 ud = M3 := ⟨_, rfl⟩
                    have lM3 : M3 < 18446744073709551616 := hM3 ▸ wd8_lt ud
                    have CM3 := Lib.hid (wd8_q HBud.out (by omega) M3 hM3)
                    have DM3 := Lib.hid (wd8_0 HBud.out (by omega) M3 hM3)
                    have kM3 := wd8_asc ud (by omega)
                    rw [hM3] at kM3
                    have KM3 := Lib.hid kM3
                    clear kM3 hM3
                    have ho1 : bits .or .u64 (M0 : Int) (M1 : Int) = ((M0 ||| M1 : Nat) : Int) := u64_or_nat M0 M1 lM0 lM1
                    have ho2 : bits .or .u64 (M2 : Int) (M3 : Int) = ((M2 ||| M3 : Nat) : Int) := u64_or_nat M2 M3 lM2 lM3
                    have lo1 : M0 ||| M1 < 18446744073709551616 := Nat.or_lt_two_pow (n := 64) lM0 lM1
                    have lo2 : M2 ||| M3 < 18446744073709551616 := Nat.or_lt_two_pow (n := 64) lM2 lM3
                    have ho3 : bits .or .u64 ((M0 ||| M1 : Nat) : Int) ((M2 ||| M3 : Nat) : Int) = (((M0 ||| M1) ||| (M2 ||| M3) : Nat) : Int) := u64_or_nat _ _ lo1 lo2
                    have lo3 : (M0 ||| M1) ||| (M2 ||| M3) < 18446744073709551616 := Nat.or_lt_two_pow (n := 64) lo1 lo2
                    have hand3 : bits .and .u64 (((M0 ||| M1) ||| (M2 ||| M3) : Nat) : Int) 9259542123273814144 = ((((M0 ||| M1) ||| (M2 ||| M3)) &&& 9259542123273814144 : Nat) : Int) := u64_and_nat _ 9259542123273814144 lo3 (by omega)
                    have k3 : ((M0 ||| M1) ||| (M2 ||| M3)) &&& 9259542123273814144 = 0 → asc8 u 32 := fun h0' => by
                      obtain ⟨e01, e23⟩ := (Lib.or_mask _ _ _).1 h0'
                      obtain ⟨e0, e1⟩ := (Lib.or_mask _ _ _).1 e01
                      obtain ⟨e2, e3⟩ := (Lib.or_mask _ _ _).1 e23
                      have s16 : asc8 u 16 := asc8_add (a := 8) (b := 8) (KM0.out.1 e0) (by rw [Hub.out]; exact KM1.out.1 e1)
                      have s24 : asc8 u 24 := asc8_add (a := 16) (b := 8) s16 (by rw [Huc.out]; exact KM2.out.1 e2)
                      exact asc8_add (a := 24) (b := 8) s24 (by rw [Hud.out]; exact KM3.out.1 e3)
                    generalize M0 ||| M1 = P1 at ho1 ho3 hand3 k3 lo1 lo3
                    generalize M2 ||| M3 = P2 at ho2 ho3 hand3 k3 lo2 lo3
                    generalize P1 ||| P2 = P3 at ho3 hand3 k3 lo3
                    generalize P3 &&& 9259542123273814144 = Z3 at hand3 k3
                    have K3 := Lib.hid k3
                    clear k3
                    by_cases hz3 : Z3 = 0
                    · have hz3b : ((Z3 : Int) == 0) = true := by simp [hz3]
                      have VU2 := Lib.hid (show validD u2 = ANS by rw [← Hu2.out, asc8_skip (K3.out hz3)]; exact VU.out)
                      go_wp2_with fail
                      go_quiet (first | (with_reducible exact CM0.out _) | (with_reducible exact CM1.out _) | (with_reducible exact CM2.out _) | (with_reducible exact CM3.out _))
                      go_wp2
                      go_roundg g3
                      case measure => omega
                      case rel => exact ⟨drewN_below HBU.out nq, u2, HBu2.out, VU2.out, by omega, by omega⟩
                    · have hz3b : ((Z3 : Int) == 0) = false := by simp; omega
                      go_wp2_with fail
                      go_quiet (first | (with_reducible exact CM0.out _) | (with_reducible exact CM1.out _) | (with_reducible exact CM2.out _) | (with_reducible exact CM3.out _))
                      go_wp2
                      go_roundg g'
                      case measure => omega
                      case rel => exact ⟨drewN_below HBU.out nq, u, HU8.out, VU.out, by omega, by omega⟩
                  · have c32z : ¬ ((32 : Int) < (u.length : Int)) := by omega
                    have c32b : decide ((32 : Int) < (u.length : Int)) = false := decide_eq_false c32z
                    obtain ⟨Au, rfl, hsu⟩ := hu8
                    have HSU := Lib.hid hsu
                    clear hsu
                    go_wp2_with fail
                    go_quiet (fail)
                    go_wp2
                    go_roundg g'
                    case measure => omega
                    case rel => exact ⟨drewN_below HBU.out nq, u, ⟨Au, rfl, HSU.out⟩, VU.out, by omega, by omega⟩
              · have hz2b : ((Z2 : Int) == 0) = false := by simp; omega
                go_quiet (first | (with_reducible exact CN2.out _) | (with_reducible exact CN3.out _))
                go_wp2
                go_roundg g'
                case measure => omega
                case rel => exact ⟨drewN_below HBQ.out nq, t2, HBt2q.out, V2.out, by omega, by omega⟩
            · have c16z : ¬ ((16 : Int) < (t2.length : Int)) := by omega
              have c16b : decide ((16 : Int) < (t2.length : Int)) = false := decide_eq_false c16z
              go_quiet (fail)
              go_wp2
              go_roundg g'
              case measure => omega
              case rel => exact ⟨drewN_below HBQ.out nq, t2, HBt2q.out, V2.out, by omega, by omega⟩
          · have hz1b : ((Z1 : Int) == 0) = false := by simp; omega
            go_wp2_with (with_reducible refine DN1.out.mono ?_; rintro e W1 ⟨rfl, q1, rfl⟩)
            go_roundg g'
            case measure => omega
            case rel => exact ⟨drewN_below HBW.out q1, t1, HB1.out, V1.out, by omega, by omega⟩
        · have c8z : ¬ ((8 : Int) < (t1.length : Int)) := by omega
          go_wp2
          go_roundg g'
          case measure => omega
          case rel => exact ⟨HBW.out, t1, HB1.out, V1.out, by omega, by omega⟩
      · as_aux_lemma =>
        have hge : 128 ≤ x0.toNat := by omega
        have hascz : ¬ ((x0.toNat : Int) < 128) := by omega
        obtain ⟨x1, hx1⟩ : ∃ x1, t.getD 1 0 = x1 := ⟨_, rfl⟩
        obtain ⟨x2, hx2⟩ : ∃ x2, t.getD 2 0 = x2 := ⟨_, rfl⟩
        obtain ⟨x3, hx3⟩ : ∃ x3, t.getD 3 0 = x3 := ⟨_, rfl⟩
        have l1 := x1.toNat_lt; have l2 := x2.toNat_lt; have l3 := x3.toNat_lt
        have hne : t ≠ [] := fun h => by rw [h] at h0; simp at h0
        have hlead := Lib.validD_lead t hne (by rw [HX0.out]; exact hge)
        rw [HX0.out, hx1, hx2, hx3, HV.out] at hlead
        have hc0 := HTr.out.1 x0.toNat hx0lt
        have hXlt : Lib.firstT x0.toNat < 256 := by rcases Lib.firstT_cases x0.toNat with h | h | h | h | h | h | h | h | h <;> omega
        obtain ⟨X, hX⟩ : ∃ X, Lib.firstT x0.toNat = X := ⟨_, rfl⟩
        rw [hX] at hc0 hXlt hlead
        have h7 := and7 ⟨X, hXlt⟩
        simp only at h7
        have ha0 : wr.cell? ⟨2, X / 16 * 2, none⟩ = some (.int .u8 (Lib.accLo (X / 16))) := by rw [Nat.mul_comm]; exact (HTr.out.2 (X / 16) (by omega)).1
        have ha1 : wr.cell? ⟨2, X / 16 * 2 + 1, none⟩ = some (.int .u8 (Lib.accHi (X / 16))) := by rw [Nat.mul_comm]; exact (HTr.out.2 (X / 16) (by omega)).2
        obtain ⟨LO, hLO⟩ : ∃ LO, Lib.accLo (X / 16) = LO := ⟨_, rfl⟩
        obtain ⟨HI, hHI⟩ : ∃ HI, Lib.accHi (X / 16) = HI := ⟨_, rfl⟩
        rw [hLO] at ha0 hlead
        rw [hHI] at ha1 hlead
        obtain ⟨SZ, hSZ⟩ : ∃ SZ, X % 8 = SZ := ⟨_, rfl⟩
        rw [hSZ] at hlead
        have HWA := Lib.hid (HBW.out.alloc HBW.out.size (.cells #[.int .u8 (LO : Int), .int .u8 (HI : Int)] 213))
        have HCA := Lib.hid (H8.out.below ((Below.refl B wr).alloc HBs.out (.cells #[.int .u8 (LO : Int), .int .u8 (HI : Int)] 213)))
        have HG := Lib.hid (heap_alloc_new wr (.cells #[.int .u8 (LO : Int), .int .u8 (HI : Int)] 213))
        have HX1 := Lib.hid hx1; have HX2 := Lib.hid hx2; have HX3 := Lib.hid hx3
        clear hX hLO hHI hne hx1 hx2 hx3
        by_cases s2 : SZ = 2
        · as_aux_lemma =>
          subst s2
          have hSZz : (X : Int) % 8 = 2 := by omega
          simp only [Lib.checkN, Nat.reduceEqDiff, if_true, if_false] at hlead
          have HLD := Lib.hid hlead
          clear hlead
          go_upto_region 18 with fail
          generalize wr.alloc (.cells #[.int .u8 (LO : Int), .int .u8 (HI : Int)] 213) = W at HWA HCA HG ⊢
          obtain ⟨b', off', e', hbB', hcA⟩ := HCA.out.form h0
          injection e' with e' _ _
          injection e' with e'
          injection e' with e1 e2 _
          subst e1; subst e2
          have k0 : W.cell? ⟨wr.heap.size, 0, none⟩ = some (.int .u8 (LO : Int)) := by rw [cellH HG.out]; rfl
          have k1 : W.cell? ⟨wr.heap.size, 1, none⟩ = some (.int .u8 (HI : Int)) := by rw [cellH HG.out]; rfl
          have HCC := Lib.hid hcA
          clear hcA
          go_cut [103] from 85 to 103 (fun c wx => c = .bool (decide (t.length < 2 ∨ x1.toNat < LO ∨ HI < x1.toNat)) ∧ ∃ q, wx = W.drewN q)
          case first =>
            by_cases q0 : t.length < 2
            · have q0z : (t.length : Int) < 2 := by omega
              go_quiet (fail)
              go_wp2
              go_meet
              exact ⟨congrArg Value.bool (decide_eq_true (p := t.length < 2 ∨ x1.toNat < LO ∨ HI < x1.toNat) (by omega)).symm, nq, rfl⟩
            · have q0z : ¬ ((t.length : Int) < 2) := by omega
              have hz1 : (1 : Int) < (t.length : Int) := by omega
              have y1 := HCC.out 1 (by omega)
              rw [HX1.out] at y1
              by_cases q1 : x1.toNat < LO
              · have q1z : (x1.toNat : Int) < (LO : Int) := by omega
                go_quiet (fail)
                go_wp2
                go_meet
                exact ⟨congrArg Value.bool (decide_eq_true (p := t.length < 2 ∨ x1.toNat < LO ∨ HI < x1.toNat) (by omega)).symm, nq, rfl⟩
              · have q1z : ¬ ((x1.toNat : Int) < (LO : Int)) := by omega
                by_cases q2 : HI < x1.toNat
                · have q2z : (HI : Int) < (x1.toNat : Int) := by omega
                  go_quiet (fail)
                  go_wp2
                  go_meet
                  exact ⟨congrArg Value.bool (decide_eq_true (p := t.length < 2 ∨ x1.toNat < LO ∨ HI < x1.toNat) (by omega)).symm, nq, rfl⟩
                · have q2z : ¬ ((HI : Int) < (x1.toNat : Int)) := by omega
                  go_quiet (fail)
                  go_wp2
                  go_meet
                  exact ⟨congrArg Value.bool (decide_eq_false (p := t.length < 2 ∨ x1.toNat < LO ∨ HI < x1.toNat) (by omega)).symm, nq, rfl⟩
          case rest =>
            obtain ⟨rfl, q, rfl⟩ := hcut
            by_cases hb : t.length < 2 ∨ x1.toNat < LO ∨ HI < x1.toNat
            · have hbd : decide (t.length < 2 ∨ x1.toNat < LO ∨ HI < x1.toNat) = true := decide_eq_true hb
              have hl2 := HLD.out
              rw [if_pos hb] at hl2
              have HL2 := Lib.hid hl2
              clear hl2
              go_wp2
              all_goals (go_ret; exact ⟨by rw [HL2.out]; rfl, drewN_below HWA.out q⟩)
            · have hbd : decide (t.length < 2 ∨ x1.toNat < LO ∨ HI < x1.toNat) = false := decide_eq_false hb
              have hl2 := HLD.out
              rw [if_neg hb] at hl2
              have HL2 := Lib.hid hl2
              clear hl2
              have hsl := slice_fromB b off t.length 2 (by omega)
              have hBd := HCA.out.drop (k := 2) (by omega)
              rw [show ((2 : Nat) : Int) = 2 from rfl] at hsl
              generalize (if t.length = 2 then some (Addr.mk b off none) else some (Addr.mk b (off + 2) none)) = A2 at hsl hBd
              have hlz : (t.drop 2).length = t.length - 2 := List.length_drop
              have HBD := Lib.hid hBd
              clear hBd
              go_wp2
              go_roundg g'
              case measure => omega
              case rel => exact ⟨drewN_below HWA.out q, _, HBD.out, HL2.out.symm, by omega, by omega⟩
        by_cases s3 : SZ = 3
        · as_aux_lemma =>
          subst s3
          have hSZz : (X : Int) % 8 = 3 := by omega
          simp only [Lib.checkN, Nat.reduceEqDiff, if_true, if_false] at hlead
          have HLD := Lib.hid hlead
          clear hlead
          go_upto_region 22 with fail
          generalize wr.alloc (.cells #[.int .u8 (LO : Int), .int .u8 (HI : Int)] 213) = W at HWA HCA HG ⊢
          obtain ⟨b', off', e', hbB', hcA⟩ := HCA.out.form h0
          injection e' with e' _ _
          injection e' with e'
          injection e' with e1 e2 _
          subst e1; subst e2
          have k0 : W.cell? ⟨wr.heap.size, 0, none⟩ = some (.int .u8 (LO : Int)) := by rw [cellH HG.out]; rfl
          have k1 : W.cell? ⟨wr.heap.size, 1, none⟩ = some (.int .u8 (HI : Int)) := by rw [cellH HG.out]; rfl
          have HCC := Lib.hid hcA
          clear hcA
          go_cut [138] from 108 to 138 (fun c wx => c = .bool (decide (t.length < 3 ∨ x1.toNat < LO ∨ HI < x1.toNat ∨ x2.toNat < 128 ∨ 191 < x2.toNat)) ∧ ∃ q, wx = W.drewN q)
          case first =>
            by_cases q0 : t.length < 3
            · have q0z : (t.length : Int) < 3 := by omega
              go_quiet (fail)
              go_wp2
              go_meet
              exact ⟨congrArg Value.bool (decide_eq_true (p := t.length < 3 ∨ x1.toNat < LO ∨ HI < x1.toNat ∨ x2.toNat < 128 ∨ 191 < x2.toNat) (by omega)).symm, nq, rfl⟩
            · have q0z : ¬ ((t.length : Int) < 3) := by omega
              have hz1 : (1 : Int) < (t.length : Int) := by omega
              have y1 := HCC.out 1 (by omega)
              rw [HX1.out] at y1
              have hz2 : (2 : Int) < (t.length : Int) := by omega
              have y2 := HCC.out 2 (by omega)
              rw [HX2.out] at y2
              by_cases q1 : x1.toNat < LO
              · have q1z : (x1.toNat : Int) < (LO : Int) := by omega
                go_quiet (fail)
                go_wp2
                go_meet
                exact ⟨congrArg Value.bool (decide_eq_true (p := t.length < 3 ∨ x1.toNat < LO ∨ HI < x1.toNat ∨ x2.toNat < 128 ∨ 191 < x2.toNat) (by omega)).symm, nq, rfl⟩
              · have q1z : ¬ ((x1.toNat : Int) < (LO : Int)) := by omega
                by_cases q2 : HI < x1.toNat
                · have q2z : (HI : Int) < (x1.toNat : Int) := by omega
                  go_quiet (fail)
                  go_wp2
                  go_meet
                  exact ⟨congrArg Value.bool (decide_eq_true (p := t.length < 3 ∨ x1.toNat < LO ∨ HI < x1.toNat ∨ x2.toNat < 128 ∨ 191 < x2.toNat) (by omega)).symm, nq, rfl⟩
                · have q2z : ¬ ((HI : Int) < (x1.toNat : Int)) := by omega
                  by_cases q3 : x2.toNat < 128
                  · have q3z : (x2.toNat : Int) < 128 := by omega
                    go_quiet (fail)
                    go_wp2
                    go_meet
                    exact ⟨congrArg Value.bool (decide_eq_true (p := t.length < 3 ∨ x1.toNat < LO ∨ HI < x1.toNat ∨ x2.toNat < 128 ∨ 191 < x2.toNat) (by omega)).symm, nq, rfl⟩
                  · have q3z : ¬ ((x2.toNat : Int) < 128) := by omega
                    by_cases q4 : 191 < x2.toNat
                    · have q4z : (191 : Int) < (x2.toNat : Int) := by omega
                      go_quiet (fail)
                      go_wp2
                      go_meet
                      exact ⟨congrArg Value.bool (decide_eq_true (p := t.length < 3 ∨ x1.toNat < LO ∨ HI < x1.toNat ∨ x2.toNat < 128 ∨ 191 < x2.toNat) (by omega)).symm, nq, rfl⟩
                    · have q4z : ¬ ((191 : Int) < (x2.toNat : Int)) := by omega
                      go_quiet (fail)
                      go_wp2
                      go_meet
                      exact ⟨congrArg Value.bool (decide_eq_false (p := t.length < 3 ∨ x1.toNat < LO ∨ HI < x1.toNat ∨ x2.toNat < 128 ∨ 191 < x2.toNat) (by omega)).symm, nq, rfl⟩
          case rest =>
            obtain ⟨rfl, q, rfl⟩ := hcut
            by_cases hb : t.length < 3 ∨ x1.toNat < LO ∨ HI < x1.toNat ∨ x2.toNat < 128 ∨ 191 < x2.toNat
            · have hbd : decide (t.length < 3 ∨ x1.toNat < LO ∨ HI < x1.toNat ∨ x2.toNat < 128 ∨ 191 < x2.toNat) = true := decide_eq_true hb
              have hl2 := HLD.out
              rw [if_pos hb] at hl2
              have HL2 := Lib.hid hl2
              clear hl2
              go_wp2
              all_goals (go_ret; exact ⟨by rw [HL2.out]; rfl, drewN_below HWA.out q⟩)
            · have hbd : decide (t.length < 3 ∨ x1.toNat < LO ∨ HI < x1.toNat ∨ x2.toNat < 128 ∨ 191 < x2.toNat) = false := decide_eq_false hb
              have hl2 := HLD.out
              rw [if_neg hb] at hl2
              have HL2 := Lib.hid hl2
              clear hl2
              have hsl := slice_fromB b off t.length 3 (by omega)
              have hBd := HCA.out.drop (k := 3) (by omega)
              rw [show ((3 : Nat) : Int) = 3 from rfl] at hsl
              generalize (if t.length = 3 then some (Addr.mk b off none) else some (Addr.mk b (off + 3) none)) = A2 at hsl hBd
              have hlz : (t.drop 3).length = t.length - 3 := List.length_drop
              have HBD := Lib.hid hBd
              clear hBd
              go_wp2
              go_roundg g'
              case measure => omega
              case rel => exact ⟨drewN_below HWA.out q, _, HBD.out, HL2.out.symm, by omega, by omega⟩
        by_cases s4 : SZ = 4
        · as_aux_lemma =>
          subst s4
          have hSZz : (X : Int) % 8 = 4 := by omega
          simp only [Lib.checkN, Nat.reduceEqDiff, if_true, if_false] at hlead
          have HLD := Lib.hid hlead
          clear hlead
          go_upto_region 26 with fail
          generalize wr.alloc (.cells #[.int .u8 (LO : Int), .int .u8 (HI : Int)] 213) = W at HWA HCA HG ⊢
          obtain ⟨b', off', e', hbB', hcA⟩ := HCA.out.form h0
          injection e' with e' _ _
          injection e' with e'
          injection e' with e1 e2 _
          subst e1; subst e2
          have k0 : W.cell? ⟨wr.heap.size, 0, none⟩ = some (.int .u8 (LO : Int)) := by rw [cellH HG.out]; rfl
          have k1 : W.cell? ⟨wr.heap.size, 1, none⟩ = some (.int .u8 (HI : Int)) := by rw [cellH HG.out]; rfl
          have HCC := Lib.hid hcA
          clear hcA
          go_cut [185] from 143 to 185 (fun c wx => c = .bool (decide (t.length < 4 ∨ x1.toNat < LO ∨ HI < x1.toNat ∨ x2.toNat < 128 ∨ 191 < x2.toNat ∨ x3.toNat < 128 ∨ 191 < x3.toNat)) ∧ ∃ q, wx = W.drewN q)
          case first =>
            by_cases q0 : t.length < 4
            · have q0z : (t.length : Int) < 4 := by omega
              go_quiet (fail)
              go_wp2
              go_meet
              exact ⟨congrArg Value.bool (decide_eq_true (p := t.length < 4 ∨ x1.toNat < LO ∨ HI < x1.toNat ∨ x2.toNat < 128 ∨ 191 < x2.toNat ∨ x3.toNat < 128 ∨ 191 < x3.toNat) (by omega)).symm, nq, rfl⟩
            · have q0z : ¬ ((t.length : Int) < 4) := by omega
              have hz1 : (1 : Int) < (t.length : Int) := by omega
              have y1 := HCC.out 1 (by omega)
              rw [HX1.out] at y1
              have hz2 : (2 : Int) < (t.length : Int) := by omega
              have y2 := HCC.out 2 (by omega)
              rw [HX2.out] at y2
              have hz3 : (3 : Int) < (t.length : Int) := by omega
              have y3 := HCC.out 3 (by omega)
              rw [HX3.out] at y3
              by_cases q1 : x1.toNat < LO
              · have q1z : (x1.toNat : Int) < (LO : Int) := by omega
                go_quiet (fail)
                go_wp2
                go_meet
                exact ⟨congrArg Value.bool (decide_eq_true (p := t.length < 4 ∨ x1.toNat < LO ∨ HI < x1.toNat ∨ x2.toNat < 128 ∨ 191 < x2.toNat ∨ x3.toNat < 128 ∨ 191 < x3.toNat) (by omega)).symm, nq, rfl⟩
              · have q1z : ¬ ((x1.toNat : Int) < (LO : Int)) := by omega
                by_cases q2 : HI < x1.toNat
                · have q2z : (HI : Int) < (x1.toNat : Int) := by omega
                  go_quiet (fail)
                  go_wp2
                  go_meet
                  exact ⟨congrArg Value.bool (decide_eq_true (p := t.length < 4 ∨ x1.toNat < LO ∨ HI < x1.toNat ∨ x2.toNat < 128 ∨ 191 < x2.toNat ∨ x3.toNat < 128 ∨ 191 < x3.toNat) (by omega)).symm, nq, rfl⟩
                · have q2z : ¬ ((HI : Int) < (x1.toNat : Int)) := by omega
                  by_cases q3 : x2.toNat < 128
                  · have q3z : (x2.toNat : Int) < 128 := by omega
                    go_quiet (fail)
                    go_wp2
                    go_meet
                    exact ⟨congrArg Value.bool (decide_eq_true (p := t.length < 4 ∨ x1.toNat < LO ∨ HI < x1.toNat ∨ x2.toNat < 128 ∨ 191 < x2.toNat ∨ x3.toNat < 128 ∨ 191 < x3.toNat) (by omega)).symm, nq, rfl⟩
                  · have q3z : ¬ ((x2.toNat : Int) < 128) := by omega
                    by_cases q4 : 191 < x2.toNat
                    · have q4z : (191 : Int) < (x2.toNat : Int) := by omega
                      go_quiet (fail)
                      go_wp2
                      go_meet
                      exact ⟨congrArg Value.bool (decide_eq_true (p := t.length < 4 ∨ x1.toNat < LO ∨ HI < x1.toNat ∨ x2.toNat < 128 ∨ 191 < x2.toNat ∨ x3.toNat < 128 ∨ 191 < x3.toNat) (by omega)).symm, nq, rfl⟩
                    · have q4z : ¬ ((191 : Int) < (x2.toNat : Int)) := by omega
                      by_cases q5 : x3.toNat < 128
                      · have q5z : (x3.toNat : Int) < 128 := by omega
                        go_quiet (fail)
                        go_wp2
                        go_meet
                        exact ⟨congrArg Value.bool (decide_eq_true (p := t.length < 4 ∨ x1.toNat < LO ∨ HI < x1.toNat ∨ x2.toNat < 128 ∨ 191 < x2.toNat ∨ x3.toNat < 128 ∨ 191 < x3.toNat) (by omega)).symm, nq, rfl⟩
                      · have q5z : ¬ ((x3.toNat : Int) < 128) := by omega
                        by_cases q6 : 191 < x3.toNat
                        · have q6z : (191 : Int) < (x3.toNat : Int) := by omega
                          go_quiet (fail)
                          go_wp2
                          go_meet
                          exact ⟨congrArg Value.bool (decide_eq_true (p := t.length < 4 ∨ x1.toNat < LO ∨ HI < x1.toNat ∨ x2.toNat < 128 ∨ 191 < x2.toNat ∨ x3.toNat < 128 ∨ 191 < x3.toNat) (by omega)).symm, nq, rfl⟩
                        · have q6z : ¬ ((191 : Int) < (x3.toNat : Int)) := by omega
                          go_quiet (fail)
                          go_wp2
                          go_meet
                          exact ⟨congrArg Value.bool (decide_eq_false (p := t.length < 4 ∨ x1.toNat < LO ∨ HI < x1.toNat ∨ x2.toNat < 128 ∨ 191 < x2.toNat ∨ x3.toNat < 128 ∨ 191 < x3.toNat) (by omega)).symm, nq, rfl⟩
          case rest =>
            obtain ⟨rfl, q, rfl⟩ := hcut
            by_cases hb : t.length < 4 ∨ x1.toNat < LO ∨ HI < x1.toNat ∨ x2.toNat < 128 ∨ 191 < x2.toNat ∨ x3.toNat < 128 ∨ 191 < x3.toNat
            · have hbd : decide (t.length < 4 ∨ x1.toNat < LO ∨ HI < x1.toNat ∨ x2.toNat < 128 ∨ 191 < x2.toNat ∨ x3.toNat < 128 ∨ 191 < x3.toNat) = true := decide_eq_true hb
              have hl2 := HLD.out
              rw [if_pos hb] at hl2
              have HL2 := Lib.hid hl2
              clear hl2
              go_wp2
              all_goals (go_ret; exact ⟨by rw [HL2.out]; rfl, drewN_below HWA.out q⟩)
            · have hbd : decide (t.length < 4 ∨ x1.toNat < LO ∨ HI < x1.toNat ∨ x2.toNat < 128 ∨ 191 < x2.toNat ∨ x3.toNat < 128 ∨ 191 < x3.toNat) = false := decide_eq_false hb
              have hl2 := HLD.out
              rw [if_neg hb] at hl2
              have HL2 := Lib.hid hl2
              clear hl2
              have hsl := slice_fromB b off t.length 4 (by omega)
              have hBd := HCA.out.drop (k := 4) (by omega)
              rw [show ((4 : Nat) : Int) = 4 from rfl] at hsl
              generalize (if t.length = 4 then some (Addr.mk b off none) else some (Addr.mk b (off + 4) none)) = A2 at hsl hBd
              have hlz : (t.drop 4).length = t.length - 4 := List.length_drop
              have HBD := Lib.hid hBd
              clear hBd
              go_wp2
              go_roundg g'
              case measure => omega
              case rel => exact ⟨drewN_below HWA.out q, _, HBD.out, HL2.out.symm, by omega, by omega⟩
        · have e2 : ¬ ((X : Int) % 8 = 2) := by omega
          have e3 : ¬ ((X : Int) % 8 = 3) := by omega
          have e4 : ¬ ((X : Int) % 8 = 4) := by omega
          have e2b : (((X : Int) % 8) == 2) = false := by simp; omega
          have e3b : (((X : Int) % 8) == 3) = false := by simp; omega
          have e4b : (((X : Int) % 8) == 4) = false := by simp; omega
          simp only [Lib.checkN, s2, s3, s4, if_false] at hlead
          have HLD := Lib.hid hlead
          clear hlead
          go_wp2
          all_goals (go_ret; exact ⟨by rw [HLD.out]; rfl, HWA.out⟩)
    · have h0z : ¬ ((0 : Int) < (t.length : Int)) := by omega
      have ht0 : t = [] := List.eq_nil_of_length_eq_zero (by omega)
      obtain ⟨At, rfl, _⟩ := h8
      have HE := Lib.hid (show true = ANS by have := HV.out; rw [ht0, Lib.validD_nil] at this; exact this)
      go_wp2
      go_ret
      exact ⟨by rw [HE.out]; rfl, HBW.out⟩
end Go.Proofs.YthpjneobmmpbnaaGreatDoor
namespace Go.Proofs.YthpjneobmmpbnaaGreatDoor
open Go.RowKit Go.MapKept Go.Maps
def toBA (b : Bs) : ByteArray := ⟨b.toArray⟩
/-- the tables, apart from the Reader -/
structure TabsR (rb : Nat) (w : World) : Prop where
  tabs : Lib.Utf8Tabs 1 2 w
  n1 : 1 < rb
  n2 : 2 < rb
theorem TabsR.fr {rb : Nat} {w w' : World} (h : TabsR rb w) (hf : Fr [rb] w w') : TabsR rb w' := by
  obtain ⟨t, n1, n2⟩ := h
  have hk : ∀ (p : Addr) v, p.block < rb → w.cell? p = some v → w'.cell? p = some v := fun p v hp hv => by
    rw [← hv]; exact hf.cellJ (World.block_lt_of_cell? w _ hv) (by simp; omega)
  exact ⟨⟨fun c hc => hk _ _ n1 (t.1 c hc), fun i hi => ⟨hk _ _ n2 (t.2 i hi).1, hk _ _ n2 (t.2 i hi).2⟩⟩, n1, n2⟩
theorem conv_slT {w : World} {B n c : Nat} {A : Option Addr} {l : Bs} (h : Sl w B enc8 1 A n l) :
    (convert 22 9 (.slice A n c)).run Tryz.prog w = .ok (.string (toBA l)) w := by
  have hl := h.len
  rcases Nat.eq_zero_or_pos n with h0 | h0
  · subst h0
    have := List.eq_nil_of_length_eq_zero hl
    subst this
    cases A with
    | none => exact Lib.run_convert_nil_bytes w 22 9 5 c Tryz.underlying22 Tryz.underlying5 Tryz.underlying9
    | some a => exact run_convert_bytes_back w 22 9 5 a c [] Tryz.underlying22 Tryz.underlying5 Tryz.underlying9 (fun j hj => absurd hj (by simp))
  · obtain ⟨b, off, rfl, _, hc⟩ := h.2 h0
    subst hl
    refine run_convert_bytes_back w 22 9 5 ⟨b, off, none⟩ c l Tryz.underlying22 Tryz.underlying5 Tryz.underlying9 ?_
    intro j hj
    have := hc j hj 0 _ rfl
    rw [getElem!_pos l j hj] at this
    have e2 : (⟨b, off, none⟩ : Addr).add j = ⟨b, off + j, none⟩ := by
      simp only [Addr.add]; by_cases h0 : j = 0 <;> simp [h0]
    rw [e2]
    simpa using this
set_option maxRecDepth 100000 in
theorem rText_any {w : World} {rb n c p : Nat} {A : Option Addr} {l : Bs} (mi : Int) (m : Nat) (hmi : mi = (m : Int)) (h : Rd w rb A n c l p) (hm : m ≤ 1048576) (hT : TabsR rb w) :
    Calls Tryz.prog 115 #[.pointer (some ⟨rb, 0, none⟩), .int .i64 mi] w (RdOut rb A n c l w (textP l m p) (fun b u _ => u = .string (toBA b))) := by
  subst hmi
  have hN := rBytes_any _ m rfl h hm
  have HD := Lib.hid (done_any h)
  have HT := Lib.hid hT
  clear h hT
  rcases hT : bytesP l m p with ⟨q, k⟩ | ⟨b, q⟩
  · have HG := Lib.hid (show textP l m p = .error (q, k) by unfold textP; rw [hT]; rfl)
    rw [hT] at hN
    have HN := Lib.hid hN
    clear hN hT
    go_enter Tryz.func115, Tryz.ntmps115
    go_wp2_with fail
    refine HD.out.mono ?_
    rintro e w1 ⟨rfl, rfl⟩
    go_wp2_with fail
    refine HN.out.mono ?_
    rintro e w2 ⟨rfl, hr, hf⟩
    refine ⟨rfl, ?_⟩
    rw [HG.out]
    exact ⟨rfl, hr, hf⟩
  · obtain ⟨rfl, hbm⟩ := bytesP_ok hT
    rw [hT] at hN
    have HN := Lib.hid hN
    by_cases hv : Lib.validD b = true
    · have HG := Lib.hid (show textP l m p = .ok (b, p + 4 + b.length) by unfold textP; rw [hT]; exact if_pos hv)
      clear hN hT
      go_enter Tryz.func115, Tryz.ntmps115
      go_wp2_with fail
      refine HD.out.mono ?_
      rintro e w1 ⟨rfl, rfl⟩
      go_wp2_with fail
      refine HN.out.mono ?_
      rintro e w2 ⟨⟨u, rfl, A2, c2, rfl, hs, hn, hc2⟩, hr, hf⟩
      have hV := valid8_any w2 hs (Nat.le_of_lt hr.lt) hc2 (by omega) (HT.out.fr hf).tabs
      rw [hv] at hV
      have HV := Lib.hid hV; have HR := Lib.hid hr; have HF := Lib.hid hf; have HS := Lib.hid hs
      clear hV hr hf hs hn
      go_wp2_with fail
      refine HV.out.mono ?_
      rintro e w3 ⟨rfl, hb⟩
      have HR3 := Lib.hid (HR.out.below hb)
      have HF3 := Lib.hid (HF.out.transJ (Fr.of_below hb))
      have hcv := conv_slT (c := c2) ((HS.out.more (Nat.le_of_lt HR.out.lt)).below hb)
      clear hb
      go_wp2_with fail
      go_ret
      rw [HG.out]
      exact ⟨⟨_, rfl, rfl⟩, HR3.out, HF3.out⟩
    · have HG := Lib.hid (show textP l m p = .error (p, 22) by unfold textP; rw [hT]; exact if_neg hv)
      have hv2 : Lib.validD b = false := by simpa using hv
      clear hN hT hv
      go_enter Tryz.func115, Tryz.ntmps115
      go_wp2_with fail
      refine HD.out.mono ?_
      rintro e w1 ⟨rfl, rfl⟩
      go_wp2_with fail
      refine HN.out.mono ?_
      rintro e w2 ⟨⟨u, rfl, A2, c2, rfl, hs, hn, hc2⟩, hr, hf⟩
      have hV := valid8_any w2 hs (Nat.le_of_lt hr.lt) hc2 (by omega) (HT.out.fr hf).tabs
      rw [hv2] at hV
      have HV := Lib.hid hV; have HR := Lib.hid hr; have HF := Lib.hid hf
      have hw : IntKind.i64.wrap (4 + (b.length : Int)) = ((4 + b.length : Nat) : Int) := by rw [IntWalk.i64_in _ (by omega)]; omega
      clear hV hr hf hs hn
      go_wp2_with fail
      refine HV.out.mono ?_
      rintro e w3 ⟨rfl, hb⟩
      have HR3 := Lib.hid (HR.out.below hb)
      have HF3 := Lib.hid (HF.out.transJ (Fr.of_below hb))
      clear hb
      go_wp2_with fail
      refine (back_any _ (4 + b.length) (by omega) 22 HR3.out (by omega) (by decide)).mono ?_
      rintro e w4 ⟨rfl, hr2, hf2⟩
      refine ⟨rfl, ?_⟩
      rw [HG.out]
      rw [show p + 4 + b.length - (4 + b.length) = p by omega] at hr2
      exact ⟨rfl, hr2, HF3.out.transJ hf2⟩
def idV (v : Bs × Bs) : IdV := (toBA v.1, toBA v.2)
/-- an entry -/
def aclP (l : Bs) (p : Nat) : PR (Int × Bs × Bs) := (intP l p).then fun k a => (idP l a).then fun i b => .ok ((k, i), b)
def aclV (v : Int × Bs × Bs) : AclV := (v.1, idV v.2)
end Go.Proofs.YthpjneobmmpbnaaGreatDoor
namespace Go.Proofs.YthpjneobmmpbnaaGreatDoor
open Go.RowKit Go.MapKept Go.Maps
/-- the cells of a call of Read: the place, the error, the Reader, the variable that points to it -/
structure RdC (w : World) (a1 a2 rb pr : Nat) (A : Option Addr) (n c : Nat) (p : Nat) : Prop where
  h1 : ∃ v, w.heap[a1]? = some (.cells #[.int .i64 v] 3 (0, 0))
  h2 : ∃ v, w.heap[a2]? = some (.cells #[.int .i64 v] 39 (0, 0))
  rc : w.heap[rb]? = some (.cells #[.slice A n c, .int .i64 (p : Int), .bool false] 187 (0, 0))
  hp : w.heap[pr]? = some (.cells #[.pointer (some ⟨rb, 0, none⟩)] 95 (0, 0))
  n1 : a1 ≠ a2 ∧ a1 ≠ rb ∧ a1 ≠ pr ∧ a2 ≠ rb ∧ a2 ≠ pr ∧ rb ≠ pr
theorem wpS_seqR {P : Program} {Q : Exit → Act → List Frame → World → Prop} {a : Act} {cs : List Frame} {w : World} {id : Nat} {ops : Array Oper} {y : Code}
    (h : ∀ K : Act → List Frame → World → Prop, (∀ a' cs' w', y.wpS P Q a' cs' w' → K a' cs' w') → wpOpsS P ops (Exit.thenS K Q) (List.range ops.size) a cs w) : (Code.seq (.region id ops false) y).wpS P Q a cs w :=
  wpS_seq (wpS_region (h _ (fun _ _ _ h => h)))
set_option maxRecDepth 100000 in
set_option maxHeartbeats 400000 in
theorem read1_ok {w : World} {a1 a2 rb pr n c p : Nat} {A : Option Addr} (h : RdC w a1 a2 rb pr A n c p) :
    CallsD Tryz.prog 170 #[.pointer (some ⟨pr, 0, none⟩), .pointer (some ⟨a1, 0, none⟩), .pointer (some ⟨a2, 0, none⟩)] .returning w fun e u' w' => e = .returned (.tuple #[]) ∧ u' = .returning ∧ Fr [rb] w w' := by
  have kp : w.cell? ⟨pr, 0, none⟩ = some (.pointer (some ⟨rb, 0, none⟩)) := by rw [cellH h.hp]; rfl
  have z0 : w.frozen? ⟨rb, 0, none⟩ = false := by simp [World.frozen?, h.rc]
  have z2 : w.frozen? ⟨rb, 2, none⟩ = false := by simp [World.frozen?, h.rc]
  have hnp := h.n1.2.2.2.2.2
  have k2 : w.cell? ⟨rb, 2, none⟩ = some (.bool false) := by rw [cellH h.rc]; rfl
  have k0 : w.cell? ⟨rb, 0, none⟩ = some (.slice A n c) := by rw [cellH h.rc]; rfl
  have hfr : Fr [rb] w ((w.setCell ⟨rb, 2, none⟩ (.bool true)).setCell ⟨rb, 0, none⟩ (.slice none 0 0)) := (fr_setJ w rb 2 _).setJ (by simp) 0 _
  have HFR := Lib.hid hfr
  have H := Lib.hid h
  clear h hfr
  refine callsD_of_wpS Tryz.func170 rfl fun c₀ cs hu => ?_
  simp only [Tryz.ntmps170, List.size_toArray, List.length_cons, List.length_nil, Nat.reduceAdd, Nat.reduceSub, Array.replicate_succ, Array.replicate_zero, List.push_toArray, List.append_toArray, List.nil_append, List.cons_append]
  obtain ⟨Q, hQ⟩ : ∃ Q, Q = bodyPostS Tryz.prog Tryz.f170 c₀ cs (fun e u' w' => e = .returned (.tuple #[]) ∧ u' = .returning ∧ Fr [rb] w w') := ⟨_, rfl⟩
  rw [← hQ]
  have HQ := Lib.hid hQ
  clear hQ
  refine wpS_seqR fun K hK => ?_
  simp [wpOpsS, go_sem, kp, z2, k2, Exit.thenS]
  apply hK
  clear hK
  refine wpS_seqR fun K hK => ?_
  simp [wpOpsS, go_sem, kp, z0, k0, Exit.thenS]
  apply hK
  clear hK
  refine wpS_seqR fun K hK => ?_
  simp [wpOpsS, go_sem, recoverD, hu, Exit.thenS]
  apply hK
  clear hK
  refine wpS_of_wp ?_
  obtain ⟨QQ, hQQ⟩ : ∃ QQ : Exit → Act → World → Prop, QQ = fun e a' w' => Q e a' (c₀ :: cs) w' := ⟨_, rfl⟩
  rw [← hQQ]
  have HQQ := Lib.hid hQQ
  clear hQQ
  have hn : ∀ w : World, (binOp .neq 20 .nilIface .nilIface).run Tryz.prog w = .ok (.bool false) w := fun w => by kernel_rfl
  go_wp2_with fail
  rw [HQQ.out, HQ.out]
  exact ⟨rfl, .returning, by rw [← hu], .tuple #[], by simp [results, Tryz.results170, go_sem], rfl, rfl, HFR.out⟩
set_option maxRecDepth 100000 in
set_option maxHeartbeats 400000 in
theorem read1_fail {w : World} {a1 a2 rb pr n c p : Nat} {A : Option Addr} (k : Int) (h : RdC w a1 a2 rb pr A n c p) :
    CallsD Tryz.prog 170 #[.pointer (some ⟨pr, 0, none⟩), .pointer (some ⟨a1, 0, none⟩), .pointer (some ⟨a2, 0, none⟩)] (.panicking [failV rb k]) w fun e u' w' => e = .returned (.tuple #[]) ∧ u' = .panicking [{ v := .iface 140 (.agg #[.pointer (some ⟨rb, 0, none⟩), .int .i64 k]), recovered := true }] ∧ Fr [rb, a1, a2] w w' ∧ w'.heap[a1]? = some (.cells #[.int .i64 (p : Int)] 3 (0, 0)) ∧ w'.heap[a2]? = some (.cells #[.int .i64 k] 39 (0, 0)) := by
  have kp : w.cell? ⟨pr, 0, none⟩ = some (.pointer (some ⟨rb, 0, none⟩)) := by rw [cellH h.hp]; rfl
  have z0 : w.frozen? ⟨rb, 0, none⟩ = false := by simp [World.frozen?, h.rc]
  have z2 : w.frozen? ⟨rb, 2, none⟩ = false := by simp [World.frozen?, h.rc]
  have hnp := h.n1.2.2.2.2.2
  have k2 : w.cell? ⟨rb, 2, none⟩ = some (.bool false) := by rw [cellH h.rc]; rfl
  have k0 : w.cell? ⟨rb, 0, none⟩ = some (.slice A n c) := by rw [cellH h.rc]; rfl
  have hfr : Fr [rb] w ((w.setCell ⟨rb, 2, none⟩ (.bool true)).setCell ⟨rb, 0, none⟩ (.slice none 0 0)) := (fr_setJ w rb 2 _).setJ (by simp) 0 _
  have HFR := Lib.hid hfr
  have H := Lib.hid h
  clear h hfr
  refine callsD_of_wpS Tryz.func170 rfl fun c₀ cs hu => ?_
  simp only [Tryz.ntmps170, List.size_toArray, List.length_cons, List.length_nil, Nat.reduceAdd, Nat.reduceSub, Array.replicate_succ, Array.replicate_zero, List.push_toArray, List.append_toArray, List.nil_append, List.cons_append]
  obtain ⟨Q, hQ⟩ : ∃ Q, Q = bodyPostS Tryz.prog Tryz.f170 c₀ cs (fun e u' w' => e = .returned (.tuple #[]) ∧ u' = .panicking [{ v := .iface 140 (.agg #[.pointer (some ⟨rb, 0, none⟩), .int .i64 k]), recovered := true }] ∧ Fr [rb, a1, a2] w w' ∧ w'.heap[a1]? = some (.cells #[.int .i64 (p : Int)] 3 (0, 0)) ∧ w'.heap[a2]? = some (.cells #[.int .i64 k] 39 (0, 0))) := ⟨_, rfl⟩
  rw [← hQ]
  have HQ := Lib.hid hQ
  clear hQ
  refine wpS_seqR fun K hK => ?_
  simp [wpOpsS, go_sem, kp, z2, k2, Exit.thenS]
  apply hK
  clear hK
  refine wpS_seqR fun K hK => ?_
  simp [wpOpsS, go_sem, kp, z0, k0, Exit.thenS]
  apply hK
  clear hK
  refine wpS_seqR fun K hK => ?_
  simp [wpOpsS, go_sem, recoverD, hu, failV, Exit.thenS]
  apply hK
  clear hK
  refine wpS_of_wp ?_
  generalize hc1 : { c₀ with mode := _ } = c₁
  have HC1 := Lib.hid hc1
  clear hc1
  obtain ⟨QQ, hQQ⟩ : ∃ QQ : Exit → Act → World → Prop, QQ = fun e a' w' => Q e a' (c₁ :: cs) w' := ⟨_, rfl⟩
  rw [← hQQ]
  have HQQ := Lib.hid hQQ
  clear hQQ
  have hcell := heap_setJ (o := 0) (heap_setJ (o := 2) H.out.rc (.bool true)) (.slice none 0 0)
  have HCell := Lib.hid hcell
  have h1 := H.out.h1
  have h2 := H.out.h2
  obtain ⟨v1, h1⟩ := h1
  obtain ⟨v2, h2⟩ := h2
  have hb1 : Fr [rb] w _ := HFR.out
  obtain ⟨n1, n2, n3, n4, n5, n6⟩ := H.out.n1
  have g1 := (HFR.out.block a1 (Array.getElem?_eq_some_iff.1 h1).1 (by simpa using n2)).trans h1
  have g2 := (HFR.out.block a2 (Array.getElem?_eq_some_iff.1 h2).1 (by simpa using n4)).trans h2
  have gp := (HFR.out.block pr (Array.getElem?_eq_some_iff.1 H.out.hp).1 (by simpa using Ne.symm n6)).trans H.out.hp
  have l1 := (Array.getElem?_eq_some_iff.1 g1).1
  have l2 := (Array.getElem?_eq_some_iff.1 g2).1
  have lr := (Array.getElem?_eq_some_iff.1 HCell.out).1
  have lp := (Array.getElem?_eq_some_iff.1 gp).1
  have HG1 := Lib.hid g1; have HG2 := Lib.hid g2; have HGp := Lib.hid gp
  clear hcell hb1 g1 g2 gp h1 h2 kp z0 z2 k2 k0
  generalize (w.setCell ⟨rb, 2, none⟩ (.bool true)).setCell ⟨rb, 0, none⟩ (.slice none 0 0) = W2 at *
  have hal : Below W2.heap.size W2 (W2.alloc (.cells #[.pointer (some ⟨rb, 0, none⟩), .int .i64 k] 140)) := (Below.refl _ _).alloc (Nat.le_refl _) _
  have HAL := Lib.hid hal
  have hg9 := heap_alloc_new W2 (.cells #[.pointer (some ⟨rb, 0, none⟩), .int .i64 k] 140)
  have HG9 := Lib.hid hg9
  clear hal hg9
  have kp : W2.cell? ⟨pr, 0, none⟩ = some (.pointer (some ⟨rb, 0, none⟩)) := by rw [cellH HGp.out]; rfl
  have hlp : pr ≠ W2.heap.size := by omega
  have hl1 : a1 ≠ W2.heap.size := by omega
  have hl2 : a2 ≠ W2.heap.size := by omega
  have hlr : rb ≠ W2.heap.size := by omega
  have hta : ∀ (v : Value) (w : World), (Instr.typeAssert (.iface 140 v) 20 140 true).run Tryz.prog w = .ok (.tuple #[v, .bool true]) w := fun v w => by kernel_rfl
  have hne : ∀ (w : World), (binOp .neq 95 (.pointer (some ⟨rb, 0, none⟩)) (.pointer (some ⟨rb, 0, none⟩))).run Tryz.prog w = .ok (.bool false) w := fun w => by
    obtain ⟨j, hj⟩ : ∃ j, Tryz.prog.info? 187 = some j := Option.isSome_iff_exists.1 (by kernel_rfl)
    exact Lib.run_neq_ptr_same w ⟨rb, 0, none⟩ Tryz.underlying95 hj
  go_upto_region 5 with fail
  generalize hfb : W2.heap.size = fb at *
  have HFB := Lib.hid hfb
  clear hfb
  have HA := Lib.hid (show Fr [rb] W2 (W2.alloc (.cells #[.pointer (some ⟨rb, 0, none⟩), .int .i64 k] 140)) from Fr.of_below (by rw [HFB.out]; exact HAL.out))
  have j1 := (HA.out.block a1 (by rw [HFB.out]; exact l1) (by simpa using n2)).trans HG1.out
  have j2 := (HA.out.block a2 (by rw [HFB.out]; exact l2) (by simpa using n4)).trans HG2.out
  have jp := (HA.out.block pr (by rw [HFB.out]; exact lp) (by simpa using Ne.symm n6)).trans HGp.out
  have jr := (HAL.out.block rb lr).trans HCell.out
  have J1 := Lib.hid j1; have J2 := Lib.hid j2
  generalize W2.alloc (.cells #[.pointer (some ⟨rb, 0, none⟩), .int .i64 k] 140) = W3 at *
  have kp3 : W3.cell? ⟨pr, 0, none⟩ = some (.pointer (some ⟨rb, 0, none⟩)) := by rw [cellH jp]; rfl
  have kf0 : W3.cell? ⟨fb, 0, none⟩ = some (.pointer (some ⟨rb, 0, none⟩)) := by rw [cellH HG9.out]; rfl
  have kf1 : W3.cell? ⟨fb, 1, none⟩ = some (.int .i64 k) := by rw [cellH HG9.out]; rfl
  have k1 : W3.cell? ⟨rb, 1, none⟩ = some (.int .i64 (p : Int)) := by rw [cellH jr]; rfl
  have e1 : W3.cell? ⟨a1, 0, none⟩ = some (.int .i64 v1) := by rw [cellH j1]; rfl
  have e2 : W3.cell? ⟨a2, 0, none⟩ = some (.int .i64 v2) := by rw [cellH j2]; rfl
  have z1 : W3.frozen? ⟨a1, 0, none⟩ = false := by simp [World.frozen?, j1]
  have z2 : W3.frozen? ⟨a2, 0, none⟩ = false := by simp [World.frozen?, j2]
  clear kp jp jr j1 j2
  go_wp2_with fail
  go_region
  go_wp2_with fail
  rw [HQQ.out, HQ.out]
  have hm1 := heap_setJ (o := 0) J1.out (.int .i64 (p : Int))
  have hm1' := (heap_otherJ (W3.setCell ⟨a1, 0, none⟩ (.int .i64 (p : Int))) a2 0 (.int .i64 k) n1).trans hm1
  have hm2 := heap_setJ (o := 0) ((heap_otherJ W3 a1 0 (.int .i64 (p : Int)) (Ne.symm n1)).trans J2.out) (.int .i64 k)
  have hf3 : Fr [rb, a1, a2] w W3 := by
    have := HFR.out.trans HA.out (fun g hg => .inl hg)
    exact ⟨this.os, this.tape, this.output, this.size, fun g hg hn => this.block g hg (by simp at hn ⊢; exact hn.1)⟩
  have hf4 := (hf3.setJ (b := a1) (by simp) 0 (.int .i64 (p : Int))).setJ (b := a2) (by simp) 0 (.int .i64 k)
  exact ⟨rfl, _, by rw [← HC1.out], .tuple #[], by simp [results, Tryz.results170, go_sem], rfl, rfl, ⟨hf4.os, hf4.tape, hf4.output, hf4.size, hf4.block⟩, hm1', hm2⟩
/-- how a call of Read ends -/
def ReadOut {α : Type} (x : PR α) (P : World → α → World → Prop) (R : World → World → Prop) (xb : List Nat) (w : World) (e : Ending) (w' : World) : Prop :=
  Fr xb w w' ∧ ∃ W, Below w.heap.size w W ∧ match x with
  | .ok (v, q) => e = .returned (.tuple #[.int .i64 (q : Int), .int .i64 0]) ∧ P W v w'
  | .error (q, k) => e = .returned (.tuple #[.int .i64 (q : Int), .int .i64 k]) ∧ R W w'
theorem rdc_new {w : World} {n c : Nat} {A : Option Addr} {l : Bs} (hs : Sl w w.heap.size enc8 1 A n l) (hn : n ≤ 1099511627776) (hc : n ≤ c) (hA : A = none → n = 0 ∧ c = 0) :
    ∃ W, W = ((((w.alloc (.cells #[.int .i64 0] 3)).alloc (.cells #[.int .i64 0] 39)).alloc (.cells #[.slice A n c, .int .i64 0, .bool false] 187)).alloc (.cells #[.pointer (some ⟨w.heap.size + 1 + 1, 0, none⟩)] 95)) ∧
      RdC W w.heap.size (w.heap.size + 1) (w.heap.size + 1 + 1) (w.heap.size + 1 + 1 + 1) A n c 0 ∧ Below w.heap.size w W ∧ W.heap.size = w.heap.size + 4 ∧ Rd W (w.heap.size + 1 + 1) A n c l 0 := by
  refine ⟨_, rfl, ?_⟩
  have g1 := heap_alloc_new w (.cells #[.int .i64 0] 3)
  have b1 : Below w.heap.size w _ := (Below.refl _ w).alloc (Nat.le_refl _) (.cells #[.int .i64 0] 3)
  have s1 : (w.alloc (.cells #[.int .i64 0] 3)).heap.size = w.heap.size + 1 := by simp
  generalize w.alloc (.cells #[.int .i64 0] 3) = w1 at *
  have g2 := heap_alloc_new w1 (.cells #[.int .i64 0] 39)
  have b2 : Below w1.heap.size w1 _ := (Below.refl _ w1).alloc (Nat.le_refl _) (.cells #[.int .i64 0] 39)
  have s2 : (w1.alloc (.cells #[.int .i64 0] 39)).heap.size = w1.heap.size + 1 := by simp
  generalize w1.alloc (.cells #[.int .i64 0] 39) = w2 at *
  have g3 := heap_alloc_new w2 (.cells #[.slice A n c, .int .i64 0, .bool false] 187)
  have b3 : Below w2.heap.size w2 _ := (Below.refl _ w2).alloc (Nat.le_refl _) (.cells #[.slice A n c, .int .i64 0, .bool false] 187)
  have s3 : (w2.alloc (.cells #[.slice A n c, .int .i64 0, .bool false] 187)).heap.size = w2.heap.size + 1 := by simp
  generalize w2.alloc (.cells #[.slice A n c, .int .i64 0, .bool false] 187) = w3 at *
  have g4 := heap_alloc_new w3 (.cells #[.pointer (some ⟨w.heap.size + 1 + 1, 0, none⟩)] 95)
  have b4 : Below w3.heap.size w3 _ := (Below.refl _ w3).alloc (Nat.le_refl _) (.cells #[.pointer (some ⟨w.heap.size + 1 + 1, 0, none⟩)] 95)
  have s4 : (w3.alloc (.cells #[.pointer (some ⟨w.heap.size + 1 + 1, 0, none⟩)] 95)).heap.size = w3.heap.size + 1 := by simp
  generalize w3.alloc (.cells #[.pointer (some ⟨w.heap.size + 1 + 1, 0, none⟩)] 95) = w4 at *
  have e1 := (b4.block _ (by omega)).trans ((b3.block _ (by omega)).trans ((b2.block w.heap.size (by omega)).trans g1))
  have e2 := (b4.block _ (by omega)).trans ((b3.block w1.heap.size (by omega)).trans g2)
  have e3 := (b4.block w2.heap.size (by omega)).trans g3
  rw [s2, s1] at e3
  rw [s1] at e2
  rw [s3, s2, s1] at g4
  have hb : Below w.heap.size w w4 := ((b1.trans (b2.mono (by omega))).trans (b3.mono (by omega))).trans (b4.mono (by omega))
  exact ⟨⟨⟨0, e1⟩, ⟨0, e2⟩, e3, g4, by omega⟩, hb, by omega, ⟨e3, hs.belowMore hb (by omega), Nat.zero_le _, hn, hc, hA⟩⟩
theorem RdC.fr {w w1 W : World} {n c q : Nat} {A : Option Addr} {xb : List Nat} (h : RdC W w.heap.size (w.heap.size + 1) (w.heap.size + 1 + 1) (w.heap.size + 1 + 1 + 1) A n c 0) (_hx : ∀ g ∈ xb, g < w.heap.size) (hf : Fr ((w.heap.size + 1 + 1) :: xb) W w1) (hr : w1.heap[w.heap.size + 1 + 1]? = some (.cells #[.slice A n c, .int .i64 (q : Int), .bool false] 187 (0, 0))) : RdC w1 w.heap.size (w.heap.size + 1) (w.heap.size + 1 + 1) (w.heap.size + 1 + 1 + 1) A n c q := by
  have hk : ∀ g, w.heap.size ≤ g → g ≠ w.heap.size + 1 + 1 → g ∉ ((w.heap.size + 1 + 1) :: xb) := fun g h1 h2 hm => by
    rcases List.mem_cons.1 hm with e | e
    · exact h2 e
    · have := _hx g e; omega
  obtain ⟨⟨v1, h1⟩, ⟨v2, h2⟩, _, hp, n1⟩ := h
  exact ⟨⟨v1, (hf.block _ (Array.getElem?_eq_some_iff.1 h1).1 (hk _ (by omega) (by omega))).trans h1⟩, ⟨v2, (hf.block _ (Array.getElem?_eq_some_iff.1 h2).1 (hk _ (by omega) (by omega))).trans h2⟩, hr, (hf.block _ (Array.getElem?_eq_some_iff.1 hp).1 (hk _ (by omega) (by omega))).trans hp, n1⟩
theorem rdc_set {w1 : World} {a1 a2 rb pr n c p : Nat} {A : Option Addr} {q : Int} (h : RdC w1 a1 a2 rb pr A n c p) : RdC ((w1.setCell ⟨a1, 0, none⟩ (.int .i64 q)).setCell ⟨a2, 0, none⟩ (.int .i64 0)) a1 a2 rb pr A n c p ∧ Fr [a1, a2] w1 ((w1.setCell ⟨a1, 0, none⟩ (.int .i64 q)).setCell ⟨a2, 0, none⟩ (.int .i64 0)) ∧
    ((w1.setCell ⟨a1, 0, none⟩ (.int .i64 q)).setCell ⟨a2, 0, none⟩ (.int .i64 0)).heap[a1]? = some (.cells #[.int .i64 q] 3 (0, 0)) ∧ ((w1.setCell ⟨a1, 0, none⟩ (.int .i64 q)).setCell ⟨a2, 0, none⟩ (.int .i64 0)).heap[a2]? = some (.cells #[.int .i64 0] 39 (0, 0)) := by
  obtain ⟨⟨v1, h1⟩, ⟨v2, h2⟩, hr, hp, n1, n2, n3, n4, n5, n6⟩ := h
  have g1 := heap_setJ (o := 0) h1 (.int .i64 q)
  have g1' := (heap_otherJ (w1.setCell ⟨a1, 0, none⟩ (.int .i64 q)) a2 0 (.int .i64 0) n1).trans g1
  have g2 := heap_setJ (o := 0) ((heap_otherJ w1 a1 0 (.int .i64 q) (Ne.symm n1)).trans h2) (.int .i64 0)
  have hf : Fr [a1, a2] w1 ((w1.setCell ⟨a1, 0, none⟩ (.int .i64 q)).setCell ⟨a2, 0, none⟩ (.int .i64 0)) := by
    have h0 : Fr [a1, a2] w1 (w1.setCell ⟨a1, 0, none⟩ (.int .i64 q)) := (Fr.refl [a1, a2] w1).setJ (by simp) 0 _
    exact h0.setJ (by simp) 0 _
  have hp' := (hf.block pr (Array.getElem?_eq_some_iff.1 hp).1 (by simp; omega)).trans hp
  have hr' := (hf.block rb (Array.getElem?_eq_some_iff.1 hr).1 (by simp; omega)).trans hr
  exact ⟨⟨⟨_, g1'⟩, ⟨_, g2⟩, hr', hp', n1, n2, n3, n4, n5, n6⟩, hf, g1', g2⟩
theorem read_fr {w w1 w2 W : World} {xb own : List Nat} {rb : Nat} (hB : Below w.heap.size w W) (hf : Fr (rb :: xb) W w1) (hf2 : Fr own w1 w2) (ho : ∀ g ∈ rb :: own, w.heap.size ≤ g) : Fr xb w w2 := by
  have h1 : Fr xb w w1 := ⟨hf.os.trans hB.os, hf.tape.trans hB.tape, hf.output.trans hB.output, Nat.le_trans hB.size hf.size, fun g hg hn => (hf.block g (Nat.lt_of_lt_of_le hg hB.size) (by
    intro hm
    rcases List.mem_cons.1 hm with e | e
    · have := ho rb (by simp); omega
    · exact hn e)).trans (hB.block g hg)⟩
  exact h1.trans hf2 fun g hg => .inr (ho g (by simp [hg]))
set_option maxRecDepth 100000 in
set_option maxHeartbeats 400000 in
theorem read_any {α : Type} {w : World} {n c : Nat} {A : Option Addr} {l : Bs} (x : PR α) (P : World → α → World → Prop) (R : World → World → Prop) (xb : List Nat) (F : Nat) (first cap : Array Value)
    (hs : Sl w w.heap.size enc8 1 A n l) (hn : n ≤ 1099511627776) (hc : n ≤ c) (hA : A = none → n = 0 ∧ c = 0) (hE : ∀ (args : Array Value) (w : World), (callFunc F args).run Tryz.prog w = .ok (.enter F args) w) (hxb : ∀ g ∈ xb, g < w.heap.size)
    (hP : ∀ W v w1 w2 own, P W v w1 → Fr own w1 w2 → (∀ g ∈ own, w.heap.size ≤ g ∧ g < W.heap.size) → P W v w2) (hR : ∀ W w1 w2 own, R W w1 → Fr own w1 w2 → (∀ g ∈ own, w.heap.size ≤ g ∧ g < W.heap.size) → R W w2)
    (hdo : ∀ W rb, Below w.heap.size w W → w.heap.size ≤ rb → Rd W rb A n c l 0 → Calls Tryz.prog F (first.push (.pointer (some ⟨rb, 0, none⟩)) ++ cap) W fun e w' => Fr (rb :: xb) W w' ∧ match x with
      | .ok (v, q) => e = .returned (.tuple #[]) ∧ P W v w' ∧ w'.heap[rb]? = some (.cells #[.slice A n c, .int .i64 (q : Int), .bool false] 187 (0, 0))
      | .error (q, k) => e = .panicked [failV rb k] ∧ R W w' ∧ w'.heap[rb]? = some (.cells #[.slice A n c, .int .i64 (q : Int), .bool false] 187 (0, 0))) :
    Calls Tryz.prog 111 #[.slice A n c, .func (.func F) first cap] w (ReadOut x P R xb w) := by
  have hq : ∀ w : World, (binOp .eql 100 (.func (.func F) first cap) .nilFunc).run Tryz.prog w = .ok (.bool false) w := fun w => by kernel_rfl
  have hmf : ∀ (fn : Fn) (first cap : Array Value) (w : World), (Instr.makeFunc fn first cap).run Tryz.prog w = .ok (.func fn first cap) w := fun _ _ _ _ => rfl
  obtain ⟨W, hW, hC, hB, hZ, hRd⟩ := rdc_new hs hn hc hA
  have HW := Lib.hid hW; have HC := Lib.hid hC; have HB := Lib.hid hB; have HZ := Lib.hid hZ; have HXB := Lib.hid hxb
  have HD := Lib.hid (hdo W (w.heap.size + 1 + 1) hB (by omega) hRd)
  have HP := Lib.hid hP; have HR := Lib.hid hR
  clear hW hC hB hZ hRd hxb hdo hP hR hs hA
  go_enter_defers Tryz.func111, Tryz.ntmps111
  go_wp2_with fail
  rw [← HW.out]
  rcases x with ⟨q, k⟩ | ⟨v, q⟩
  · refine HD.out.mono ?_
    rintro e w1 ⟨hf, rfl, hR1, hrd⟩
    have hC1 := HC.out.fr HXB.out hf hrd
    refine leaves_cons (f := 170) (args := #[.pointer (some ⟨w.heap.size + 1 + 1 + 1, 0, none⟩), .pointer (some ⟨w.heap.size, 0, none⟩), .pointer (some ⟨w.heap.size + 1, 0, none⟩)]) (by simp) (by simp [go_sem]) ?_
    refine (read1_fail k hC1).mono ?_
    rintro e u' w2 ⟨rfl, rfl, hf2, g1, g2⟩
    have y1 : w2.cell? ⟨w.heap.size, 0, none⟩ = some (.int .i64 (q : Int)) := by rw [cellH g1]; rfl
    have y2 : w2.cell? ⟨w.heap.size + 1, 0, none⟩ = some (.int .i64 k) := by rw [cellH g2]; rfl
    have HF := Lib.hid (show ReadOut (Except.error (q, k)) P R xb w (.returned (.tuple #[.int .i64 (q : Int), .int .i64 k])) w2 from
      ⟨read_fr HB.out hf hf2 (fun g hg => by simp at hg; omega), W, HB.out, rfl, HR.out _ _ _ _ hR1 hf2 (fun g hg => by rw [HZ.out]; simp at hg; omega)⟩)
    clear hR1 hrd hC1 hf hf2 g1 g2
    simp [Leaves, settle, results, Tryz.results111, go_sem, y1, y2]
    exact HF.out
  · refine HD.out.mono ?_
    rintro e w1 ⟨hf, rfl, hP1, hrd⟩
    have hC1 := HC.out.fr HXB.out hf hrd
    obtain ⟨v1, h1⟩ := hC1.h1
    obtain ⟨v2, h2⟩ := hC1.h2
    have e1 : w1.cell? ⟨w.heap.size, 0, none⟩ = some (.int .i64 v1) := by rw [cellH h1]; rfl
    have e2 : w1.cell? ⟨w.heap.size + 1, 0, none⟩ = some (.int .i64 v2) := by rw [cellH h2]; rfl
    have z1 : w1.frozen? ⟨w.heap.size, 0, none⟩ = false := by simp [World.frozen?, h1]
    have z2 : w1.frozen? ⟨w.heap.size + 1, 0, none⟩ = false := by simp [World.frozen?, h2]
    have kp : w1.cell? ⟨w.heap.size + 1 + 1 + 1, 0, none⟩ = some (.pointer (some ⟨w.heap.size + 1 + 1, 0, none⟩)) := by rw [cellH hC1.hp]; rfl
    have kq : w1.cell? ⟨w.heap.size + 1 + 1, 1, none⟩ = some (.int .i64 (q : Int)) := by rw [cellH hrd]; rfl
    have hr2 := rdc_set hC1 (q := (q : Int))
    have HR2 := Lib.hid hr2
    have HF1 := Lib.hid hf; have HP1 := Lib.hid hP1
    clear hf hP1 hrd hC1 h1 h2 hr2
    dsimp only
    go_wp2_with fail
    generalize (w1.setCell ⟨w.heap.size, 0, none⟩ (.int .i64 (q : Int))).setCell ⟨w.heap.size + 1, 0, none⟩ (.int .i64 0) = w3 at *
    obtain ⟨hC3, hf3, i1, i2⟩ := HR2.out
    refine leaves_cons (f := 170) (args := #[.pointer (some ⟨w.heap.size + 1 + 1 + 1, 0, none⟩), .pointer (some ⟨w.heap.size, 0, none⟩), .pointer (some ⟨w.heap.size + 1, 0, none⟩)]) (by simp) (by simp [go_sem]) ?_
    refine (read1_ok hC3).mono ?_
    rintro e u' w4 ⟨rfl, rfl, hf4⟩
    have i1' := (hf4.block _ (Array.getElem?_eq_some_iff.1 i1).1 (by simp; omega)).trans i1
    have i2' := (hf4.block _ (Array.getElem?_eq_some_iff.1 i2).1 (by simp)).trans i2
    have y1 : w4.cell? ⟨w.heap.size, 0, none⟩ = some (.int .i64 (q : Int)) := by rw [cellH i1']; rfl
    have y2 : w4.cell? ⟨w.heap.size + 1, 0, none⟩ = some (.int .i64 0) := by rw [cellH i2']; rfl
    have hf5 : Fr [w.heap.size, w.heap.size + 1, w.heap.size + 1 + 1] w1 w4 := by
      have a1 : Fr [w.heap.size, w.heap.size + 1, w.heap.size + 1 + 1] w1 w3 := ⟨hf3.os, hf3.tape, hf3.output, hf3.size, fun g hg hn => hf3.block g hg (fun hm => hn (by simp at hm ⊢; omega))⟩
      exact a1.trans hf4 (fun g hg => .inl (by simp at hg ⊢; omega))
    have HF := Lib.hid (show ReadOut (Except.ok (v, q)) P R xb w (.returned (.tuple #[.int .i64 (q : Int), .int .i64 0])) w4 from
      ⟨read_fr HB.out HF1.out hf5 (fun g hg => by simp at hg; omega), W, HB.out, rfl, HP.out _ _ _ _ _ HP1.out hf5 (fun g hg => by rw [HZ.out]; simp at hg; omega)⟩)
    clear hC3 hf3 i1 i2 hf4 i1' i2' hf5 e1 e2 z1 z2 kp kq
    simp [Leaves, settle, results, Tryz.results111, go_sem, y1, y2]
    exact HF.out
end Go.Proofs.YthpjneobmmpbnaaGreatDoor
