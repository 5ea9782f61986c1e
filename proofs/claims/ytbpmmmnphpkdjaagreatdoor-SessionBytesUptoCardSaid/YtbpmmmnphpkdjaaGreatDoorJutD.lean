/- The walks of a Reader's done, Fail, Left, next, number, Int, Long, size, bytes, Text, Count, Buffer. Condition: at most 2^20 bytes. -/
import Derived.Test.YtbpmmmnphpkdjaaGreatDoorJutW2
import Derived.Laws.Bits64b
namespace Go.Proofs.YtbpmmmnphpkdjaaGreatDoor
open Go.RowKit Go.MapKept Go.Maps
section
variable {w : World} {rb n c p : Nat} {A : Option Addr} {l : Bs}
theorem Rd.c0 (h : Rd w rb A n c l p) : w.cell? ⟨rb, 0, none⟩ = some (.slice A n c) := by rw [cellH h.cell]; rfl
theorem Rd.c1 (h : Rd w rb A n c l p) : w.cell? ⟨rb, 1, none⟩ = some (.int .i64 (p : Int)) := by rw [cellH h.cell]; rfl
theorem Rd.c2 (h : Rd w rb A n c l p) : w.cell? ⟨rb, 2, none⟩ = some (.bool false) := by rw [cellH h.cell]; rfl
theorem Rd.f1 (h : Rd w rb A n c l p) (o : Nat) : w.frozen? ⟨rb, o, none⟩ = false := by simp [World.frozen?, h.cell]
theorem Rd.len (h : Rd w rb A n c l p) : l.length = n := h.sl.len
theorem Rd.drewN (h : Rd w rb A n c l p) (q : Nat) : Rd (w.drewN q) rb A n c l p := ⟨h.cell, h.sl, h.at_, h.small, h.cap, h.nil⟩
theorem Rd.step (h : Rd w rb A n c l p) (k : Nat) {q : Nat} (hq : q ≤ n) : Rd ((w.drewN k).setCell ⟨rb, 1, none⟩ (.int .i64 (q : Int))) rb A n c l q ∧ Fr [rb] w ((w.drewN k).setCell ⟨rb, 1, none⟩ (.int .i64 (q : Int))) := by
  have hf : Fr [rb] w ((w.drewN k).setCell ⟨rb, 1, none⟩ (.int .i64 (q : Int))) := (Fr.of_below (drewN_self w k)).setJ (by simp) 1 _
  exact ⟨h.go hf (heap_setJ (w := w.drewN k) h.cell _) hq, hf⟩
end
theorem Fr.drewJ {own : List Nat} (w : World) (k : Nat) : Fr own w (w.drewN k) := Fr.of_below (drewN_self w k)
theorem Fr.transJ {rb : Nat} {w w1 w2 : World} (h : Fr [rb] w w1) (k : Fr [rb] w1 w2) : Fr [rb] w w2 := h.trans k (fun _ hg => .inl hg)
set_option maxRecDepth 100000 in
theorem done_any {w : World} {rb n c p : Nat} {A : Option Addr} {l : Bs} (h : Rd w rb A n c l p) :
    Calls Tryz.prog 162 #[.pointer (some ⟨rb, 0, none⟩)] w fun e w' => e = .returned (.bool false) ∧ w = w' := by
  have k2 := h.c2
  clear h
  go_enter Tryz.func162, Tryz.ntmps162
  go_wp2_with fail
  go_ret
  exact ⟨rfl, rfl⟩
set_option maxRecDepth 100000 in
theorem fail_any {w : World} {rb n c p : Nat} {A : Option Addr} {l : Bs} (k : Int) (h : Rd w rb A n c l p) (hk : k ≠ 0) :
    Calls Tryz.prog 202 #[.pointer (some ⟨rb, 0, none⟩), .int .i64 k] w fun e w' => e = .panicked [failV rb k] ∧ w = w' := by
  have HD := Lib.hid (done_any h)
  have hk2 : (k != 0) = true := by simpa using hk
  have hp : ∀ (v : Value) (w : World), (Instr.panic (.iface 182 v)).run Tryz.prog w = .halt (.panic (.iface 182 v)) w := fun v w => rfl
  clear h
  go_enter Tryz.func202, Tryz.ntmps202
  go_wp2_with fail
  refine HD.out.mono ?_
  rintro e w1 ⟨rfl, rfl⟩
  go_wp2_with fail
  exact ⟨rfl, rfl, rfl⟩
set_option maxRecDepth 100000 in
theorem left_any {w : World} {rb n c p : Nat} {A : Option Addr} {l : Bs} (h : Rd w rb A n c l p) :
    Calls Tryz.prog 201 #[.pointer (some ⟨rb, 0, none⟩)] w fun e w' => e = .returned (.int .i64 ((n : Int) - (p : Int))) ∧ ∃ q, w' = w.drewN q := by
  have HD := Lib.hid (done_any h)
  have k0 := h.c0; have k1 := h.c1
  have hs := h.small; have ha := h.at_
  have hw : IntKind.i64.wrap ((n : Int) - (p : Int)) = (n : Int) - (p : Int) := IntWalk.i64_in _ (by omega)
  clear h
  go_enter Tryz.func201, Tryz.ntmps201
  go_wp2_with fail
  refine HD.out.mono ?_
  rintro e w1 ⟨rfl, rfl⟩
  go_wp2_with fail
  go_quiet (fail)
  go_wp2_with fail
  go_ret
  exact ⟨rfl, nq, rfl⟩
theorem slice_mid (A : Option Addr) (n c p m : Nat) (hm : p + m ≤ n) (hc : n ≤ c) (w : World) : (Instr.sliceAt 41 (.slice A n c) (some (.int .i64 ↑p)) (some (.int .i64 (↑p + ↑m))) none).run Tryz.prog w = .ok (.slice (if c = p then A else A.map (·.add p)) m (c - p)) w := by
  have h0 : (0 : Int) ≤ ↑p := by omega
  have h1 : ((p : Nat) : Int) ≤ ↑p + ↑m := by omega
  have h2 : ((p : Nat) : Int) + ↑m ≤ ↑c := by omega
  have h3 : ((p : Nat) : Int) + ↑m ≤ ↑n := by omega
  go_simp
  omega
/-- bytes that lie below the Reader -/
def BufAt (rb : Nat) (b : Bs) (u : Value) (w : World) : Prop := ∃ A c, u = .slice A b.length c ∧ Sl w rb enc8 1 A b.length b ∧ (A = none → b.length = 0 ∧ c = 0) ∧ b.length ≤ c
theorem BufAt.fr {w w' : World} {rb : Nat} {b : Bs} {u : Value} (h : BufAt rb b u w) (hf : Fr [rb] w w') (hb : rb < w.heap.size) : BufAt rb b u w' := by
  obtain ⟨A, c, e, hs, hn, hc⟩ := h
  exact ⟨A, c, e, hs.fr hf (Nat.le_of_lt hb) (fun g hg => by rw [List.mem_singleton.1 hg]; exact Nat.le_refl _), hn, hc⟩
theorem BufAt.mid {w : World} {rb n c p m : Nat} {A : Option Addr} {l : Bs} (h : Rd w rb A n c l p) (hm : p + m ≤ n) : BufAt rb ((l.drop p).take m) (.slice (if c = p then A else A.map (·.add p)) m (c - p)) w ∧ ((l.drop p).take m).length = m := by
  have hl := h.len
  have hlen : ((l.drop p).take m).length = m := by rw [List.length_take, List.length_drop]; omega
  refine ⟨⟨if c = p then A else A.map (·.add p), c - p, by rw [hlen], ?_, fun e => ?_, by rw [hlen]; have := h.cap; omega⟩, hlen⟩
  · rw [hlen]
    refine ⟨hlen, fun h0 => ?_⟩
    have hc := h.cap
    rw [if_neg (by omega)]
    obtain ⟨b, off, e, hb, hcl⟩ := h.sl.2 (by omega)
    refine ⟨b, off + p, by rw [e]; simp only [Option.map_some, Addr.add]; by_cases h0 : p = 0 <;> simp [h0], hb, fun j hj i u hu => ?_⟩
    have e1 : ((l.drop p).take m)[j]! = l[p + j]! := by
      rw [getElem!_pos _ j (by rw [hlen]; exact hj), getElem!_pos l (p + j) (by omega)]; simp
    have := hcl (p + j) (by omega) i u (by rw [← hu, e1])
    rw [← this]; congr 2; omega
  · have hn : A = none := by
      by_cases h1 : c = p
      · rw [if_pos h1] at e; exact e
      · rw [if_neg h1] at e; simpa using e
    obtain ⟨h1, h2⟩ := h.nil hn
    rw [hlen]; omega
def RdBuf (rb : Nat) (b : Bs) (u : Value) (w : World) : Prop := BufAt rb b u w
set_option maxRecDepth 100000 in
theorem next_any {w : World} {rb n c p : Nat} {A : Option Addr} {l : Bs} (m : Nat) (h : Rd w rb A n c l p) (hm9 : m ≤ 1048576) :
    Calls Tryz.prog 164 #[.pointer (some ⟨rb, 0, none⟩), .int .i64 (m : Int)] w (RdOut rb A n c l w (takeP l m p) (fun b u w' => BufAt rb b u w')) := by
  have HL := Lib.hid (left_any h)
  have HR := Lib.hid h
  have k0 := h.c0; have k1 := h.c1; have f1 := h.f1 1
  have hs := h.small; have ha := h.at_; have hc := h.cap
  have hl := h.len
  by_cases hm : p + m ≤ n
  · have hm2 : ¬ ((n : Int) - (p : Int)) < (m : Int) := by omega
    have hw : IntKind.i64.wrap ((p : Int) + (m : Int)) = (p : Int) + (m : Int) := IntWalk.i64_in _ (by omega)
    have hsl := slice_mid A n c p m hm hc
    have hmid := BufAt.mid h hm
    have HT := Lib.hid (show takeP l m p = .ok ((l.drop p).take m, p + m) by unfold takeP; rw [if_neg (by omega)])
    have HQ := Lib.hid hm
    clear h hm
    generalize (if c = p then A else A.map (·.add p)) = A2 at hmid hsl
    generalize c - p = c2 at hmid hsl
    have HM := Lib.hid hmid
    clear hmid
    go_enter Tryz.func164, Tryz.ntmps164
    go_wp2_with fail
    refine HL.out.mono ?_
    rintro e w1 ⟨rfl, q1, rfl⟩
    go_wp2_with fail
    go_quiet (fail)
    go_wp2_with fail
    go_ret
    have hst := HR.out.step (q1 + nq) HQ.out
    have hb := HM.out.1.fr hst.2 HR.out.lt
    rw [HT.out]
    rw [← Int.natCast_add]
    exact ⟨⟨_, rfl, hb⟩, hst.1, hst.2⟩
  · have hm2 : ((n : Int) - (p : Int)) < (m : Int) := by omega
    have HT := Lib.hid (show takeP l m p = .error (p, 20) by unfold takeP; rw [if_pos (by omega)])
    clear h hm
    go_enter Tryz.func164, Tryz.ntmps164
    go_wp2_with fail
    refine HL.out.mono ?_
    rintro e w1 ⟨rfl, q1, rfl⟩
    go_wp2_with fail
    refine (fail_any 20 (HR.out.drewN q1) (by decide)).mono ?_
    rintro e w2 ⟨rfl, rfl⟩
    refine ⟨rfl, ?_⟩
    rw [HT.out]
    exact ⟨rfl, HR.out.drewN q1, Fr.drewJ _ _⟩
/-- the number of some bytes -/
theorem beN_snoc (a : Bs) (b : UInt8) : beN (a ++ [b]) = beN a * 256 + b.toNat := by simp [beN]
theorem beN_lt : ∀ (l : Bs), beN l < 256 ^ l.length := by
  have go : ∀ (n : Nat) (l : Bs), l.length = n → beN l < 256 ^ n := by
    intro n
    induction n with
    | zero => intro l h; rw [List.eq_nil_of_length_eq_zero h]; simp [beN]
    | succ n ih =>
      intro l h
      have hne : l ≠ [] := fun e => by rw [e] at h; simp at h
      have e := List.dropLast_concat_getLast hne
      rw [← e, beN_snoc, Nat.pow_succ]
      have h1 := ih l.dropLast (by rw [List.length_dropLast, h]; omega)
      have h2 := (l.getLast hne).toNat_lt
      omega
  exact fun l => go _ l rfl
theorem pow_le7 (k : Nat) (h : k ≤ 7) : 256 ^ k ≤ 72057594037927936 := by
  have := Nat.pow_le_pow_right (show 0 < 256 by decide) h
  exact this
theorem or_beN (x b : Nat) (hx : x < 72057594037927936) (hb : b < 256) : bits .or .u64 (((x * 256 : Nat)) : Int) (b : Int) = ((x * 256 + b : Nat) : Int) := by
  rw [bits_or_u64_nat _ _ (by omega) (by omega)]
  have h := Nat.shiftLeft_add_eq_or_of_lt (i := 8) (b := b) (by omega) x
  rw [Nat.shiftLeft_eq, show (2 : Nat) ^ 8 = 256 from rfl] at h
  rw [h]
def NbR (l : Bs) (w : World) (x i : Value) (wr : World) : Prop := ∃ k : Nat, x = .int .u64 ((beN (l.take k) : Nat) : Int) ∧ i = .int .i64 (k : Int) ∧ k ≤ l.length ∧ ∃ q, wr = w.drewN q
set_option maxRecDepth 100000 in
theorem beNum_any {B m c : Nat} {A : Option Addr} {l : Bs} (w : World) (h : Sl w B enc8 1 A m l) (hm : m ≤ 8) :
    Calls Tryz.prog 163 #[.slice A m c] w fun e w' => e = .returned (.int .u64 ((beN l : Nat) : Int)) ∧ ∃ q, w' = w.drewN q := by
  have HS := Lib.hid h
  have HL := Lib.hid h.len
  clear h
  go_enter Tryz.func163, Tryz.ntmps163
  go_wp2_with fail
  go_loopw [3, 8] (fun x i wr => NbR l w x i wr) (fun _ i _ => m - (RowKit.intOf i).toNat)
  case atStart => exact ⟨0, rfl, rfl, Nat.zero_le _, 0, rfl⟩
  case round =>
    obtain ⟨k, rfl, rfl, hk, q, rfl⟩ := hrel
    by_cases hkm : k < m
    · have hlt : (k : Int) < (m : Int) := by omega
      obtain ⟨b, off, rfl, _, x0⟩ := HS.out.at8 hkm
      have hk1 : k < l.length := by rw [HL.out]; exact hkm
      have hst : beN (l.take (k + 1)) = beN (l.take k) * 256 + l[k]!.toNat := by
        rw [List.take_succ_eq_append_getElem hk1, beN_snoc, getElem!_pos l k hk1]
      have hx : beN (l.take k) < 72057594037927936 := Nat.lt_of_lt_of_le (beN_lt _) (pow_le7 _ (by rw [List.length_take]; omega))
      have hby := l[k]!.toNat_lt
      have hor := or_beN (beN (l.take k)) l[k]!.toNat hx hby
      rw [← hst] at hor
      generalize l[k]!.toNat = y at *
      generalize hX : beN (l.take k) = X at *
      have HST := Lib.hid hst
      clear hst
      generalize hY : beN (l.take (k + 1)) = Y at *
      have HY := Lib.hid hY
      clear hY
      have HX := Lib.hid hX
      clear hX
      go_wp2_with fail
      go_roundw
      case rel => exact ⟨k + 1, by rw [HY.out]; exact congrArg _ hor, by go_num, by omega, q, rfl⟩
      case measure => simp [RowKit.intOf]; omega
    · have hlt : ¬ (k : Int) < (m : Int) := by omega
      have HX := Lib.hid (show l.take k = l from List.take_of_length_le (by rw [HL.out]; omega))
      go_wp2_with fail
      go_ret
      rw [HX.out]
      exact ⟨rfl, q, rfl⟩
theorem takeP_len {l : Bs} {n p : Nat} {b : Bs} {q : Nat} (h : takeP l n p = .ok (b, q)) : b.length = n := by
  unfold takeP at h
  by_cases h1 : l.length - p < n
  · rw [if_pos h1] at h; cases h
  · rw [if_neg h1] at h
    injection h with h
    injection h with h _
    rw [← h, List.length_take, List.length_drop]; omega
theorem takeP_at {l : Bs} {n p : Nat} {b : Bs} {q : Nat} (h : takeP l n p = .ok (b, q)) : q = p + n := by
  unfold takeP at h
  by_cases h1 : l.length - p < n
  · rw [if_pos h1] at h; cases h
  · rw [if_neg h1] at h
    injection h with h
    injection h with _ h
    exact h.symm
theorem next_at {w : World} {rb n c p : Nat} {A : Option Addr} {l : Bs} (mi : Int) (m : Nat) (hmi : mi = (m : Int)) (h : Rd w rb A n c l p) (hm9 : m ≤ 1048576) :
    Calls Tryz.prog 164 #[.pointer (some ⟨rb, 0, none⟩), .int .i64 mi] w (RdOut rb A n c l w (takeP l m p) (fun b u w' => BufAt rb b u w')) := by
  subst hmi; exact next_any m h hm9
set_option maxRecDepth 100000 in
theorem rInt_any {w : World} {rb n c p : Nat} {A : Option Addr} {l : Bs} (h : Rd w rb A n c l p) :
    Calls Tryz.prog 132 #[.pointer (some ⟨rb, 0, none⟩)] w (RdOut rb A n c l w (intP l p) (fun v u _ => u = .int .i32 v)) := by
  have HD := Lib.hid (done_any h)
  have hN := next_at 4 4 rfl h (by decide)
  clear h
  rcases hT : takeP l 4 p with ⟨q, k⟩ | ⟨b, q⟩
  · have HG := Lib.hid (show intP l p = .error (q, k) by unfold intP; rw [hT]; rfl)
    rw [hT] at hN
    have HN := Lib.hid hN
    clear hN hT
    go_enter Tryz.func132, Tryz.ntmps132
    go_wp2_with fail
    refine HD.out.mono ?_
    rintro e w1 ⟨rfl, rfl⟩
    go_wp2_with fail
    refine HN.out.mono ?_
    rintro e w2 ⟨rfl, hr, hf⟩
    refine ⟨rfl, ?_⟩
    rw [HG.out]
    exact ⟨rfl, hr, hf⟩
  · have HG := Lib.hid (show intP l p = .ok (i32N (beN b), q) by unfold intP; rw [hT]; rfl)
    have HB := Lib.hid (takeP_len hT)
    rw [hT] at hN
    have HN := Lib.hid hN
    clear hN hT
    go_enter Tryz.func132, Tryz.ntmps132
    go_wp2_with fail
    refine HD.out.mono ?_
    rintro e w1 ⟨rfl, rfl⟩
    go_wp2_with fail
    refine HN.out.mono ?_
    rintro e w2 ⟨⟨u, rfl, A2, c2, rfl, hs, hn, _⟩, hr, hf⟩
    have HR := Lib.hid hr; have HF := Lib.hid hf
    have hM := beNum_any (c := c2) w2 hs (by rw [HB.out]; decide)
    have HM := Lib.hid hM
    have hlt := beN_lt b
    rw [HB.out] at hlt
    have HC := Lib.hid (show wrap32 (((beN b : Nat) : Int) % 4294967296) = i32N (beN b) by unfold i32N wrap32; split <;> omega)
    clear hr hf hs hn hM hlt
    go_wp2_with fail
    refine HM.out.mono ?_
    rintro e w3 ⟨rfl, q3, rfl⟩
    go_wp2_with fail
    go_ret
    rw [HG.out]
    exact ⟨⟨_, rfl, congrArg (Value.int .i32) HC.out⟩, HR.out.drewN q3, HF.out.transJ (Fr.drewJ _ _)⟩
set_option maxRecDepth 100000 in
theorem rLong_any {w : World} {rb n c p : Nat} {A : Option Addr} {l : Bs} (h : Rd w rb A n c l p) :
    Calls Tryz.prog 131 #[.pointer (some ⟨rb, 0, none⟩)] w (RdOut rb A n c l w (longP l p) (fun v u _ => u = .int .i64 v)) := by
  have HD := Lib.hid (done_any h)
  have hN := next_at 8 8 rfl h (by decide)
  clear h
  rcases hT : takeP l 8 p with ⟨q, k⟩ | ⟨b, q⟩
  · have HG := Lib.hid (show longP l p = .error (q, k) by unfold longP; rw [hT]; rfl)
    rw [hT] at hN
    have HN := Lib.hid hN
    clear hN hT
    go_enter Tryz.func131, Tryz.ntmps131
    go_wp2_with fail
    refine HD.out.mono ?_
    rintro e w1 ⟨rfl, rfl⟩
    go_wp2_with fail
    refine HN.out.mono ?_
    rintro e w2 ⟨rfl, hr, hf⟩
    refine ⟨rfl, ?_⟩
    rw [HG.out]
    exact ⟨rfl, hr, hf⟩
  · have HG := Lib.hid (show longP l p = .ok (i64N (beN b), q) by unfold longP; rw [hT]; rfl)
    have HB := Lib.hid (takeP_len hT)
    rw [hT] at hN
    have HN := Lib.hid hN
    clear hN hT
    go_enter Tryz.func131, Tryz.ntmps131
    go_wp2_with fail
    refine HD.out.mono ?_
    rintro e w1 ⟨rfl, rfl⟩
    go_wp2_with fail
    refine HN.out.mono ?_
    rintro e w2 ⟨⟨u, rfl, A2, c2, rfl, hs, hn, _⟩, hr, hf⟩
    have HR := Lib.hid hr; have HF := Lib.hid hf
    have hM := beNum_any (c := c2) w2 hs (by rw [HB.out]; decide)
    have HM := Lib.hid hM
    have hlt := beN_lt b
    rw [HB.out] at hlt
    have HC := Lib.hid (show wrap64 ((beN b : Nat) : Int) = i64N (beN b) by unfold i64N wrap64; split <;> omega)
    clear hr hf hs hn hM hlt
    go_wp2_with fail
    refine HM.out.mono ?_
    rintro e w3 ⟨rfl, q3, rfl⟩
    go_wp2_with fail
    go_ret
    rw [HG.out]
    exact ⟨⟨_, rfl, congrArg (Value.int .i64) HC.out⟩, HR.out.drewN q3, HF.out.transJ (Fr.drewJ _ _)⟩
theorem i32N_range {x : Nat} (h : x < 4294967296) : -2147483648 ≤ i32N x ∧ i32N x < 2147483648 := by
  unfold i32N; split <;> omega
theorem intP_ok {l : Bs} {p q : Nat} {v : Int} (h : intP l p = .ok (v, q)) : q = p + 4 ∧ -2147483648 ≤ v ∧ v < 2147483648 := by
  unfold intP at h
  rcases hT : takeP l 4 p with e | ⟨b, q'⟩
  · rw [hT] at h; cases h
  · rw [hT] at h
    injection h with h
    injection h with h1 h2
    have hl := beN_lt b
    rw [takeP_len hT] at hl
    rw [← h1, ← h2]
    exact ⟨takeP_at hT, i32N_range hl⟩
set_option maxRecDepth 100000 in
theorem back_any {w : World} {rb n c p : Nat} {A : Option Addr} {l : Bs} (mi : Int) (m : Nat) (hmi : mi = (m : Int)) (k : Int) (h : Rd w rb A n c l p) (hm : m ≤ p) (hk : k ≠ 0) :
    Calls Tryz.prog 239 #[.pointer (some ⟨rb, 0, none⟩), .int .i64 mi, .int .i64 k] w fun e w' => e = .panicked [failV rb k] ∧ Rd w' rb A n c l (p - m) ∧ Fr [rb] w w' := by
  subst hmi
  have k1 := h.c1; have f1 := h.f1 1
  have hs := h.small; have ha := h.at_
  have hw : IntKind.i64.wrap ((p : Int) - (m : Int)) = ((p - m : Nat) : Int) := by rw [IntWalk.i64_in _ (by omega)]; omega
  have hst := h.step 0 (q := p - m) (by omega)
  have hF := fail_any k hst.1 hk
  have HF := Lib.hid (show Calls Tryz.prog 202 #[.pointer (some ⟨rb, 0, none⟩), .int .i64 k] (w.setCell ⟨rb, 1, none⟩ (.int .i64 ((p - m : Nat) : Int))) fun e w' => e = .panicked [failV rb k] ∧ (w.setCell ⟨rb, 1, none⟩ (.int .i64 ((p - m : Nat) : Int))) = w' from hF)
  have HS := Lib.hid (show Rd (w.setCell ⟨rb, 1, none⟩ (.int .i64 ((p - m : Nat) : Int))) rb A n c l (p - m) ∧ Fr [rb] w (w.setCell ⟨rb, 1, none⟩ (.int .i64 ((p - m : Nat) : Int))) from hst)
  clear h hst hF
  generalize ((p - m : Nat) : Int) = pm at *
  go_enter Tryz.func239, Tryz.ntmps239
  go_wp2_with fail
  refine HF.out.mono ?_
  rintro e w1 ⟨rfl, rfl⟩
  exact ⟨rfl, rfl, HS.out⟩
theorem sizeP_ok {l : Bs} {p q m v : Nat} (h : sizeP l m p = .ok (v, q)) : q = p + 4 ∧ v ≤ m := by
  unfold sizeP at h
  rcases hT : intP l p with e | ⟨z, q'⟩
  · rw [hT] at h; cases h
  · rw [hT] at h
    obtain ⟨h1, h2, h3⟩ := intP_ok hT
    have h4 : (if z < 0 ∨ (m : Int) < z then (.error (p, 22) : PR Nat) else .ok (z.toNat, q')) = .ok (v, q) := h
    by_cases hc : z < 0 ∨ (m : Int) < z
    · rw [if_pos hc] at h4; cases h4
    · rw [if_neg hc] at h4
      injection h4 with h4
      injection h4 with h4 h5
      omega
set_option maxRecDepth 100000 in
theorem rSize_any {w : World} {rb n c p : Nat} {A : Option Addr} {l : Bs} (mi : Int) (m : Nat) (hmi : mi = (m : Int)) (h : Rd w rb A n c l p) :
    Calls Tryz.prog 238 #[.pointer (some ⟨rb, 0, none⟩), .int .i64 mi] w (RdOut rb A n c l w (sizeP l m p) (fun v u _ => u = .int .i64 (v : Int))) := by
  subst hmi
  have hN := rInt_any h
  clear h
  rcases hT : intP l p with ⟨q, k⟩ | ⟨z, q⟩
  · have HG := Lib.hid (show sizeP l m p = .error (q, k) by unfold sizeP; rw [hT]; rfl)
    rw [hT] at hN
    have HN := Lib.hid hN
    clear hN hT
    go_enter Tryz.func238, Tryz.ntmps238
    go_wp2_with fail
    refine HN.out.mono ?_
    rintro e w2 ⟨rfl, hr, hf⟩
    refine ⟨rfl, ?_⟩
    rw [HG.out]
    exact ⟨rfl, hr, hf⟩
  · obtain ⟨rfl, z1, z2⟩ := intP_ok hT
    have hw : IntKind.i64.wrap z = z := IntWalk.i64_in _ (by omega)
    by_cases hc : z < 0 ∨ (m : Int) < z
    · have HG := Lib.hid (show sizeP l m p = .error (p, 22) by unfold sizeP; rw [hT]; exact if_pos hc)
      rw [hT] at hN
      have HN := Lib.hid hN
      clear hN hT
      have fin : ∀ (W : World), Rd W rb A n c l (p + 4) → Fr [rb] w W → Calls Tryz.prog 239 #[.pointer (some ⟨rb, 0, none⟩), .int .i64 4, .int .i64 22] W fun e w' => e = .panicked [failV rb 22] ∧ RdOut rb A n c l w (sizeP l m p) (fun v u _ => u = .int .i64 (v : Int)) e w' := fun W hr hf => by
        refine (back_any 4 4 rfl 22 hr (by omega) (by decide)).mono ?_
        rintro e w' ⟨rfl, hr2, hf2⟩
        rw [HG.out]
        exact ⟨rfl, rfl, hr2, hf.transJ hf2⟩
      have FIN := Lib.hid fin
      clear fin
      rcases Int.lt_or_le z 0 with h0 | h0
      · go_enter Tryz.func238, Tryz.ntmps238
        go_wp2_with fail
        refine HN.out.mono ?_
        rintro e w2 ⟨⟨u, rfl, rfl⟩, hr, hf⟩
        have HR := Lib.hid hr; have HF := Lib.hid hf
        clear hr hf
        go_wp2_with fail
        refine (FIN.out _ HR.out HF.out).mono ?_
        rintro e w3 ⟨rfl, ho⟩
        exact ⟨rfl, ho⟩
      · have h1 : (m : Int) < z := by omega
        have h2 : ¬ z < 0 := by omega
        go_enter Tryz.func238, Tryz.ntmps238
        go_wp2_with fail
        refine HN.out.mono ?_
        rintro e w2 ⟨⟨u, rfl, rfl⟩, hr, hf⟩
        have HR := Lib.hid hr; have HF := Lib.hid hf
        clear hr hf
        go_wp2_with fail
        refine (FIN.out _ HR.out HF.out).mono ?_
        rintro e w3 ⟨rfl, ho⟩
        exact ⟨rfl, ho⟩
    · have HG := Lib.hid (show sizeP l m p = .ok (z.toNat, p + 4) by unfold sizeP; rw [hT]; exact if_neg hc)
      rw [hT] at hN
      have HN := Lib.hid hN
      have h1 : ¬ (m : Int) < z := by omega
      have h2 : ¬ z < 0 := by omega
      have HZ := Lib.hid (show (z.toNat : Int) = z by omega)
      clear hN hT hc
      go_enter Tryz.func238, Tryz.ntmps238
      go_wp2_with fail
      refine HN.out.mono ?_
      rintro e w2 ⟨⟨u, rfl, rfl⟩, hr, hf⟩
      have HR := Lib.hid hr; have HF := Lib.hid hf
      clear hr hf
      go_wp2_with fail
      go_ret
      rw [HG.out]
      exact ⟨⟨_, rfl, congrArg (Value.int .i64) HZ.out.symm⟩, HR.out, HF.out⟩
theorem bytesP_ok {l : Bs} {p q m : Nat} {b : Bs} (h : bytesP l m p = .ok (b, q)) : q = p + 4 + b.length ∧ b.length ≤ m := by
  unfold bytesP at h
  rcases hT : sizeP l m p with e | ⟨k, q'⟩
  · rw [hT] at h; cases h
  · rw [hT] at h
    obtain ⟨h1, h2⟩ := sizeP_ok hT
    have h4 : (if l.length - q' < k then (.error (p, 20) : PR Bs) else .ok ((l.drop q').take k, q' + k)) = .ok (b, q) := h
    by_cases hc : l.length - q' < k
    · rw [if_pos hc] at h4; cases h4
    · rw [if_neg hc] at h4
      injection h4 with h4
      injection h4 with h4 h5
      have : b.length = k := by rw [← h4, List.length_take, List.length_drop]; omega
      omega
set_option maxRecDepth 100000 in
theorem rBytes_any {w : World} {rb n c p : Nat} {A : Option Addr} {l : Bs} (mi : Int) (m : Nat) (hmi : mi = (m : Int)) (h : Rd w rb A n c l p) (hm : m ≤ 1048576) :
    Calls Tryz.prog 240 #[.pointer (some ⟨rb, 0, none⟩), .int .i64 mi] w (RdOut rb A n c l w (bytesP l m p) (fun b u w' => BufAt rb b u w')) := by
  subst hmi
  have hN := rSize_any _ m rfl h
  have HLen := Lib.hid h.len
  clear h
  rcases hT : sizeP l m p with ⟨q, k⟩ | ⟨z, q⟩
  · have HG := Lib.hid (show bytesP l m p = .error (q, k) by unfold bytesP; rw [hT]; rfl)
    rw [hT] at hN
    have HN := Lib.hid hN
    clear hN hT
    go_enter Tryz.func240, Tryz.ntmps240
    go_wp2_with fail
    refine HN.out.mono ?_
    rintro e w2 ⟨rfl, hr, hf⟩
    refine ⟨rfl, ?_⟩
    rw [HG.out]
    exact ⟨rfl, hr, hf⟩
  · obtain ⟨rfl, z1⟩ := sizeP_ok hT
    rw [hT] at hN
    have HN := Lib.hid hN
    by_cases hc : l.length - (p + 4) < z
    · have HG := Lib.hid (show bytesP l m p = .error (p, 20) by unfold bytesP; rw [hT]; exact if_pos hc)
      clear hN hT
      go_enter Tryz.func240, Tryz.ntmps240
      go_wp2_with fail
      refine HN.out.mono ?_
      rintro e w2 ⟨⟨u, rfl, rfl⟩, hr, hf⟩
      have HR := Lib.hid hr; have HF := Lib.hid hf
      have HL := Lib.hid (left_any hr)
      have h1 : ((n : Int) - ((p + 4 : Nat) : Int)) < (z : Int) := by rw [HLen.out] at hc; have := hr.at_; omega
      clear hr hf
      go_wp2_with fail
      refine HL.out.mono ?_
      rintro e w3 ⟨rfl, q3, rfl⟩
      go_wp2_with fail
      refine (back_any 4 4 rfl 20 (HR.out.drewN q3) (by omega) (by decide)).mono ?_
      rintro e w4 ⟨rfl, hr2, hf2⟩
      refine ⟨rfl, ?_⟩
      rw [HG.out]
      exact ⟨rfl, hr2, (HF.out.transJ (Fr.drewJ _ q3)).transJ hf2⟩
    · have HG := Lib.hid (show bytesP l m p = .ok ((l.drop (p + 4)).take z, p + 4 + z) by unfold bytesP; rw [hT]; exact if_neg hc)
      have HT := Lib.hid (show takeP l z (p + 4) = .ok ((l.drop (p + 4)).take z, p + 4 + z) by unfold takeP; exact if_neg hc)
      clear hN hT
      go_enter Tryz.func240, Tryz.ntmps240
      go_wp2_with fail
      refine HN.out.mono ?_
      rintro e w2 ⟨⟨u, rfl, rfl⟩, hr, hf⟩
      have HR := Lib.hid hr; have HF := Lib.hid hf
      have HL := Lib.hid (left_any hr)
      have h1 : ¬ ((n : Int) - ((p + 4 : Nat) : Int)) < (z : Int) := by rw [HLen.out] at hc; have := hr.at_; omega
      clear hr hf
      go_wp2_with fail
      refine HL.out.mono ?_
      rintro e w3 ⟨rfl, q3, rfl⟩
      have hX := next_any z (HR.out.drewN q3) (by omega)
      rw [HT.out] at hX
      have HX := Lib.hid hX
      clear hX
      go_wp2_with fail
      refine HX.out.mono ?_
      rintro e w4 ⟨⟨u, rfl, hu⟩, hr, hf⟩
      have HR4 := Lib.hid hr; have HF4 := Lib.hid hf; have HU := Lib.hid hu
      clear hr hf hu
      go_wp2_with fail
      go_ret
      rw [HG.out]
      exact ⟨⟨_, rfl, HU.out⟩, HR4.out, (HF.out.transJ (Fr.drewJ _ q3)).transJ HF4.out⟩
end Go.Proofs.YtbpmmmnphpkdjaaGreatDoor
