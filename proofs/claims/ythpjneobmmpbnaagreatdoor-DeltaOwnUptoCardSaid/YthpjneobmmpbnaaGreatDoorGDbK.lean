/- The walks of the document's put and Touched. Condition: lists of at most 2^20. -/
import Derived.Test.YthpjneobmmpbnaaGreatDoorGDlF0
import Derived.Test.YthpjneobmmpbnaaGreatDoorGRefS
import Derived.Test.YthpjneobmmpbnaaGreatDoorGRf3
import Derived.Test.YthpjneobmmpbnaaGreatDoorGHeld
import Derived.Test.YthpjneobmmpbnaaGreatDoorGRsG
import Derived.Test.YthpjneobmmpbnaaGreatDoorGRfD
import Derived.Test.YthpjneobmmpbnaaGreatDoorGDbY
namespace Go.Proofs.YthpjneobmmpbnaaGreatDoor
open Go.RowKit Go.MapKept Go.Maps
theorem elemSt : Elem encStr 29 9 1 16 (.string ⟨#[]⟩) := ⟨Tryz.underlying29, by kernel_rfl, rfl, fun _ => rfl, by decide, fun x u hu => by simp [encStr] at hu; rw [hu]; rfl, by decide⟩
theorem Sl.upTo {α : Type} [Inhabited α] {w : World} {B n k j : Nat} {enc : α → List Value} {A : Option Addr} {l : List α} (h : Sl w B enc k A n l) (hj : j ≤ n) : Sl w B enc k A j (l.take j) := by
  refine ⟨by rw [List.length_take, h.len]; omega, fun h0 => ?_⟩
  obtain ⟨b, off, e, hb, hc⟩ := h.2 (by omega)
  refine ⟨b, off, e, hb, fun i hi a u hu => hc i (by omega) a u ?_⟩
  rw [← hu, getElem!_pos (l.take j) i (by rw [List.length_take, h.len]; omega), getElem!_pos l i (by rw [h.len]; omega), List.getElem_take]
end Go.Proofs.YthpjneobmmpbnaaGreatDoor
namespace Go.Proofs.YthpjneobmmpbnaaGreatDoor
open Go.RowKit Go.MapKept Go.Maps
set_option maxRecDepth 100000 in
theorem getT2_any {w : World} {rb n c p : Nat} {A : Option Addr} {l : Bs} (h : Rd w rb A n c l p) (hT : TabsR rb w) :
    Calls Tryz.prog 122 #[.pointer (some ⟨rb, 0, none⟩)] w (RdOut rb A n c l w (textP l 4096 p) (fun b u _ => u = .string (toBA b))) := by
  have hN := rText_any 4096 4096 rfl h (by decide) hT
  clear h hT
  go_enter Tryz.func122, Tryz.ntmps122
  rcases hX : textP l 4096 p with ⟨q, k⟩ | ⟨v, q⟩
  · rw [hX] at hN
    have HN := Lib.hid hN
    clear hN hX
    go_wp2_with fail
    refine HN.out.mono ?_
    rintro e w1 ⟨rfl, hr, hf⟩
    exact ⟨rfl, rfl, hr, hf⟩
  · rw [hX] at hN
    have HN := Lib.hid hN
    clear hN hX
    go_wp2_with fail
    refine HN.out.mono ?_
    rintro e w1 ⟨⟨u, rfl, rfl⟩, hr, hf⟩
    have HR := Lib.hid hr; have HF := Lib.hid hf
    clear hr hf
    go_wp2_with fail
    go_ret
    exact ⟨⟨_, rfl, rfl⟩, HR.out, HF.out⟩
/-- a list of texts, some of it read -/
def JRStr (rb : Nat) (A : Option Addr) (n c : Nat) (l : Bs) (w : World) (N : Nat) (tot : PR (List Bs)) (v i : Value) (wr : World) : Prop :=
  ∃ (xs : List Bs) (B : Option Addr) (d q : Nat), v = .slice B xs.length d ∧ i = .int .i64 (xs.length : Int) ∧ xs.length ≤ N ∧ (repP (textP l 4096) (N - xs.length) q).ahead xs = tot ∧ Rd wr rb A n c l q ∧ Fr [rb] w wr ∧ wr.ownsRow w.heap.size 9 1 (.slice B xs.length d) xs.length ((xs.map toBA).flatMap encStr)
/-- what its reading hands back -/
def LsOutStr (base : Nat) (xs : List Bs) (u : Value) (w' : World) : Prop := ∃ B d, u = .slice B xs.length d ∧ w'.ownsRow base 9 1 (.slice B xs.length d) xs.length ((xs.map toBA).flatMap encStr)
set_option maxRecDepth 100000 in
theorem getStrs_any {w : World} {rb n c p : Nat} {A : Option Addr} {l : Bs} (h : Rd w rb A n c l p) (hT : TabsR rb w) :
    Calls Tryz.prog 121 #[.pointer (some ⟨rb, 0, none⟩), .int .i64 1024, .int .i64 5, .func (.func 122) #[] #[]] w (RdOut rb A n c l w (listP l 1024 5 (textP l 4096) p) (fun v u w' => LsOutStr w.heap.size v u w')) := by
  have hlt := h.lt
  have hb1 : Below w.heap.size w (w.alloc (.cells #[] 9)) := (Below.refl _ w).alloc (Nat.le_refl _) _
  have HR := Lib.hid (h.below hb1)
  have HF := Lib.hid (Fr.of_below (own := [rb]) hb1)
  have HT := Lib.hid hT
  have HO := Lib.hid (own_empty (T := 9) (k := 1) w)
  have hq : ∀ w : World, (binOp .neq 147 (.func (.func 122) #[] #[]) .nilFunc).run Tryz.prog w = .ok (.bool true) w := fun w => by kernel_rfl
  have hEn : ∀ (args : Array Value) (w : World), (callFunc 122 args).run Tryz.prog w = .ok (.enter 122 args) w := enters_of Tryz.func122 (by kernel_rfl) rfl
  have hmk : ∀ w : World, (Instr.makeSlice 29 (.int .i64 0) (.int .i64 0)).run Tryz.prog w = .ok (.slice (some ⟨w.heap.size, 0, none⟩) 0 0) (w.alloc (.cells #[] 9)) := fun w => by
    obtain ⟨i, hi, hz, hsz, hb⟩ := info_partsI elemSt.info
    have := run_make (P := Tryz.prog) w 29 9 i _ elemSt.under hi hz .i64 .i64 0 0 (Int.le_refl _) (Int.le_refl _) (by omega) (by omega)
    simpa [madeCells, Array.range_zero'] using this
  clear h hT hb1
  go_enter Tryz.func121, Tryz.ntmps121
  go_wp2_with fail
  generalize w.alloc (.cells #[] 9) = W at *
  have hN := rCount_any 1024 1024 rfl 5 5 rfl (by decide) (by decide) HR.out
  rcases hX : countP l 1024 5 p with ⟨q, k⟩ | ⟨N, q⟩
  · have HG := Lib.hid (show listP l 1024 5 (textP l 4096) p = .error (q, k) by unfold listP; rw [hX]; rfl)
    rw [hX] at hN
    refine hN.mono ?_
    rintro e w2 ⟨rfl, hr, hf⟩
    refine ⟨rfl, ?_⟩
    rw [HG.out]
    exact ⟨rfl, hr, HF.out.transJ hf⟩
  · obtain ⟨rfl, hN16⟩ := countP_ok hX
    have HG := Lib.hid (show listP l 1024 5 (textP l 4096) p = repP (textP l 4096) N (p + 4) by unfold listP; rw [hX]; rfl)
    rw [hX] at hN
    refine hN.mono ?_
    rintro e w2 ⟨⟨u, rfl, rfl⟩, hr, hf⟩
    have HR2 := Lib.hid hr; have HF2 := Lib.hid (HF.out.transJ hf)
    have HO2 := Lib.hid (own_fr HO.out hf (by simp; omega))
    clear hr hf hN hX
    go_wp2_with fail
    go_loopw [9, 16] (fun v i wr => JRStr rb A n c l w N (listP l 1024 5 (textP l 4096) p) v i wr) (fun _ i _ => N - (RowKit.intOf i).toNat)
    case atStart => exact ⟨[], _, 0, p + 4, rfl, rfl, Nat.zero_le _, by rw [ahead_nil, HG.out]; rfl, HR2.out, HF2.out, HO2.out⟩
    case round =>
      obtain ⟨xs, B, d, q, rfl, rfl, hxn, htot, hrd, hfr, hrow⟩ := hrel
      have HT3 := Lib.hid (HT.out.fr hfr)
      have HTOT := Lib.hid htot; have HRD := Lib.hid hrd; have HFR := Lib.hid hfr; have HROW := Lib.hid hrow
      clear htot hrd hfr hrow
      by_cases hk : xs.length < N
      · have hk2 : (xs.length : Int) < (N : Int) := by omega
        have hws := HFR.out.size
        go_wp2_with fail
        have hN := getT2_any HRD.out HT3.out
        rcases hY : textP l 4096 q with e0 | ⟨x, q5⟩
        · obtain ⟨q5, k5⟩ := e0
          have HE := Lib.hid (show listP l 1024 5 (textP l 4096) p = .error (q5, k5) by
            have h1 := HTOT.out
            rw [show N - xs.length = (N - xs.length - 1) + 1 by omega, repP_fail xs hY] at h1
            exact h1.symm)
          rw [hY] at hN
          with_reducible refine hN.mono ?_
          rintro e w5 ⟨rfl, hr, hf⟩
          refine ⟨rfl, ?_⟩
          rw [HE.out]
          exact ⟨rfl, hr, HFR.out.transJ hf⟩
        · have HE := Lib.hid (show (repP (textP l 4096) (N - (xs.length + 1)) q5).ahead (xs ++ [x]) = listP l 1024 5 (textP l 4096) p by
            have h1 := HTOT.out
            rw [show N - xs.length = (N - (xs.length + 1)) + 1 by omega, repP_step xs hY] at h1
            exact h1)
          rw [hY] at hN
          with_reducible refine hN.mono ?_
          rintro e w5 ⟨⟨u, rfl, rfl⟩, hr, hf⟩
          have hal : Below w5.heap.size w5 (w5.alloc (.cells #[.string (toBA x)] 9)) := (Below.refl _ _).alloc (Nat.le_refl _) _
          have hf7 := hf.trans (Fr.of_below (own := []) hal) (by simp)
          have HR7 := Lib.hid (hr.below hal)
          have HF7 := Lib.hid hf7
          have HO7 := Lib.hid (own_fr HROW.out hf7 (by simp; omega))
          have HS7 := Lib.hid (show Sl (w5.alloc (.cells #[.string (toBA x)] 9)) (w5.alloc (.cells #[.string (toBA x)] 9)).heap.size encStr 1 (some ⟨w5.heap.size, 0, none⟩) 1 [toBA x] from by
            have h9 := heap_alloc_new w5 (.cells #[.string (toBA x)] 9)
            refine ⟨rfl, fun _ => ⟨w5.heap.size, 0, rfl, (Array.getElem?_eq_some_iff.1 h9).1, fun j hj a u hu => ?_⟩⟩
            have hj0 : j = 0 := by omega
            subst hj0
            rw [cellH h9]
            match a, hu with
            | 0, hu => exact hu)
          clear hr hf hN hal hf7
          go_wp2_with (at_builtin; refine wpList_appG elemSt rfl _ _ rfl w.heap.size B xs.length d (xs.map toBA) ?hxS HO7.out (some ⟨w5.heap.size, 0, none⟩) 1 1 [toBA x] ?hyS HS7.out (fun e => by cases e) (by omega) (Nat.le_trans HFR.out.size HF7.out.size) ?hkS)
          (try case hxS => rfl)
          (try case hyS => rfl)
          case hkS =>
            intro A8 c8 w8 hv8 hb8
            have HB8 := Lib.hid hb8
            have HV8 := Lib.hid (show w8.ownsRow w.heap.size 9 1 (.slice A8 (xs ++ [x]).length c8) (xs ++ [x]).length (((xs ++ [x]).map toBA).flatMap encStr) by
              rw [List.length_append, List.length_singleton, List.map_append, List.map_singleton, List.flatMap_append]; simpa using hv8)
            clear hv8 hb8
            go_wp2_with fail
            go_roundw
            case rel => exact ⟨xs ++ [x], A8, c8, q5, by simp, by simp, by simp; omega, by rw [List.length_append]; exact HE.out, HR7.out.belowB HB8.out hlt, (HFR.out.transJ HF7.out).belowJ HB8.out, HV8.out⟩
            case measure => simp [RowKit.intOf]; omega

      · have hk2 : ¬ (xs.length : Int) < (N : Int) := by omega
        have HE := Lib.hid (show listP l 1024 5 (textP l 4096) p = .ok (xs, q) by
          have h1 := HTOT.out
          rw [show N - xs.length = 0 by omega] at h1
          rw [← h1]
          simp [repP, PR.ahead, PR.then])
        go_wp2_with fail
        go_ret
        rw [HE.out]
        exact ⟨⟨_, rfl, B, d, rfl, HROW.out⟩, HRD.out, HFR.out⟩
set_option linter.unusedSimpArgs false in
set_option maxRecDepth 100000 in
set_option maxHeartbeats 4000000 in
theorem getM11_any {w : World} {rb n c p : Nat} {A : Option Addr} {l : Bs} (h : Rd w rb A n c l p) (hT : TabsR rb w) :
    Calls Tryz.prog 66 #[.pointer (some ⟨rb, 0, none⟩), .int .i32 (-11)] w (RdOut rb A n c l w (leafP l (-11) p) (GetL w)) := by
  have hlt := h.lt
  have hb1 : Below w.heap.size w (w.alloc (.cells #[.int .i32 0, .string ⟨#[]⟩, .slice none 0 0, .slice none 0 0, .int .i64 0, .int .i32 0, .int .i32 0, .bool false, .int .i64 0, .int .i64 0, .int .i64 0, .int .i32 0, .slice none 0 0, .slice none 0 0, .int .i32 0, .slice none 0 0] 33)) := (Below.refl _ w).alloc (Nat.le_refl _) _
  have hb2 : Below w.heap.size w ((w.alloc (.cells #[.int .i32 0, .string ⟨#[]⟩, .slice none 0 0, .slice none 0 0, .int .i64 0, .int .i32 0, .int .i32 0, .bool false, .int .i64 0, .int .i64 0, .int .i64 0, .int .i32 0, .slice none 0 0, .slice none 0 0, .int .i32 0, .slice none 0 0] 33)).alloc (.cells #[.int .i32 (-11), .string ⟨#[]⟩, .slice none 0 0, .slice none 0 0, .int .i64 0, .int .i32 0, .int .i32 0, .bool false, .int .i64 0, .int .i64 0, .int .i64 0, .int .i32 0, .slice none 0 0, .slice none 0 0, .int .i32 0, .slice none 0 0] 33)) := hb1.alloc hb1.size _
  have HR0 := Lib.hid (h.below hb2)
  have HF0 := Lib.hid (Fr.of_below (own := [rb]) hb2)
  have HT0 := Lib.hid (hT.fr (Fr.of_below hb2))
  have HG0 := Lib.hid (heap_s1 w (.cells #[.int .i32 0, .string ⟨#[]⟩, .slice none 0 0, .slice none 0 0, .int .i64 0, .int .i32 0, .int .i32 0, .bool false, .int .i64 0, .int .i64 0, .int .i64 0, .int .i32 0, .slice none 0 0, .slice none 0 0, .int .i32 0, .slice none 0 0] 33) (.cells #[.int .i32 (-11), .string ⟨#[]⟩, .slice none 0 0, .slice none 0 0, .int .i64 0, .int .i32 0, .int .i32 0, .bool false, .int .i64 0, .int .i64 0, .int .i64 0, .int .i32 0, .slice none 0 0, .slice none 0 0, .int .i32 0, .slice none 0 0] 33))
  have HZ0 := Lib.hid (heap_under (o := (.cells #[.int .i32 (-11), .string ⟨#[]⟩, .slice none 0 0, .slice none 0 0, .int .i64 0, .int .i32 0, .int .i32 0, .bool false, .int .i64 0, .int .i64 0, .int .i64 0, .int .i32 0, .slice none 0 0, .slice none 0 0, .int .i32 0, .slice none 0 0] 33)) (heap_s0 w (.cells #[.int .i32 0, .string ⟨#[]⟩, .slice none 0 0, .slice none 0 0, .int .i64 0, .int .i32 0, .int .i32 0, .bool false, .int .i64 0, .int .i64 0, .int .i64 0, .int .i32 0, .slice none 0 0, .slice none 0 0, .int .i32 0, .slice none 0 0] 33)))
  have HLZ := Lib.hid (sz2 w (.cells #[.int .i32 0, .string ⟨#[]⟩, .slice none 0 0, .slice none 0 0, .int .i64 0, .int .i32 0, .int .i32 0, .bool false, .int .i64 0, .int .i64 0, .int .i64 0, .int .i32 0, .slice none 0 0, .slice none 0 0, .int .i32 0, .slice none 0 0] 33) (.cells #[.int .i32 (-11), .string ⟨#[]⟩, .slice none 0 0, .slice none 0 0, .int .i64 0, .int .i32 0, .int .i32 0, .bool false, .int .i64 0, .int .i64 0, .int .i64 0, .int .i32 0, .slice none 0 0, .slice none 0 0, .int .i32 0, .slice none 0 0] 33))
  have HLF := Lib.hid (show leafP l (-11) p = (listP l 1024 5 (textP l 4096) p).then fun v0 p0 => .ok (⟨⟨(-11), ⟨#[]⟩, 0, 0, 0, false, 0, 0, 0, 0, 0⟩, [], [], [], v0.map toBA⟩, p0) from rfl)
  clear h hT hb1 hb2
  go_enter Tryz.func66, Tryz.ntmps66
  go_upto_region 2 with (first | (apply wpList_storeTop 33 33; exact rfl; exact rfl; exact rfl; (first | (with_reducible rfl) | (exact sz1 _ _) | (exact sz2 _ _ _)); exact rfl; exact infTx; exact rfl; (first | exact oneTx _ | simp [Value.oneCell'])) | fail)
  change Code.wp _ _ _ _ ((w.alloc (.cells #[.int .i32 0, .string ⟨#[]⟩, .slice none 0 0, .slice none 0 0, .int .i64 0, .int .i32 0, .int .i32 0, .bool false, .int .i64 0, .int .i64 0, .int .i64 0, .int .i32 0, .slice none 0 0, .slice none 0 0, .int .i32 0, .slice none 0 0] 33)).alloc (.cells #[.int .i32 (-11), .string ⟨#[]⟩, .slice none 0 0, .slice none 0 0, .int .i64 0, .int .i32 0, .int .i32 0, .bool false, .int .i64 0, .int .i64 0, .int .i64 0, .int .i32 0, .slice none 0 0, .slice none 0 0, .int .i32 0, .slice none 0 0] 33))
  generalize ((w.alloc (.cells #[.int .i32 0, .string ⟨#[]⟩, .slice none 0 0, .slice none 0 0, .int .i64 0, .int .i32 0, .int .i32 0, .bool false, .int .i64 0, .int .i64 0, .int .i64 0, .int .i32 0, .slice none 0 0, .slice none 0 0, .int .i32 0, .slice none 0 0] 33)).alloc (.cells #[.int .i32 (-11), .string ⟨#[]⟩, .slice none 0 0, .slice none 0 0, .int .i64 0, .int .i32 0, .int .i32 0, .bool false, .int .i64 0, .int .i64 0, .int .i64 0, .int .i32 0, .slice none 0 0, .slice none 0 0, .int .i32 0, .slice none 0 0] 33)) = W0 at *
  go_wp2_with fail
  refine (part_any (-11) W0).mono ?_
  rintro e wq ⟨rfl, rfl⟩
  rename World => W0
  rw [show partB (-11) = false from rfl]
  go_wp2_with fail
  have hN := getStrs_any HR0.out HT0.out
  rcases hX0 : listP l 1024 5 (textP l 4096) p with ⟨q, k⟩ | ⟨v0, p0⟩
  · have HG := Lib.hid (show leafP l (-11) p = .error (q, k) by rw [HLF.out]; simp only [thenOk2, thenErr, hX0])
    rw [hX0] at hN
    refine hN.mono ?_
    rintro e w9 ⟨rfl, hr, hf⟩
    refine ⟨rfl, ?_⟩
    rw [HG.out]
    exact ⟨rfl, hr, HF0.out.transJ hf⟩
  rw [hX0] at hN
  have HX0 := Lib.hid hX0
  clear hX0
  refine hN.mono ?_
  rintro e w1 ⟨⟨u, rfl, A0, c0, rfl, hrow⟩, hr, hf⟩
  have hg := (hf.block _ (Array.getElem?_eq_some_iff.1 HG0.out).1 (by simp; omega)).trans HG0.out
  have z : w1.frozen? ⟨w.heap.size + 1, 13, none⟩ = false := by simp [World.frozen?, hg]
  have y : w1.cell? ⟨w.heap.size + 1, 13, none⟩ = some (.slice none 0 0) := by rw [cellH hg]; rfl
  have HG1 := Lib.hid (show (w1.setCell ⟨w.heap.size + 1, 13, none⟩ (.slice A0 v0.length c0)).heap[w.heap.size + 1]? = some (.cells #[.int .i32 (-11), .string ⟨#[]⟩, .slice none 0 0, .slice none 0 0, .int .i64 0, .int .i32 0, .int .i32 0, .bool false, .int .i64 0, .int .i64 0, .int .i64 0, .int .i32 0, .slice none 0 0, .slice A0 v0.length c0, .int .i32 0, .slice none 0 0] 33 (0, 0)) from heap_setJ (o := 13) hg _)
  have HZ1 := Lib.hid ((heap_otherJ w1 (w.heap.size + 1) 13 (.slice A0 v0.length c0) (by omega)).trans ((hf.block _ (Array.getElem?_eq_some_iff.1 HZ0.out).1 (by simp; omega)).trans HZ0.out))
  have HR1 := Lib.hid (hr.fr (fr_setJ w1 (w.heap.size + 1) 13 (.slice A0 v0.length c0)) (by simp; omega))
  have HF1 := Lib.hid ((HF0.out.transJ hf).trans (fr_setJ w1 (w.heap.size + 1) 13 (.slice A0 v0.length c0)) (by simp))
  have HT1 := Lib.hid ((HT0.out.fr hf).set (show rb < w.heap.size + 1 by omega) 13 (.slice A0 v0.length c0))
  obtain ⟨B0, hB0⟩ : ∃ B, B = W0.heap.size := ⟨_, rfl⟩
  rw [← hB0] at hrow
  have HLB0 := Lib.hid (show w.heap.size + 2 ≤ B0 by rw [hB0]; have h8 := (Array.getElem?_eq_some_iff.1 HG0.out).1; omega)
  have HL0 := Lib.hid (own_fr hrow (fr_setJ w1 (w.heap.size + 1) 13 (.slice A0 v0.length c0)) (by have := HLB0.out; simp; omega))
  clear hrow hB0
  clear hr hf hN hg
  go_upto_region 31 with fail
  clear z y
  generalize (w1.setCell ⟨w.heap.size + 1, 13, none⟩ (.slice A0 v0.length c0)) = V at *
  have gX := HG1.out
  have gZ := HZ1.out
  go_wp2_with (first | (apply wpList_loadRow 33 33; exact rfl; exact rfl; exact rfl; assumption; exact undTx; exact rfl; exact infTx) | (apply wpList_storeRow 33 33; exact rfl; exact rfl; exact rfl; exact rfl; assumption; exact infTx; exact rfl; simp [Value.oneCell']) | fail)
  have hfz := fr_setRow9 V w.heap.size #[.int .i32 (-11), .string ⟨#[]⟩, .slice none 0 0, .slice none 0 0, .int .i64 0, .int .i32 0, .int .i32 0, .bool false, .int .i64 0, .int .i64 0, .int .i64 0, .int .i32 0, .slice none 0 0, .slice A0 v0.length c0, .int .i32 0, .slice none 0 0]
  have HEND := Lib.hid (show RdOut rb A n c l w (leafP l (-11) p) (GetL w) (.returned (txV ⟨⟨(-11), ⟨#[]⟩, 0, 0, 0, false, 0, 0, 0, 0, 0⟩, (none, 0, 0), (none, 0, 0), (none, 0, 0), (A0, v0.length, c0), (none, 0, 0)⟩)) (V.setRow w.heap.size #[.int .i32 (-11), .string ⟨#[]⟩, .slice none 0 0, .slice none 0 0, .int .i64 0, .int .i32 0, .int .i32 0, .bool false, .int .i64 0, .int .i64 0, .int .i64 0, .int .i32 0, .slice none 0 0, .slice A0 v0.length c0, .int .i32 0, .slice none 0 0]) by
    have hlf : leafP l (-11) p = .ok (⟨⟨(-11), ⟨#[]⟩, 0, 0, 0, false, 0, 0, 0, 0, 0⟩, [], [], [], v0.map toBA⟩, p0) := by rw [HLF.out]; simp only [thenOk2, HX0.out]
    rw [hlf]
    exact ⟨⟨_, rfl, _, rfl, ⟨rfl, SlR.nil_, SlR.nil_, SlR.nil_, own_slrN (own_mono (own_fr HL0.out hfz (by have := HLB0.out; simp; omega)) (by have := HLB0.out; omega)) (fun _ => rfl) (by simp)⟩, rfl⟩, HR1.out.fr hfz (by simp; omega), HF1.out.trans hfz (by simp)⟩)
  exact bodyPost_cell rfl rfl (setRow_heap _ _ _ _ _ _ gZ) undTx rfl infTx rfl HEND.out
theorem part_cases {t : Int} (h : partB t = true) : t = 1 ∨ t = 2 ∨ t = 5 ∨ t = 7 ∨ t = 13 ∨ t = 120 ∨ t = 121 := by unfold partB at h; exact of_decide_eq_true h
theorem known_cases {t : Int} (h : knownB t = true) : t = 1 ∨ t = 2 ∨ t = 5 ∨ t = 7 ∨ t = 13 ∨ t = 120 ∨ t = 121 ∨ t = 14 ∨ t = -10 ∨ t = -11 ∨ t = -1 := by
  unfold knownB at h
  rw [Bool.or_eq_true] at h
  rcases h with h | h
  · rcases part_cases h with h | h | h | h | h | h | h <;> simp [h]
  · rcases of_decide_eq_true h with h | h | h | h <;> simp [h]
/-- a part, by its type -/
theorem getPart_any {w : World} {rb n c p : Nat} {A : Option Addr} {l : Bs} {ty : Int} (hk : partB ty = true) (h : Rd w rb A n c l p) (hT : TabsR rb w) :
    Calls Tryz.prog 66 #[.pointer (some ⟨rb, 0, none⟩), .int .i32 ty] w (RdOut rb A n c l w (leafP l ty p) (GetL w)) := by
  rcases part_cases hk with rfl | rfl | rfl | rfl | rfl | rfl | rfl
  · exact get1_any h hT
  · exact get2_any h hT
  · exact get5_any h hT
  · exact get7_any h hT
  · exact get13_any h hT
  · exact get120_any h hT
  · exact get121_any h hT
set_option linter.unusedSimpArgs false in
set_option maxRecDepth 100000 in
set_option maxHeartbeats 4000000 in
theorem getTx1_any {w : World} {rb n c p : Nat} {A : Option Addr} {l : Bs} (h : Rd w rb A n c l p) (hT : TabsR rb w) :
    Calls Tryz.prog 119 #[.pointer (some ⟨rb, 0, none⟩)] w (RdOut rb A n c l w (partP l p) (GetL w)) := by
  have hlt := h.lt
  have hb1 : Below w.heap.size w (w.alloc (.cells #[.int .i32 0, .string ⟨#[]⟩, .slice none 0 0, .slice none 0 0, .int .i64 0, .int .i32 0, .int .i32 0, .bool false, .int .i64 0, .int .i64 0, .int .i64 0, .int .i32 0, .slice none 0 0, .slice none 0 0, .int .i32 0, .slice none 0 0] 33)) := (Below.refl _ w).alloc (Nat.le_refl _) _
  have HR0 := Lib.hid (h.below hb1)
  have HF0 := Lib.hid (Fr.of_below (own := [rb]) hb1)
  have HT0 := Lib.hid (hT.fr (Fr.of_below hb1))
  have HZ0 := Lib.hid (heap_s0 w (.cells #[.int .i32 0, .string ⟨#[]⟩, .slice none 0 0, .slice none 0 0, .int .i64 0, .int .i32 0, .int .i32 0, .bool false, .int .i64 0, .int .i64 0, .int .i64 0, .int .i32 0, .slice none 0 0, .slice none 0 0, .int .i32 0, .slice none 0 0] 33))
  have HLF := Lib.hid (show partP l p = (intP l p).then fun ty a => if partB ty then leafP l ty a else .error (a, 110) from rfl)
  clear h hT hb1
  go_enter Tryz.func119, Tryz.ntmps119
  go_upto_region 1 with fail
  generalize w.alloc (.cells #[.int .i32 0, .string ⟨#[]⟩, .slice none 0 0, .slice none 0 0, .int .i64 0, .int .i32 0, .int .i32 0, .bool false, .int .i64 0, .int .i64 0, .int .i64 0, .int .i32 0, .slice none 0 0, .slice none 0 0, .int .i32 0, .slice none 0 0] 33) = W0 at *
  go_wp2_with fail
  have hN := rInt_any HR0.out
  rcases hX0 : intP l p with ⟨q, k⟩ | ⟨ty, p0⟩
  · have HG := Lib.hid (show partP l p = .error (q, k) by rw [HLF.out]; simp only [thenErr, hX0])
    rw [hX0] at hN
    refine hN.mono ?_
    rintro e w9 ⟨rfl, hr, hf⟩
    refine ⟨rfl, ?_⟩
    rw [HG.out]
    exact ⟨rfl, hr, HF0.out.transJ hf⟩
  rw [hX0] at hN
  have HX0 := Lib.hid hX0
  clear hX0
  refine hN.mono ?_
  rintro e w1 ⟨⟨u, rfl, rfl⟩, hr, hf⟩
  have HR1 := Lib.hid hr
  have HF1 := Lib.hid (HF0.out.transJ hf)
  have HT1 := Lib.hid (HT0.out.fr hf)
  have HZ1 := Lib.hid ((hf.block _ (Array.getElem?_eq_some_iff.1 HZ0.out).1 (by simp; omega)).trans HZ0.out)
  have HS1 := Lib.hid (show w.heap.size < w1.heap.size from (Array.getElem?_eq_some_iff.1 HZ1.out).1)
  clear hr hf hN
  go_wp2_with fail
  refine (part_any ty w1).mono ?_
  rintro e wq ⟨rfl, hwq⟩
  subst hwq
  by_cases hk : partB ty = true
  case neg =>
    have hk : partB ty = false := by simpa using hk
    have HG := Lib.hid (show partP l p = .error (p0, 110) by rw [HLF.out]; simp only [thenOk2, HX0.out, hk]; rfl)
    rw [hk]
    go_wp2_with fail
    refine (fail_any 110 HR1.out (by decide)).mono ?_
    rintro e w9 ⟨rfl, rfl⟩
    refine ⟨rfl, ?_⟩
    rw [HG.out]
    exact ⟨rfl, HR1.out, HF1.out⟩
  have HLE := Lib.hid (show partP l p = leafP l ty p0 by rw [HLF.out]; simp only [thenOk2, HX0.out, hk]; rfl)
  have hN := getPart_any hk HR1.out HT1.out
  rw [hk]
  clear hk
  go_wp2_with fail
  rcases hX5 : leafP l ty p0 with ⟨q, k⟩ | ⟨v, p5⟩
  · rw [hX5] at hN
    have HG := Lib.hid (show partP l p = .error (q, k) by rw [HLE.out, hX5])
    refine hN.mono ?_
    rintro e w9 ⟨rfl, hr, hf⟩
    refine ⟨rfl, ?_⟩
    rw [HG.out]
    exact ⟨rfl, hr, HF1.out.transJ hf⟩
  rw [hX5] at hN
  have HG := Lib.hid (show partP l p = .ok (v, p5) by rw [HLE.out, hX5])
  refine hN.mono ?_
  rintro e w6 ⟨⟨u, rfl, ht, rfl, hl, hs⟩, hr, hf⟩
  have gX := (hf.block _ (Array.getElem?_eq_some_iff.1 HZ1.out).1 (by simp; omega)).trans HZ1.out
  have hfz := fr_setRow9 w6 w.heap.size (encTx ht).toArray
  have HEND := Lib.hid (show RdOut rb A n c l w (partP l p) (GetL w) (.returned (txV ht)) (w6.setRow w.heap.size (encTx ht).toArray) by
    rw [HG.out]
    refine ⟨⟨_, rfl, _, rfl, ⟨hl.1, ?_, ?_, ?_, ?_⟩, hs⟩, hr.fr hfz (by simp; omega), (HF1.out.transJ hf).trans hfz (by simp)⟩
    · exact hl.2.1.fr hfz (fun b _ hb => ⟨by have := hb.1; have := HS1.out; simp; omega, hb.fr hfz (by have := hb.1; have := HS1.out; simp; omega) (Nat.le_of_lt HS1.out)⟩) (fun _ => by simp [enc8])
    · exact hl.2.2.1.fr hfz (fun b _ hb => ⟨by have := hb.1; have := HS1.out; simp; omega, hb.fr hfz (by have := hb.1; have := HS1.out; simp; omega) (Nat.le_of_lt HS1.out)⟩) (fun _ => by simp [encAcl])
    · exact hl.2.2.2.1.fr hfz (fun b _ hb => ⟨by have := hb.1; have := HS1.out; simp; omega, hb.fr hfz (by have := hb.1; have := HS1.out; simp; omega) (Nat.le_of_lt HS1.out)⟩) (fun _ => by simp [encId])
    · exact hl.2.2.2.2.fr hfz (fun b _ hb => ⟨by have := hb.1; have := HS1.out; simp; omega, hb.fr hfz (by have := hb.1; have := HS1.out; simp; omega) (Nat.le_of_lt HS1.out)⟩) (fun _ => by simp [encStr]))
  clear hr hf hl hfz
  go_wp2_with (first | (apply wpList_storeRow 33 33; exact rfl; exact rfl; exact rfl; exact rfl; exact gX; exact infTx; exact rfl; exact oneTx _) | fail)
  exact bodyPost_cell rfl rfl (setRow_heap _ _ _ _ _ _ gX) undTx rfl infTx rfl HEND.out
theorem LsR.frN {B : Nat} {xs : List TxT} {A : Option Addr} {c : Nat} {wr w' : World} (H : LsR NfR B xs A c wr) {own : List Nat} (hf : Fr own wr w') (ho : ∀ g ∈ own, g < B) : LsR NfR B xs A c w' := by
  obtain ⟨Hs, h1, h2, h3⟩ := H.r
  exact ⟨⟨Hs, own_fr h1 hf ho, h2, fun j hj => (h3 j hj).fr kTxOk hf (fun b hlt h => by
    have hn : b ∉ own := fun hm => by have := ho b hm; have := h.1.1; omega
    exact ⟨hn, h.1.fr hf hn (Nat.le_refl _), h.2⟩)⟩⟩
theorem LsR.empty {B g : Nat} {wr : World} (h : wr.ownsRow B 33 16 (.slice (some ⟨g, 0, none⟩) 0 0) 0 []) : LsR NfR B [] (some ⟨g, 0, none⟩) 0 wr := ⟨⟨[], h, rfl, fun j hj => absurd hj (by simp)⟩⟩
/-- one more: its parts lie in blocks made behind wr; what moved of old is none of theirs -/
theorem LsR.stepF {B : Nat} {xs : List TxT} {x : TxT} {A : Option Addr} {c : Nat} {wr w6 w7 w8 : World} {own0 : List Nat} (ho0 : ∀ g ∈ own0, g < B) (hb : Fr own0 wr w6) {h6 : TxH} (ht : TxAt w6 (fun b => wr.heap.size ≤ b ∧ NfR w6 B b) h6 x) (hb7 : Below w6.heap.size w6 w7) {A' : Option Addr} {c' : Nat} {Hs : List TxH}
    (hr : wr.ownsRow B 33 16 (.slice A xs.length c) xs.length (Hs.flatMap encTx)) (hHl : Hs.length = xs.length) (hHt : ∀ j, j < xs.length → TxAt wr (fun b => NfR wr B b ∧ offRow A b) Hs[j]! xs[j]!)
    (hown : w8.ownsRow B 33 16 (.slice A' (xs.length + 1) c') (xs.length + 1) ((Hs ++ [h6]).flatMap encTx)) (hon : OnT A A' w7 w8) : LsR NfR B (xs ++ [x]) A' c' w8 := by
  have hb67 : Fr own0 wr w7 := hb.trans (Fr.of_below (own := own0) hb7) (fun g hg => .inl hg)
  obtain ⟨own, hf, hk, hoA⟩ := hon.keep
  have hAlt : ∀ b, wr.heap.size ≤ b → offRow A b := fun b hb o e => by
    rcases own_at hr with ⟨e2, _⟩ | ⟨g2, cur, e2, _, h3, _⟩
    · rw [e2] at e; cases e
    · rw [e2] at e; injection e with e; injection e with e3 _
      have := (Array.getElem?_eq_some_iff.1 h3).1; omega
  have hF : Fr (own0 ++ own) wr w8 := ⟨hf.os.trans hb67.os, hf.tape.trans hb67.tape, hf.output.trans hb67.output, Nat.le_trans hb67.size hf.size, fun g hg hn => (hf.block g (Nat.lt_of_lt_of_le hg hb67.size) (fun hm => hn (List.mem_append.2 (.inr hm)))).trans (hb67.block g hg (fun hm => hn (List.mem_append.2 (.inl hm))))⟩
  have mv : ∀ b, b < wr.heap.size → (NfR wr B b ∧ offRow A b) → b ∉ own0 ++ own ∧ NfR w8 B b ∧ offRow A' b := fun b hlt h => by
    have h1 := hk b (Nat.lt_of_lt_of_le hlt hb67.size) h.2
    have h2 : b ∉ own0 ++ own := fun hm => by
      rcases List.mem_append.1 hm with hm | hm
      · have := ho0 b hm; have := h.1.1; omega
      · exact h1.1 hm
    exact ⟨h2, h.1.fr hF h2 (Nat.le_refl _), h1.2⟩
  refine ⟨⟨Hs ++ [h6], by rw [List.length_append]; exact hown, by rw [List.length_append, List.length_append, hHl]; rfl, fun j hj => ?_⟩⟩
  by_cases e : j < xs.length
  · rw [nth_snoc _ _ _ (by rw [hHl]; exact e), nth_snoc _ _ _ e]
    exact (hHt j e).fr kTxOk hF mv
  · obtain rfl : j = xs.length := by rw [List.length_append] at hj; simp at hj; omega
    rw [show (Hs ++ [h6])[xs.length]! = h6 by have := nth_last Hs h6; rw [hHl] at this; exact this, nth_last]
    have hFb := Fr.of_below (own := []) hb7
    refine (ht.fr kTxOk (R' := fun b => wr.heap.size ≤ b ∧ NfR w7 B b) hFb (fun b hlt h => ⟨by simp, h.1, h.2.fr hFb (by simp) (Nat.le_refl _)⟩)).fr kTxOk hf (fun b hlt h => ?_)
    have h1 := hk b hlt (hAlt b h.1)
    exact ⟨h1.1, h.2.fr hf h1.1 (Nat.le_refl _), h1.2⟩
theorem LsR.tree {B c : Nat} {ts : List TxT} {A : Option Addr} {w' : World} {v : TxF} {h : TxH} (H : LsR NfR B ts A c w') (hl : locTx w' (NfR w' B) h v) (hs : h.s = (A, ts.length, c)) : TxAt w' (NfR w' B) h (.mk v ts) := by
  obtain ⟨Hs, h1, h2, h3⟩ := H.r
  refine TrAt.of_subs (L := Hs) hl (by show ts.length = h.s.2.1; rw [hs]) ?_ ?_
  · show SlR w' _ encTx 16 h.s Hs
    rw [hs]; exact own_slrN h1 (fun _ => rfl) h2
  · intro j hj
    have hj : j < h.s.2.1 := hj
    rw [hs] at hj
    exact (h3 j hj).more (fun b _ h => h.1)
/-- a list of parts, some of it read -/
def JRTx (rb : Nat) (A : Option Addr) (n c : Nat) (l : Bs) (w : World) (N : Nat) (tot : PR (List TxF)) (v i : Value) (wr : World) : Prop :=
  ∃ (xs : List TxF) (B : Option Addr) (d q : Nat), v = .slice B xs.length d ∧ i = .int .i64 (xs.length : Int) ∧ xs.length ≤ N ∧ (repP (partP l) (N - xs.length) q).ahead xs = tot ∧ Rd wr rb A n c l q ∧ Fr [rb] w wr ∧ LsR NfR w.heap.size (xs.map leafT) B d wr
/-- what its reading hands back -/
def LsOutTx (base : Nat) (xs : List TxF) (u : Value) (w' : World) : Prop := ∃ B d, u = .slice B xs.length d ∧ LsR NfR base (xs.map leafT) B d w'
set_option maxRecDepth 100000 in
set_option maxHeartbeats 4000000 in
theorem getTxs_any {w : World} {rb n c p : Nat} {A : Option Addr} {l : Bs} (h : Rd w rb A n c l p) (hT : TabsR rb w) :
    Calls Tryz.prog 118 #[.pointer (some ⟨rb, 0, none⟩), .int .i64 1024, .int .i64 8, .func (.func 119) #[] #[]] w (RdOut rb A n c l w (listP l 1024 8 (partP l) p) (fun v u w' => LsOutTx w.heap.size v u w')) := by
  have hlt := h.lt
  have hb1 : Below w.heap.size w (w.alloc (.cells #[] 33)) := (Below.refl _ w).alloc (Nat.le_refl _) _
  have HR := Lib.hid (h.below hb1)
  have HF := Lib.hid (Fr.of_below (own := [rb]) hb1)
  have HT := Lib.hid hT
  have HO := Lib.hid (own_empty (T := 33) (k := 16) w)
  have hq : ∀ w : World, (binOp .neq 144 (.func (.func 119) #[] #[]) .nilFunc).run Tryz.prog w = .ok (.bool true) w := fun w => by kernel_rfl
  have hEn : ∀ (args : Array Value) (w : World), (callFunc 119 args).run Tryz.prog w = .ok (.enter 119 args) w := enters_of Tryz.func119 (by kernel_rfl) rfl
  have hmk : ∀ w : World, (Instr.makeSlice 31 (.int .i64 0) (.int .i64 0)).run Tryz.prog w = .ok (.slice (some ⟨w.heap.size, 0, none⟩) 0 0) (w.alloc (.cells #[] 33)) := fun w => by
    obtain ⟨i, hi, hz, hsz, hb⟩ := info_partsI elemBTx.info
    have := run_make (P := Tryz.prog) w 31 33 i _ elemBTx.under hi hz .i64 .i64 0 0 (Int.le_refl _) (Int.le_refl _) (by omega) (by omega)
    simpa [madeCells, Array.range_zero'] using this
  clear h hT hb1
  go_enter Tryz.func118, Tryz.ntmps118
  go_wp2_with fail
  generalize w.alloc (.cells #[] 33) = W at *
  have hN := rCount_any 1024 1024 rfl 8 8 rfl (by decide) (by decide) HR.out
  rcases hX : countP l 1024 8 p with ⟨q, k⟩ | ⟨N, q⟩
  · have HG := Lib.hid (show listP l 1024 8 (partP l) p = .error (q, k) by unfold listP; rw [hX]; rfl)
    rw [hX] at hN
    refine hN.mono ?_
    rintro e w2 ⟨rfl, hr, hf⟩
    refine ⟨rfl, ?_⟩
    rw [HG.out]
    exact ⟨rfl, hr, HF.out.transJ hf⟩
  · obtain ⟨rfl, hN16⟩ := countP_ok hX
    have HG := Lib.hid (show listP l 1024 8 (partP l) p = repP (partP l) N (p + 4) by unfold listP; rw [hX]; rfl)
    rw [hX] at hN
    refine hN.mono ?_
    rintro e w2 ⟨⟨u, rfl, rfl⟩, hr, hf⟩
    have HR2 := Lib.hid hr; have HF2 := Lib.hid (HF.out.transJ hf)
    have HO2 := Lib.hid (own_fr HO.out hf (by simp; omega))
    clear hr hf hN hX
    go_wp2_with fail
    go_loopw [9, 16] (fun v i wr => JRTx rb A n c l w N (listP l 1024 8 (partP l) p) v i wr) (fun _ i _ => N - (RowKit.intOf i).toNat)
    case atStart => exact ⟨[], _, 0, p + 4, rfl, rfl, Nat.zero_le _, by rw [ahead_nil, HG.out]; rfl, HR2.out, HF2.out, LsR.empty HO2.out⟩
    case round =>
      obtain ⟨xs, B, d, q, rfl, rfl, hxn, htot, hrd, hfr, hlr⟩ := hrel
      have HT3 := Lib.hid (HT.out.fr hfr)
      have HTOT := Lib.hid htot; have HRD := Lib.hid hrd; have HFR := Lib.hid hfr; have HLR := Lib.hid hlr
      clear htot hrd hfr hlr
      by_cases hk : xs.length < N
      · have hk2 : (xs.length : Int) < (N : Int) := by omega
        have hb1 : Below wr.heap.size wr (wr.alloc (.cells #[.int .i32 0, .string ⟨#[]⟩, .slice none 0 0, .slice none 0 0, .int .i64 0, .int .i32 0, .int .i32 0, .bool false, .int .i64 0, .int .i64 0, .int .i64 0, .int .i32 0, .slice none 0 0, .slice none 0 0, .int .i32 0, .slice none 0 0] 33)) := (Below.refl _ wr).alloc (Nat.le_refl _) _
        have HR4 := Lib.hid (HRD.out.below hb1)
        have HF4 := Lib.hid (Fr.of_below (own := [rb]) hb1)
        have HT4 := Lib.hid (HT3.out.fr (Fr.of_below hb1))
        have HG4 := Lib.hid (heap_s0 wr (.cells #[.int .i32 0, .string ⟨#[]⟩, .slice none 0 0, .slice none 0 0, .int .i64 0, .int .i32 0, .int .i32 0, .bool false, .int .i64 0, .int .i64 0, .int .i64 0, .int .i32 0, .slice none 0 0, .slice none 0 0, .int .i32 0, .slice none 0 0] 33))
        have hws := HFR.out.size
        clear hb1
        go_upto_region 5 with fail
        generalize wr.alloc (.cells #[.int .i32 0, .string ⟨#[]⟩, .slice none 0 0, .slice none 0 0, .int .i64 0, .int .i32 0, .int .i32 0, .bool false, .int .i64 0, .int .i64 0, .int .i64 0, .int .i32 0, .slice none 0 0, .slice none 0 0, .int .i32 0, .slice none 0 0] 33) = W4 at *
        go_wp2_with fail
        have hN := getTx1_any HR4.out HT4.out
        rcases hY : partP l q with e0 | ⟨x, q5⟩
        · obtain ⟨q5, k5⟩ := e0
          have HE := Lib.hid (show listP l 1024 8 (partP l) p = .error (q5, k5) by
            have h1 := HTOT.out
            rw [show N - xs.length = (N - xs.length - 1) + 1 by omega, repP_fail xs hY] at h1
            exact h1.symm)
          rw [hY] at hN
          with_reducible refine hN.mono ?_
          rintro e w5 ⟨rfl, hr, hf⟩
          refine ⟨rfl, ?_⟩
          rw [HE.out]
          exact ⟨rfl, hr, HFR.out.transJ (HF4.out.transJ hf)⟩
        · have HE := Lib.hid (show (repP (partP l) (N - (xs.length + 1)) q5).ahead (xs ++ [x]) = listP l 1024 8 (partP l) p by
            have h1 := HTOT.out
            rw [show N - xs.length = (N - (xs.length + 1)) + 1 by omega, repP_step xs hY] at h1
            exact h1)
          rw [hY] at hN
          with_reducible refine hN.mono ?_
          rintro e w5 ⟨⟨u, rfl, hgl⟩, hr, hf⟩
          obtain ⟨hh, rfl, hta⟩ := hgl.tree
          have gX := (hf.block _ (Array.getElem?_eq_some_iff.1 HG4.out).1 (by simp; omega)).trans HG4.out
          have HG5 := Lib.hid gX
          have hfz := fr_setRow9 w5 wr.heap.size (encTx hh).toArray
          have gY : (w5.setRow wr.heap.size (encTx hh).toArray).heap[wr.heap.size]? = some (.cells (encTx hh).toArray 33 (0, 0)) := setRow_heap _ _ _ _ _ _ gX
          have HSW := Lib.hid (show wr.heap.size < W4.heap.size from (Array.getElem?_eq_some_iff.1 HG4.out).1)
          have HF6 := Lib.hid ((HF4.out.transJ hf).trans hfz (by simp))
          have HF6b := Lib.hid (show Fr [rb] wr (w5.setRow wr.heap.size (encTx hh).toArray) from (HF4.out.transJ hf).trans hfz (by simp))
          have HTA := Lib.hid (show TxAt (w5.setRow wr.heap.size (encTx hh).toArray) (fun b => wr.heap.size ≤ b ∧ NfR (w5.setRow wr.heap.size (encTx hh).toArray) w.heap.size b) hh (leafT x) from TrAt.fr kTxOk hta hfz (fun b _ hb => ⟨by have := hb.1; have := HSW.out; simp; omega, by have := hb.1; have := HSW.out; omega, hb.fr hfz (by have := hb.1; have := HSW.out; simp; omega) (by have := HSW.out; omega)⟩))
          have HR6 := Lib.hid (hr.fr hfz (by have := HRD.out.lt; simp; omega))
          clear hr hf hN hta hgl hfz
          go_upto_region 7 with (first | (apply wpList_storeRow 33 33; exact rfl; exact rfl; exact rfl; exact rfl; exact gX; exact infTx; exact rfl; exact oneTx _) | fail)
          clear gX
          generalize w5.setRow wr.heap.size (encTx hh).toArray = w6 at *
          obtain ⟨Hs, hrow, hHl, hHt⟩ := HLR.out.r
          have hb7 : Below w6.heap.size w6 (w6.alloc (.cells (encTx hh).toArray 33)) := (Below.refl _ w6).alloc (Nat.le_refl _) _
          have HB7 := Lib.hid hb7
          have HX7 := Lib.hid (show (w6.alloc (.cells (encTx hh).toArray 33)).rangeAt w6.heap.size 0 (encTx hh) from rangeAt_heapC (pre := []) (mid := encTx hh) (post := []) (heap_s0 w6 _) (by simp) rfl)
          have HRW := Lib.hid hrow; have HHL := Lib.hid hHl; have HHT := Lib.hid hHt
          have HLM := Lib.hid (show (xs.map leafT).length = xs.length by simp)
          have HHL2 := Lib.hid (show Hs.length = xs.length by rw [hHl]; simp)
          have hf7 := HF6.out.trans (Fr.of_below (own := []) hb7) (by simp)
          have HF7 := Lib.hid hf7
          have HR7 := Lib.hid (HR6.out.below hb7)
          have HOW := Lib.hid (show (w6.alloc (.cells (encTx hh).toArray 33)).ownsRow w.heap.size 33 16 (.slice B xs.length d) xs.length (Hs.flatMap encTx) by
            have := own_fr hrow hf7 (by simp; omega)
            rwa [HLM.out] at this)
          have HSZ := Lib.hid (show w.heap.size ≤ (w6.alloc (.cells (encTx hh).toArray 33)).heap.size from Nat.le_trans hws hf7.size)
          clear hrow hHl hHt hb7 hf7
          go_wp2_with (first
            | (apply wpList_loadRow 33 33; exact rfl; exact rfl; exact rfl; exact gY; exact undTx; exact rfl; exact infTx)
            | (at_builtin; refine wpList_appT elemBTx HOW.out HHL2.out hh w6.heap.size rfl _ _ rfl ?hx9 ?hy9 HX7.out (by omega) HSZ.out ?hk9)
            | fail)
          (try case hx9 => rfl)
          (try case hy9 => rfl)
          case hk9 =>
            intro A9 c9 w9 hv9 hon9
            have HRN := Lib.hid (show LsR NfR w.heap.size ((xs ++ [x]).map leafT) A9 c9 w9 by
              rw [List.map_append, List.map_singleton]
              refine LsR.stepF (own0 := [rb]) (by simp; omega) HF6b.out HTA.out HB7.out HRW.out HHL.out HHT.out ?_ hon9
              rw [HLM.out, List.flatMap_append, List.flatMap_singleton]; exact hv9)
            have HB9 := Lib.hid (OnT.bel hon9 HOW.out HSZ.out)
            clear hv9 hon9
            go_wp2_with fail
            go_roundw
            case rel => exact ⟨xs ++ [x], A9, c9, q5, by simp, by simp, by simp; omega, by rw [List.length_append]; exact HE.out, HR7.out.belowB HB9.out hlt, (HFR.out.transJ HF7.out).belowJ HB9.out, HRN.out⟩
            case measure => simp [RowKit.intOf]; omega

      · have hk2 : ¬ (xs.length : Int) < (N : Int) := by omega
        have HE := Lib.hid (show listP l 1024 8 (partP l) p = .ok (xs, q) by
          have h1 := HTOT.out
          rw [show N - xs.length = 0 by omega] at h1
          rw [← h1]
          simp [repP, PR.ahead, PR.then])
        go_wp2_with fail
        go_ret
        rw [HE.out]
        exact ⟨⟨_, rfl, B, d, rfl, HLR.out⟩, HRD.out, HFR.out⟩
set_option linter.unusedSimpArgs false in
set_option maxRecDepth 100000 in
set_option maxHeartbeats 4000000 in
theorem get14_any {w : World} {rb n c p : Nat} {A : Option Addr} {l : Bs} (h : Rd w rb A n c l p) (hT : TabsR rb w) :
    Calls Tryz.prog 66 #[.pointer (some ⟨rb, 0, none⟩), .int .i32 14] w (RdOut rb A n c l w (bodyP l 14 p) (GetT w)) := by
  have hlt := h.lt
  have hb1 : Below w.heap.size w (w.alloc (.cells #[.int .i32 0, .string ⟨#[]⟩, .slice none 0 0, .slice none 0 0, .int .i64 0, .int .i32 0, .int .i32 0, .bool false, .int .i64 0, .int .i64 0, .int .i64 0, .int .i32 0, .slice none 0 0, .slice none 0 0, .int .i32 0, .slice none 0 0] 33)) := (Below.refl _ w).alloc (Nat.le_refl _) _
  have hb2 : Below w.heap.size w ((w.alloc (.cells #[.int .i32 0, .string ⟨#[]⟩, .slice none 0 0, .slice none 0 0, .int .i64 0, .int .i32 0, .int .i32 0, .bool false, .int .i64 0, .int .i64 0, .int .i64 0, .int .i32 0, .slice none 0 0, .slice none 0 0, .int .i32 0, .slice none 0 0] 33)).alloc (.cells #[.int .i32 14, .string ⟨#[]⟩, .slice none 0 0, .slice none 0 0, .int .i64 0, .int .i32 0, .int .i32 0, .bool false, .int .i64 0, .int .i64 0, .int .i64 0, .int .i32 0, .slice none 0 0, .slice none 0 0, .int .i32 0, .slice none 0 0] 33)) := hb1.alloc hb1.size _
  have HR0 := Lib.hid (h.below hb2)
  have HF0 := Lib.hid (Fr.of_below (own := [rb]) hb2)
  have HT0 := Lib.hid (hT.fr (Fr.of_below hb2))
  have HG0 := Lib.hid (heap_s1 w (.cells #[.int .i32 0, .string ⟨#[]⟩, .slice none 0 0, .slice none 0 0, .int .i64 0, .int .i32 0, .int .i32 0, .bool false, .int .i64 0, .int .i64 0, .int .i64 0, .int .i32 0, .slice none 0 0, .slice none 0 0, .int .i32 0, .slice none 0 0] 33) (.cells #[.int .i32 14, .string ⟨#[]⟩, .slice none 0 0, .slice none 0 0, .int .i64 0, .int .i32 0, .int .i32 0, .bool false, .int .i64 0, .int .i64 0, .int .i64 0, .int .i32 0, .slice none 0 0, .slice none 0 0, .int .i32 0, .slice none 0 0] 33))
  have HZ0 := Lib.hid (heap_under (o := (.cells #[.int .i32 14, .string ⟨#[]⟩, .slice none 0 0, .slice none 0 0, .int .i64 0, .int .i32 0, .int .i32 0, .bool false, .int .i64 0, .int .i64 0, .int .i64 0, .int .i32 0, .slice none 0 0, .slice none 0 0, .int .i32 0, .slice none 0 0] 33)) (heap_s0 w (.cells #[.int .i32 0, .string ⟨#[]⟩, .slice none 0 0, .slice none 0 0, .int .i64 0, .int .i32 0, .int .i32 0, .bool false, .int .i64 0, .int .i64 0, .int .i64 0, .int .i32 0, .slice none 0 0, .slice none 0 0, .int .i32 0, .slice none 0 0] 33)))
  have HLZ := Lib.hid (sz2 w (.cells #[.int .i32 0, .string ⟨#[]⟩, .slice none 0 0, .slice none 0 0, .int .i64 0, .int .i32 0, .int .i32 0, .bool false, .int .i64 0, .int .i64 0, .int .i64 0, .int .i32 0, .slice none 0 0, .slice none 0 0, .int .i32 0, .slice none 0 0] 33) (.cells #[.int .i32 14, .string ⟨#[]⟩, .slice none 0 0, .slice none 0 0, .int .i64 0, .int .i32 0, .int .i32 0, .bool false, .int .i64 0, .int .i64 0, .int .i64 0, .int .i32 0, .slice none 0 0, .slice none 0 0, .int .i32 0, .slice none 0 0] 33))
  have HLF := Lib.hid (show bodyP l 14 p = (listP l 1024 8 (partP l) p).then fun v0 p0 => .ok (.mk (blkF 14) (v0.map leafT), p0) from rfl)
  clear h hT hb1 hb2
  go_enter Tryz.func66, Tryz.ntmps66
  go_upto_region 2 with (first | (apply wpList_storeTop 33 33; exact rfl; exact rfl; exact rfl; (first | (with_reducible rfl) | (exact sz1 _ _) | (exact sz2 _ _ _)); exact rfl; exact infTx; exact rfl; (first | exact oneTx _ | simp [Value.oneCell'])) | fail)
  change Code.wp _ _ _ _ ((w.alloc (.cells #[.int .i32 0, .string ⟨#[]⟩, .slice none 0 0, .slice none 0 0, .int .i64 0, .int .i32 0, .int .i32 0, .bool false, .int .i64 0, .int .i64 0, .int .i64 0, .int .i32 0, .slice none 0 0, .slice none 0 0, .int .i32 0, .slice none 0 0] 33)).alloc (.cells #[.int .i32 14, .string ⟨#[]⟩, .slice none 0 0, .slice none 0 0, .int .i64 0, .int .i32 0, .int .i32 0, .bool false, .int .i64 0, .int .i64 0, .int .i64 0, .int .i32 0, .slice none 0 0, .slice none 0 0, .int .i32 0, .slice none 0 0] 33))
  generalize ((w.alloc (.cells #[.int .i32 0, .string ⟨#[]⟩, .slice none 0 0, .slice none 0 0, .int .i64 0, .int .i32 0, .int .i32 0, .bool false, .int .i64 0, .int .i64 0, .int .i64 0, .int .i32 0, .slice none 0 0, .slice none 0 0, .int .i32 0, .slice none 0 0] 33)).alloc (.cells #[.int .i32 14, .string ⟨#[]⟩, .slice none 0 0, .slice none 0 0, .int .i64 0, .int .i32 0, .int .i32 0, .bool false, .int .i64 0, .int .i64 0, .int .i64 0, .int .i32 0, .slice none 0 0, .slice none 0 0, .int .i32 0, .slice none 0 0] 33)) = W0 at *
  go_wp2_with fail
  refine (part_any 14 W0).mono ?_
  rintro e wq ⟨rfl, rfl⟩
  rename World => W0
  rw [show partB 14 = false from rfl]
  go_wp2_with fail
  have hN := getTxs_any HR0.out HT0.out
  rcases hX0 : listP l 1024 8 (partP l) p with ⟨q, k⟩ | ⟨v0, p0⟩
  · have HG := Lib.hid (show bodyP l 14 p = .error (q, k) by rw [HLF.out]; simp only [thenOk2, thenErr, hX0])
    rw [hX0] at hN
    refine hN.mono ?_
    rintro e w9 ⟨rfl, hr, hf⟩
    refine ⟨rfl, ?_⟩
    rw [HG.out]
    exact ⟨rfl, hr, HF0.out.transJ hf⟩
  rw [hX0] at hN
  have HX0 := Lib.hid hX0
  clear hX0
  refine hN.mono ?_
  rintro e w1 ⟨⟨u, rfl, A0, c0, rfl, hrow⟩, hr, hf⟩
  have hg := (hf.block _ (Array.getElem?_eq_some_iff.1 HG0.out).1 (by simp; omega)).trans HG0.out
  have z : w1.frozen? ⟨w.heap.size + 1, 15, none⟩ = false := by simp [World.frozen?, hg]
  have y : w1.cell? ⟨w.heap.size + 1, 15, none⟩ = some (.slice none 0 0) := by rw [cellH hg]; rfl
  have HG1 := Lib.hid (show (w1.setCell ⟨w.heap.size + 1, 15, none⟩ (.slice A0 v0.length c0)).heap[w.heap.size + 1]? = some (.cells #[.int .i32 14, .string ⟨#[]⟩, .slice none 0 0, .slice none 0 0, .int .i64 0, .int .i32 0, .int .i32 0, .bool false, .int .i64 0, .int .i64 0, .int .i64 0, .int .i32 0, .slice none 0 0, .slice none 0 0, .int .i32 0, .slice A0 v0.length c0] 33 (0, 0)) from heap_setJ (o := 15) hg _)
  have HZ1 := Lib.hid ((heap_otherJ w1 (w.heap.size + 1) 15 (.slice A0 v0.length c0) (by omega)).trans ((hf.block _ (Array.getElem?_eq_some_iff.1 HZ0.out).1 (by simp; omega)).trans HZ0.out))
  have HR1 := Lib.hid (hr.fr (fr_setJ w1 (w.heap.size + 1) 15 (.slice A0 v0.length c0)) (by simp; omega))
  have HF1 := Lib.hid ((HF0.out.transJ hf).trans (fr_setJ w1 (w.heap.size + 1) 15 (.slice A0 v0.length c0)) (by simp))
  have HT1 := Lib.hid ((HT0.out.fr hf).set (show rb < w.heap.size + 1 by omega) 15 (.slice A0 v0.length c0))
  obtain ⟨B0, hB0⟩ : ∃ B, B = W0.heap.size := ⟨_, rfl⟩
  rw [← hB0] at hrow
  have HLB0 := Lib.hid (show w.heap.size + 2 ≤ B0 by rw [hB0]; have h8 := (Array.getElem?_eq_some_iff.1 HG0.out).1; omega)
  have HL0 := Lib.hid (LsR.frN hrow (fr_setJ w1 (w.heap.size + 1) 15 (.slice A0 v0.length c0)) (by have := HLB0.out; simp; omega))
  clear hrow hB0
  clear hr hf hN hg
  go_upto_region 31 with fail
  clear z y
  generalize (w1.setCell ⟨w.heap.size + 1, 15, none⟩ (.slice A0 v0.length c0)) = V at *
  have gX := HG1.out
  have gZ := HZ1.out
  go_wp2_with (first | (apply wpList_loadRow 33 33; exact rfl; exact rfl; exact rfl; assumption; exact undTx; exact rfl; exact infTx) | (apply wpList_storeRow 33 33; exact rfl; exact rfl; exact rfl; exact rfl; assumption; exact infTx; exact rfl; simp [Value.oneCell']) | fail)
  have hfz := fr_setRow9 V w.heap.size #[.int .i32 14, .string ⟨#[]⟩, .slice none 0 0, .slice none 0 0, .int .i64 0, .int .i32 0, .int .i32 0, .bool false, .int .i64 0, .int .i64 0, .int .i64 0, .int .i32 0, .slice none 0 0, .slice none 0 0, .int .i32 0, .slice A0 v0.length c0]
  have HEND := Lib.hid (show RdOut rb A n c l w (bodyP l 14 p) (GetT w) (.returned (txV ⟨⟨14, ⟨#[]⟩, 0, 0, 0, false, 0, 0, 0, 0, 0⟩, (none, 0, 0), (none, 0, 0), (none, 0, 0), (none, 0, 0), (A0, v0.length, c0)⟩)) (V.setRow w.heap.size #[.int .i32 14, .string ⟨#[]⟩, .slice none 0 0, .slice none 0 0, .int .i64 0, .int .i32 0, .int .i32 0, .bool false, .int .i64 0, .int .i64 0, .int .i64 0, .int .i32 0, .slice none 0 0, .slice none 0 0, .int .i32 0, .slice A0 v0.length c0]) by
    have hlf : bodyP l 14 p = .ok (.mk (blkF 14) (v0.map leafT), p0) := by rw [HLF.out]; simp only [thenOk2, HX0.out]
    rw [hlf]
    refine ⟨⟨_, rfl, _, rfl, LsR.tree (c := c0) (A := A0) ((HL0.out.frN hfz (by have := HLB0.out; simp; omega)).mono kNf (by have := HLB0.out; omega)) ⟨rfl, SlR.nil_, SlR.nil_, SlR.nil_, SlR.nil_⟩ (by simp)⟩, HR1.out.fr hfz (by simp; omega), HF1.out.trans hfz (by simp)⟩)
  exact bodyPost_cell rfl rfl (setRow_heap _ _ _ _ _ _ gZ) undTx rfl infTx rfl HEND.out
/-- what get answers, of any type that may be read -/
theorem gets_any (l : Bs) (ty : Int) (p : Nat) (hk : knownB ty = true) : GetsP l ty p := by
  rcases known_cases hk with rfl | rfl | rfl | rfl | rfl | rfl | rfl | rfl | rfl | rfl | rfl
  · exact gets_leaf (by decide) fun _ _ _ _ _ h hT => get1_any h hT
  · exact gets_leaf (by decide) fun _ _ _ _ _ h hT => get2_any h hT
  · exact gets_leaf (by decide) fun _ _ _ _ _ h hT => get5_any h hT
  · exact gets_leaf (by decide) fun _ _ _ _ _ h hT => get7_any h hT
  · exact gets_leaf (by decide) fun _ _ _ _ _ h hT => get13_any h hT
  · exact gets_leaf (by decide) fun _ _ _ _ _ h hT => get120_any h hT
  · exact gets_leaf (by decide) fun _ _ _ _ _ h hT => get121_any h hT
  · exact fun _ _ _ _ _ h hT => get14_any h hT
  · exact gets_leaf (by decide) fun _ _ _ _ _ h hT => getM10_any h hT
  · exact gets_leaf (by decide) fun _ _ _ _ _ h hT => getM11_any h hT
  · exact gets_leaf (by decide) fun _ _ _ _ _ h hT => getM1_any h hT
end Go.Proofs.YthpjneobmmpbnaaGreatDoor
namespace Go.Proofs.YthpjneobmmpbnaaGreatDoor
open Go.RowKit
/-! ### a path is UTF-8 -/
theorem decodeL_drop (s : ByteArray) (p : Nat) : Lib.decodeL (s.data.toList.drop p) = Utf8.decode s p := by
  unfold Lib.decodeL
  rw [Lib.decode_at, Lib.decode_at]
  have g : ∀ k, (⟨(s.data.toList.drop p).toArray⟩ : ByteArray).get! k = s.get! (p + k) := fun k => by
    rw [← get_dropU s p k]
    show ((s.data.toList.drop p).toArray)[k]! = (s.data.toList.drop p).getD k 0
    generalize s.data.toList.drop p = l
    by_cases h : k < l.length
    · rw [getElem!_pos l.toArray k (by simpa using h)]; simp [List.getD, h]
    · rw [getElem!_neg l.toArray k (by simpa using h)]; simp [List.getD, List.getElem?_eq_none (Nat.le_of_not_lt h)]; rfl
  have hs : (⟨(s.data.toList.drop p).toArray⟩ : ByteArray).size = s.size - p := by show (s.data.toList.drop p).toArray.size = _; simp
  rw [hs, g 0, g (0 + 1), g (0 + 2), g (0 + 3)]
  rfl
theorem fine_valid (s : ByteArray) : ∀ f p, s.size ≤ p + f → fineF s f p = true → Lib.validD (s.data.toList.drop p) = true
  | 0, p, h, _ => by rw [List.drop_eq_nil_of_le (by simpa using h)]; exact Lib.validD_nil
  | f + 1, p, h, hf => by
    unfold fineF at hf
    by_cases hp : p < s.size
    · rw [if_pos hp] at hf
      simp only [Bool.and_eq_true] at hf
      obtain ⟨h1, h2⟩ := hf
      have hne : s.data.toList.drop p ≠ [] := by
        intro h'; have : (s.data.toList.drop p).length = 0 := by rw [h']; rfl
        simp at this; have : s.data.size = s.size := rfl; omega
      rw [Lib.validD_step _ hne, decodeL_drop]
      have hk : ¬ ((Utf8.decode s p).1 = 65533 ∧ (Utf8.decode s p).2 = 1) := by
        intro hk
        unfold stepOk charK at h1
        rw [if_pos hk] at h1
        simp at h1
      rw [if_neg hk, List.drop_drop]
      have hw := charW_pos s p
      exact fine_valid s f (p + (Utf8.decode s p).2) (by unfold charW at hw; omega) h2
    · rw [List.drop_eq_nil_of_le (by simpa using hp)]; exact Lib.validD_nil
theorem path_utf8 {s : ByteArray} (h : validP s = true) : s.size ≤ 4096 ∧ 1 ≤ s.size ∧ Lib.validD s.data.toList = true := by
  unfold validP at h
  simp only [Bool.and_eq_true, Bool.or_eq_true, decide_eq_true_eq] at h
  obtain ⟨⟨⟨h1, h2⟩, h3⟩, h4⟩ := h
  refine ⟨h2, by omega, ?_⟩
  rcases h4 with h4 | ⟨-, h4⟩
  · obtain ⟨⟨l⟩⟩ := s
    have hl : l.length = 1 := h4
    match l, hl with
    | [b], _ =>
      have hb : b = 47 := h3
      subst hb
      rfl
  · have := fine_valid s s.size 0 (by omega) h4
    rwa [List.drop_zero] at this
/-! ### readers, forth alone -/
structure Fw {α : Type} (D : α → Prop) (P : Bs → Nat → PR α) (B : α → Bs) : Prop where
  fwd : ∀ (a c : Bs) (x : α), D x → P (a ++ (B x ++ c)) a.length = .ok (x, a.length + (B x).length)
section
variable {α β : Type} {D : α → Prop} {P : Bs → Nat → PR α} {B : α → Bs}
theorem Cdc.fw (h : Cdc D P B) : Fw D P B := ⟨h.fwd⟩
theorem Fw.less (h : Fw D P B) {D' : α → Prop} (hd : ∀ x, D' x → D x) : Fw D' P B := ⟨fun a c x hx => h.fwd a c x (hd x hx)⟩
theorem Fw.bind (h : Fw D P B) {E : α → β → Prop} {Q : α → Bs → Nat → PR β} {C : α → β → Bs} (k : ∀ x, D x → Fw (E x) (Q x) (C x)) :
    Fw (fun z : α × β => D z.1 ∧ E z.1 z.2) (fun l p => (P l p).then fun x a => (Q x l a).then fun y b => .ok ((x, y), b)) (fun z => B z.1 ++ C z.1 z.2) where
  fwd a c z hz := by
    obtain ⟨x, y⟩ := z
    obtain ⟨h1, h2⟩ := hz
    have e1 : a ++ ((B x ++ C x y) ++ c) = a ++ (B x ++ (C x y ++ c)) := by simp
    have e2 : a ++ (B x ++ (C x y ++ c)) = (a ++ B x) ++ (C x y ++ c) := by simp
    show ((P (a ++ ((B x ++ C x y) ++ c)) a.length).then _) = _
    rw [e1, h.fwd a _ x h1, thenOk, e2]
    have h3 := (k x h1).fwd (a ++ B x) c y h2
    rw [List.length_append] at h3
    rw [h3, thenOk, List.length_append, Nat.add_assoc]
/-- a reader of f x, where x is read -/
theorem Fw.map (h : Fw D P B) (f : α → β) {E : β → Prop} {C : β → Bs} {P' : Bs → Nat → PR β} (hP : ∀ l p, P' l p = (P l p).then fun x a => .ok (f x, a)) (hE : ∀ y, E y → ∃ x, D x ∧ f x = y ∧ B x = C y) : Fw E P' C where
  fwd a c y hy := by
    obtain ⟨x, hx, rfl, hb⟩ := hE y hy
    rw [hP, ← hb, h.fwd a c x hx]; rfl
theorem Fw.rep (h : Fw D P B) : ∀ n, Fw (fun xs : List α => xs.length = n ∧ ∀ x ∈ xs, D x) (fun l p => repP (P l) n p) (fun xs => xs.flatMap B)
  | 0 => ⟨fun a c xs hx => by
      obtain rfl := List.length_eq_zero_iff.1 hx.1
      rfl⟩
  | n + 1 => ⟨fun a c xs hx => by
      obtain ⟨hl, hd⟩ := hx
      match xs, hl with
      | x :: r, hl =>
        have h1 := h.fwd a (r.flatMap B ++ c) x (hd x (List.mem_cons_self ..))
        have h2 := (h.rep n).fwd (a ++ B x) c r ⟨by simpa using hl, fun y hy => hd y (List.mem_cons_of_mem _ hy)⟩
        show ((P (a ++ ((x :: r).flatMap B ++ c)) a.length).then _) = _
        rw [List.flatMap_cons, List.append_assoc, h1, thenOk]
        rw [List.length_append] at h2
        rw [← List.append_assoc, h2, thenOk, List.length_append, Nat.add_assoc]⟩
theorem Fw.list (h : Fw D P B) {m k : Nat} (hm : m ≤ 1048576) (hk0 : 1 ≤ k) (hk : ∀ x, D x → k ≤ (B x).length) :
    Fw (fun xs : List α => xs.length ≤ m ∧ ∀ x ∈ xs, D x) (fun l p => listP l m k (P l) p) (fun xs => beB xs.length 4 ++ xs.flatMap B) where
  fwd a c xs hx := by
    have h1 := (sizeC hm).fwd a (xs.flatMap B ++ c) xs.length hx.1
    have h2 := (h.rep xs.length).fwd (a ++ beB xs.length 4) c xs ⟨rfl, hx.2⟩
    show listP _ _ _ _ _ = _
    unfold listP countP
    rw [List.append_assoc, h1, thenOk]
    have h3 := flat_ge hk xs hx.2
    have h4 : ¬ (1 ≤ k ∧ ((a ++ (beB xs.length 4 ++ (xs.flatMap B ++ c))).length - (a.length + (beB xs.length 4).length)) / k < xs.length) := by
      rintro ⟨-, h5⟩
      rw [Nat.div_lt_iff_lt_mul hk0, Nat.mul_comm] at h5
      simp only [List.length_append, beB_len] at h5
      omega
    rw [if_neg h4, thenOk]
    rw [List.length_append] at h2
    rw [← List.append_assoc, h2, List.length_append, Nat.add_assoc]
end
/-! ### texts, entries, identities -/
def bsOf8 (s : ByteArray) : Bs := s.data.toList
theorem buf_txt (s : ByteArray) : bufB (bsOf8 s) = txtB s := by
  unfold bufB txtB bsOf8
  rw [show s.data.toList.length = s.size by simp]
def okTxt (m : Nat) (b : Bs) : Prop := b.length ≤ m ∧ Lib.validD b = true
theorem idFw : Fw (fun z : Bs × Bs => okTxt 256 z.1 ∧ okTxt 256 z.2) idP (fun z => bufB z.1 ++ bufB z.2) :=
  (textC (m := 256) (by decide)).fw.bind fun _ _ => (textC (m := 256) (by decide)).fw
theorem aclFw : Fw (fun z : Int × Bs × Bs => in32 z.1 ∧ okTxt 256 z.2.1 ∧ okTxt 256 z.2.2) aclP (fun z => beB (m32 z.1) 4 ++ (bufB z.2.1 ++ bufB z.2.2)) :=
  intC.fw.bind fun _ _ => idFw
def backI (x : IdV) : Bs × Bs := (bsOf8 x.1, bsOf8 x.2)
def backA (x : AclV) : Int × Bs × Bs := (x.1, backI x.2)
theorem backI_map (l : List IdV) : (l.map backI).map idV = l := by
  rw [List.map_map]
  exact (List.map_congr_left fun x _ => rfl).trans (List.map_id _)
theorem backA_map (l : List AclV) : (l.map backA).map aclV = l := by
  rw [List.map_map]
  exact (List.map_congr_left fun x _ => rfl).trans (List.map_id _)
theorem backT_map (l : List ByteArray) : (l.map bsOf8).map toBA = l := by
  rw [List.map_map]
  exact (List.map_congr_left fun x _ => rfl).trans (List.map_id _)
theorem flat_map_eq {α β : Type} (g : α → β) (B : β → Bs) (C : α → Bs) (h : ∀ x, B (g x) = C x) (l : List α) : (l.map g).flatMap B = l.flatMap C := by
  rw [List.flatMap_map]
  exact congrArg (fun f => l.flatMap f) (funext h)
theorem acls_eq (l : List AclV) : beB (l.map backA).length 4 ++ (l.map backA).flatMap (fun z => beB (m32 z.1) 4 ++ (bufB z.2.1 ++ bufB z.2.2)) = aclsB l := by
  rw [List.length_map, flat_map_eq backA _ aclB fun x => by
    show beB (m32 x.1) 4 ++ (bufB (bsOf8 x.2.1) ++ bufB (bsOf8 x.2.2)) = aclB x
    rw [buf_txt, buf_txt]; rfl]
  rfl
theorem ids_eq (l : List IdV) : beB (l.map backI).length 4 ++ (l.map backI).flatMap (fun z => bufB z.1 ++ bufB z.2) = idsB l := by
  rw [List.length_map, flat_map_eq backI _ idB fun x => by
    show bufB (bsOf8 x.1) ++ bufB (bsOf8 x.2) = idB x
    rw [buf_txt, buf_txt]; rfl]
  rfl
theorem txts_eq (l : List ByteArray) : beB (l.map bsOf8).length 4 ++ (l.map bsOf8).flatMap bufB = txtsB l := by
  rw [List.length_map, flat_map_eq bsOf8 _ txtB buf_txt]
  rfl
theorem bufB_ge (b : Bs) : 4 ≤ (bufB b).length := by rw [bufB_len]; omega
theorem aclsFw : Fw (fun xs : List (Int × Bs × Bs) => xs.length ≤ 16 ∧ ∀ x ∈ xs, in32 x.1 ∧ okTxt 256 x.2.1 ∧ okTxt 256 x.2.2) (fun l p => listP l 16 12 (aclP l) p) (fun xs => beB xs.length 4 ++ xs.flatMap fun z => beB (m32 z.1) 4 ++ (bufB z.2.1 ++ bufB z.2.2)) :=
  aclFw.list (by decide) (by decide) fun x _ => by rw [List.length_append, List.length_append, beB_len]; have := bufB_ge x.2.1; have := bufB_ge x.2.2; omega
theorem idsFw : Fw (fun xs : List (Bs × Bs) => xs.length ≤ 16 ∧ ∀ x ∈ xs, okTxt 256 x.1 ∧ okTxt 256 x.2) (fun l p => listP l 16 8 (idP l) p) (fun xs => beB xs.length 4 ++ xs.flatMap fun z => bufB z.1 ++ bufB z.2) :=
  idFw.list (by decide) (by decide) fun x _ => by rw [List.length_append]; have := bufB_ge x.1; have := bufB_ge x.2; omega
theorem txtsFw : Fw (fun xs : List Bs => xs.length ≤ 1024 ∧ ∀ x ∈ xs, okTxt 4096 x ∧ 1 ≤ x.length) (fun l p => listP l 1024 5 (textP l 4096) p) (fun xs => beB xs.length 4 ++ xs.flatMap bufB) :=
  Fw.list (P := fun l p => textP l 4096 p) ((textC (m := 4096) (by decide)).fw.less fun x h => h.1) (by decide) (by decide) fun x h => by rw [bufB_len]; have := h.2; omega
end Go.Proofs.YthpjneobmmpbnaaGreatDoor
namespace Go.Proofs.YthpjneobmmpbnaaGreatDoor
open Go.RowKit
theorem named_own0 {z : Int} {v : TxF} {k : Nat} (h : ownE z v k = 0) : namedB v = false := by
  unfold ownE at h
  split at h
  · cases h
  · rename_i h2; simpa using h2
/-- what a transaction that may be does not have -/
structure Spare (v : TxF) (k : Nat) : Prop where
  path : partB v.n.ty = false → v.n.path = ByteArray.empty
  data : ¬ (v.n.ty = 1 ∨ v.n.ty = 5) → v.data = []
  acl : ¬ (v.n.ty = 1 ∨ v.n.ty = 7) → v.acl = []
  ow : v.n.ty ≠ 1 → v.n.ow = 0
  cr : v.n.ty ≠ 1 → v.n.cr = 0
  ve : ¬ (v.n.ty = 5 ∨ v.n.ty = 7 ∨ v.n.ty = 13) → v.n.ve = 0
  q : v.n.ty ≠ 120 → v.n.qh = false ∧ v.n.qc = 0 ∧ v.n.qb = 0
  paths : v.n.ty ≠ -11 → v.paths = []
  co : v.n.ty ≠ -1 → v.n.co = 0
  k : v.n.ty ≠ 14 → k = 0
  s : v.n.ty ≠ -10 → v.n.si = 0 ∧ v.n.st = 0 ∧ v.ids = []
theorem spare_all {v : TxF} {k : Nat} (h : spareB v k = false) : Spare v k := by
  unfold spareB at h
  simp only [Bool.or_eq_false_iff, Bool.and_eq_false_iff, Bool.not_eq_false', decide_eq_true_eq, decide_eq_false_iff_not, Classical.not_not] at h
  obtain ⟨⟨⟨⟨⟨⟨⟨⟨⟨⟨h1, h2⟩, h3⟩, h4⟩, h5⟩, h6⟩, h7⟩, h8⟩, h9⟩, h10⟩, h11⟩ := h
  refine ⟨fun e => h1.resolve_left (by rw [e]; simp), fun e => h2.resolve_left e, fun e => h3.resolve_left e, fun e => h4.resolve_left e, fun e => h5.resolve_left e, fun e => h6.resolve_left e, fun e => ?_, fun e => h8.resolve_left e, fun e => h9.resolve_left e, fun e => h10.resolve_left e, fun e => ?_⟩
  · have := h7.resolve_left e; exact ⟨this.1.1, this.1.2, this.2⟩
  · have := h11.resolve_left e; exact ⟨this.1.1, this.1.2, this.2⟩
theorem okTxt_of {m : Nat} {s : ByteArray} (h : s.size ≤ m) (hv : Lib.validD s.data.toList = true) : okTxt m (bsOf8 s) := ⟨by unfold bsOf8; simpa using h, hv⟩
theorem ident_read {x : IdV} (h : identP x = true) : okTxt 256 (bsOf8 x.1) ∧ okTxt 256 (bsOf8 x.2) := by
  have t : ∀ s : ByteArray, textOk s = true → okTxt 256 (bsOf8 s) := fun s h => by
    unfold textOk at h
    simp only [Bool.and_eq_true, decide_eq_true_eq] at h
    refine okTxt_of h.1.1.2 ?_
    have := h.1.2
    unfold validFrom at this
    rwa [List.drop_zero] at this
  unfold identP at h
  simp only [Bool.and_eq_true] at h
  exact ⟨t _ h.1.1, t _ h.1.2⟩
/-- what a transaction that may be has -/
structure LfF (z : Int) (v : TxF) : Prop where
  pv : partB v.n.ty = true → validP v.n.path = true
  dl : v.data.length ≤ 1048575
  al : v.acl.length ≤ 16
  ae : ∀ x ∈ v.acl, okTxt 256 (bsOf8 x.2.1) ∧ okTxt 256 (bsOf8 x.2.2)
  s : v.n.ty = -10 → rightS (z, v.n.st, v.ids) ∧ v.n.si = 0
  pl : v.paths.length ≤ 1024
  pe : v.n.ty = -11 → ∀ p ∈ v.paths, validP p = true
  q : v.n.ty = 120 → v.n.qh = true
theorem lf_of {z : Int} {v : TxF} {k : Nat} (h : ownE z v k = 0) : LfF z v ∧ Spare v k := by
  have hn := named_own0 h
  have hg := own_great h
  have ho := ownE_odd h
  refine ⟨?_, spare_all (spare_no h)⟩
  unfold greatB at hg
  simp only [Bool.or_eq_false_iff, decide_eq_false_iff_not] at hg
  obtain ⟨⟨⟨⟨⟨g1, g2⟩, g3⟩, g4⟩, g5⟩, g6⟩ := hg
  unfold oddB at ho
  simp only [Bool.or_eq_false_iff] at ho
  obtain ⟨⟨o1, -⟩, o3⟩ := ho
  unfold namedB at hn
  refine ⟨fun hp => ?_, by omega, by omega, fun x hx => ?_, fun ht => ?_, by omega, fun ht p hp => ?_, fun ht => ?_⟩
  · by_cases h12 : v.n.ty = 1 ∨ v.n.ty = 2
    · rw [if_pos h12] at hn
      unfold badB at hn
      simp only [Bool.or_eq_false_iff, Bool.not_eq_false'] at hn
      exact hn.1
    · rw [if_neg h12, if_pos hp] at hn
      simpa using hn
  · have a1 := List.any_eq_false.1 g5 x hx
    have a2 := List.any_eq_false.1 o1 x hx
    unfold longB at a1
    unfold utf8B at a2
    simp only [Bool.or_eq_true, decide_eq_true_eq, not_or, Bool.not_eq_true'] at a1 a2
    exact ⟨okTxt_of (by omega) (by simpa using a2.1), okTxt_of (by omega) (by simpa using a2.2)⟩
  · rw [if_neg (by omega), if_neg (by omega), if_pos ht] at o3
    simp only [Bool.or_eq_false_iff, decide_eq_false_iff_not, Classical.not_not, Bool.not_eq_false', decide_eq_true_eq] at o3
    exact ⟨o3.2, o3.1⟩
  · rw [if_neg (by omega), if_neg (by rw [ht]; decide), if_pos ht] at hn
    have a1 := List.any_eq_false.1 hn p hp
    unfold badB at a1
    simp only [Bool.or_eq_true, not_or, Bool.not_eq_true'] at a1
    simpa using a1.1
  · rw [if_neg (by omega), if_pos ht] at o3
    simp only [Bool.or_eq_false_iff, Bool.not_eq_false'] at o3
    exact o3.1.1
set_option linter.unusedSimpArgs false in
theorem leaf_fwd {z : Int} {v : TxF} {k : Nat} (ho : ownE z v k = 0) (hs : TxSm 1048576 v k) (hk : knownB v.n.ty = true) (h14 : v.n.ty ≠ 14) (a c : Bs) : leafP (a ++ (leafB v ++ c)) v.n.ty a.length = .ok (v, a.length + (leafB v).length) := by
  obtain ⟨L, S⟩ := lf_of ho
  obtain ⟨⟨i1, i2, i3, i4, i5, i6, i7, i8, i9⟩, -, -, -, -, -, -, hacl, -, -⟩ := hs
  have HA : ∀ x ∈ v.acl.map backA, in32 x.1 ∧ okTxt 256 x.2.1 ∧ okTxt 256 x.2.2 := fun x hx => by
    obtain ⟨y, hy, rfl⟩ := List.mem_map.1 hx
    obtain ⟨j, hj, rfl⟩ := List.getElem_of_mem hy
    have h1 := (hacl j hj).1
    rw [getElem!_pos v.acl j hj] at h1
    exact ⟨h1, L.ae _ hy⟩
  clear ho hacl
  obtain ⟨⟨ty, path, ow, ve, cr, qh, qc, qb, si, st, co⟩, data, acl, ids, paths⟩ := v
  obtain ⟨s1, s2, s3, s4, s5, s6, s7, s8, s9, -, s11⟩ := S
  dsimp only at *
  rcases ty_cases ty with e | e | e | e | e | e | e | e | e | e | e | ⟨h1, h2, h3, h4, h5, h6, h7, h8, h9, h10, h11⟩
  · subst e
    have HP : path.size ≤ 4096 ∧ 1 ≤ path.size ∧ Lib.validD path.data.toList = true := path_utf8 (L.pv (show partB 1 = true by decide))
    obtain rfl := s6 (by decide)
    obtain ⟨rfl, rfl, rfl⟩ := s7 (by decide)
    obtain rfl := s8 (by decide)
    obtain rfl := s9 (by decide)
    obtain ⟨rfl, rfl, rfl⟩ := s11 (by decide)
    refine (Fw.map ((textC (m := 4096) (by decide)).fw.bind fun _ _ => ((bytesC (m := 1048575) (by decide)).fw.bind fun _ _ => (aclsFw.bind fun _ _ => (longC.fw.bind fun _ _ => (intC.fw))))) (fun x => (⟨⟨1, toBA x.1, x.2.2.2.1, 0, x.2.2.2.2, false, 0, 0, 0, 0, 0⟩, x.2.1, x.2.2.1.map aclV, [], []⟩ : TxF)) (E := fun y => y = _) (C := leafB) (P' := fun l p => leafP l 1 p) (fun l p => ?_) (fun y hy => ⟨(bsOf8 path, data, acl.map backA, ow, cr), ⟨okTxt_of HP.1 HP.2.2, ⟨L.dl, ⟨⟨by rw [List.length_map]; exact L.al, HA⟩, ⟨i2, i4⟩⟩⟩⟩, ?_, ?_⟩)).fwd a c _ rfl
    · show (textP l 4096 p).then _ = _
      simp only [then_assoc, thenOk]
    · subst hy
      (try dsimp only)
      rw [backA_map]
      (try rfl)
    · subst hy
      unfold leafB
      (try dsimp only)
      rw [buf_txt, acls_eq]
      simp [List.append_assoc]
  · subst e
    have HP : path.size ≤ 4096 ∧ 1 ≤ path.size ∧ Lib.validD path.data.toList = true := path_utf8 (L.pv (show partB 2 = true by decide))
    obtain rfl := s2 (by decide)
    obtain rfl := s3 (by decide)
    obtain rfl := s4 (by decide)
    obtain rfl := s5 (by decide)
    obtain rfl := s6 (by decide)
    obtain ⟨rfl, rfl, rfl⟩ := s7 (by decide)
    obtain rfl := s8 (by decide)
    obtain rfl := s9 (by decide)
    obtain ⟨rfl, rfl, rfl⟩ := s11 (by decide)
    refine (Fw.map ((textC (m := 4096) (by decide)).fw) (fun x => (⟨⟨2, toBA x, 0, 0, 0, false, 0, 0, 0, 0, 0⟩, [], [], [], []⟩ : TxF)) (E := fun y => y = _) (C := leafB) (P' := fun l p => leafP l 2 p) (fun l p => ?_) (fun y hy => ⟨(bsOf8 path), okTxt_of HP.1 HP.2.2, ?_, ?_⟩)).fwd a c _ rfl
    · show (textP l 4096 p).then _ = _
      rfl
    · subst hy
      (try dsimp only)
      rfl
    · subst hy
      unfold leafB
      (try dsimp only)
      rw [buf_txt]
      simp [List.append_assoc]
  · subst e
    have HP : path.size ≤ 4096 ∧ 1 ≤ path.size ∧ Lib.validD path.data.toList = true := path_utf8 (L.pv (show partB 121 = true by decide))
    obtain rfl := s2 (by decide)
    obtain rfl := s3 (by decide)
    obtain rfl := s4 (by decide)
    obtain rfl := s5 (by decide)
    obtain rfl := s6 (by decide)
    obtain ⟨rfl, rfl, rfl⟩ := s7 (by decide)
    obtain rfl := s8 (by decide)
    obtain rfl := s9 (by decide)
    obtain ⟨rfl, rfl, rfl⟩ := s11 (by decide)
    refine (Fw.map ((textC (m := 4096) (by decide)).fw) (fun x => (⟨⟨121, toBA x, 0, 0, 0, false, 0, 0, 0, 0, 0⟩, [], [], [], []⟩ : TxF)) (E := fun y => y = _) (C := leafB) (P' := fun l p => leafP l 121 p) (fun l p => ?_) (fun y hy => ⟨(bsOf8 path), okTxt_of HP.1 HP.2.2, ?_, ?_⟩)).fwd a c _ rfl
    · show (textP l 4096 p).then _ = _
      rfl
    · subst hy
      (try dsimp only)
      rfl
    · subst hy
      unfold leafB
      (try dsimp only)
      rw [buf_txt]
      simp [List.append_assoc]
  · subst e
    have HP : path.size ≤ 4096 ∧ 1 ≤ path.size ∧ Lib.validD path.data.toList = true := path_utf8 (L.pv (show partB 5 = true by decide))
    obtain rfl := s3 (by decide)
    obtain rfl := s4 (by decide)
    obtain rfl := s5 (by decide)
    obtain ⟨rfl, rfl, rfl⟩ := s7 (by decide)
    obtain rfl := s8 (by decide)
    obtain rfl := s9 (by decide)
    obtain ⟨rfl, rfl, rfl⟩ := s11 (by decide)
    refine (Fw.map ((textC (m := 4096) (by decide)).fw.bind fun _ _ => ((bytesC (m := 1048575) (by decide)).fw.bind fun _ _ => (intC.fw))) (fun x => (⟨⟨5, toBA x.1, 0, x.2.2, 0, false, 0, 0, 0, 0, 0⟩, x.2.1, [], [], []⟩ : TxF)) (E := fun y => y = _) (C := leafB) (P' := fun l p => leafP l 5 p) (fun l p => ?_) (fun y hy => ⟨(bsOf8 path, data, ve), ⟨okTxt_of HP.1 HP.2.2, ⟨L.dl, i3⟩⟩, ?_, ?_⟩)).fwd a c _ rfl
    · show (textP l 4096 p).then _ = _
      simp only [then_assoc, thenOk]
    · subst hy
      (try dsimp only)
      rfl
    · subst hy
      unfold leafB
      (try dsimp only)
      rw [buf_txt]
      simp [List.append_assoc]
  · subst e
    have HP : path.size ≤ 4096 ∧ 1 ≤ path.size ∧ Lib.validD path.data.toList = true := path_utf8 (L.pv (show partB 7 = true by decide))
    obtain rfl := s2 (by decide)
    obtain rfl := s4 (by decide)
    obtain rfl := s5 (by decide)
    obtain ⟨rfl, rfl, rfl⟩ := s7 (by decide)
    obtain rfl := s8 (by decide)
    obtain rfl := s9 (by decide)
    obtain ⟨rfl, rfl, rfl⟩ := s11 (by decide)
    refine (Fw.map ((textC (m := 4096) (by decide)).fw.bind fun _ _ => (aclsFw.bind fun _ _ => (intC.fw))) (fun x => (⟨⟨7, toBA x.1, 0, x.2.2, 0, false, 0, 0, 0, 0, 0⟩, [], x.2.1.map aclV, [], []⟩ : TxF)) (E := fun y => y = _) (C := leafB) (P' := fun l p => leafP l 7 p) (fun l p => ?_) (fun y hy => ⟨(bsOf8 path, acl.map backA, ve), ⟨okTxt_of HP.1 HP.2.2, ⟨⟨by rw [List.length_map]; exact L.al, HA⟩, i3⟩⟩, ?_, ?_⟩)).fwd a c _ rfl
    · show (textP l 4096 p).then _ = _
      simp only [then_assoc, thenOk]
    · subst hy
      (try dsimp only)
      rw [backA_map]
      (try rfl)
    · subst hy
      unfold leafB
      (try dsimp only)
      rw [buf_txt, acls_eq]
      simp [List.append_assoc]
  · subst e
    have HP : path.size ≤ 4096 ∧ 1 ≤ path.size ∧ Lib.validD path.data.toList = true := path_utf8 (L.pv (show partB 13 = true by decide))
    obtain rfl := s2 (by decide)
    obtain rfl := s3 (by decide)
    obtain rfl := s4 (by decide)
    obtain rfl := s5 (by decide)
    obtain ⟨rfl, rfl, rfl⟩ := s7 (by decide)
    obtain rfl := s8 (by decide)
    obtain rfl := s9 (by decide)
    obtain ⟨rfl, rfl, rfl⟩ := s11 (by decide)
    refine (Fw.map ((textC (m := 4096) (by decide)).fw.bind fun _ _ => (intC.fw)) (fun x => (⟨⟨13, toBA x.1, 0, x.2, 0, false, 0, 0, 0, 0, 0⟩, [], [], [], []⟩ : TxF)) (E := fun y => y = _) (C := leafB) (P' := fun l p => leafP l 13 p) (fun l p => ?_) (fun y hy => ⟨(bsOf8 path, ve), ⟨okTxt_of HP.1 HP.2.2, i3⟩, ?_, ?_⟩)).fwd a c _ rfl
    · show (textP l 4096 p).then _ = _
      simp only [then_assoc, thenOk]
    · subst hy
      (try dsimp only)
      rfl
    · subst hy
      unfold leafB
      (try dsimp only)
      rw [buf_txt]
      simp [List.append_assoc]
  · subst e
    have HP : path.size ≤ 4096 ∧ 1 ≤ path.size ∧ Lib.validD path.data.toList = true := path_utf8 (L.pv (show partB 120 = true by decide))
    obtain rfl := s2 (by decide)
    obtain rfl := s3 (by decide)
    obtain rfl := s4 (by decide)
    obtain rfl := s5 (by decide)
    obtain rfl := s6 (by decide)
    obtain rfl : qh = true := L.q rfl
    obtain rfl := s8 (by decide)
    obtain rfl := s9 (by decide)
    obtain ⟨rfl, rfl, rfl⟩ := s11 (by decide)
    refine (Fw.map ((textC (m := 4096) (by decide)).fw.bind fun _ _ => (longC.fw.bind fun _ _ => (longC.fw))) (fun x => (⟨⟨120, toBA x.1, 0, 0, 0, true, x.2.1, x.2.2, 0, 0, 0⟩, [], [], [], []⟩ : TxF)) (E := fun y => y = _) (C := leafB) (P' := fun l p => leafP l 120 p) (fun l p => ?_) (fun y hy => ⟨(bsOf8 path, qc, qb), ⟨okTxt_of HP.1 HP.2.2, ⟨i5, i6⟩⟩, ?_, ?_⟩)).fwd a c _ rfl
    · show (textP l 4096 p).then _ = _
      simp only [then_assoc, thenOk]
    · subst hy
      (try dsimp only)
      rfl
    · subst hy
      unfold leafB
      (try dsimp only)
      rw [buf_txt]
      simp [List.append_assoc]
  · exact absurd e h14
  · subst e
    obtain rfl := s1 (by decide)
    obtain rfl := s2 (by decide)
    obtain rfl := s3 (by decide)
    obtain rfl := s4 (by decide)
    obtain rfl := s5 (by decide)
    obtain rfl := s6 (by decide)
    obtain ⟨rfl, rfl, rfl⟩ := s7 (by decide)
    obtain rfl := s8 (by decide)
    obtain rfl := s9 (by decide)
    obtain ⟨hr, hsi⟩ := L.s rfl
    obtain rfl : si = 0 := hsi
    have HS : ids.length ≤ 16 ∧ ∀ x ∈ ids.map backI, okTxt 256 x.1 ∧ okTxt 256 x.2 := ⟨hr.2.2.2.1, fun x hx => by
      obtain ⟨y, hy, rfl⟩ := List.mem_map.1 hx
      obtain ⟨j, hj, rfl⟩ := List.getElem_of_mem hy
      have h1 := (hr.2.2.2.2 j hj).1
      rw [getElem!_pos ids j hj] at h1
      exact ident_read h1⟩
    refine (Fw.map (intC.fw.bind fun _ _ => (idsFw)) (fun x => (⟨⟨(-10), ⟨#[]⟩, 0, 0, 0, false, 0, 0, 0, x.1, 0⟩, [], [], x.2.map idV, []⟩ : TxF)) (E := fun y => y = _) (C := leafB) (P' := fun l p => leafP l (-10) p) (fun l p => ?_) (fun y hy => ⟨(st, ids.map backI), ⟨i8, ⟨by rw [List.length_map]; exact HS.1, HS.2⟩⟩, ?_, ?_⟩)).fwd a c _ rfl
    · show (intP l p).then _ = _
      simp only [then_assoc, thenOk]
    · subst hy
      (try dsimp only)
      rw [backI_map]
      (try rfl)
    · subst hy
      unfold leafB
      (try dsimp only)
      rw [ids_eq]
      simp [List.append_assoc]
  · subst e
    obtain rfl := s1 (by decide)
    obtain rfl := s2 (by decide)
    obtain rfl := s3 (by decide)
    obtain rfl := s4 (by decide)
    obtain rfl := s5 (by decide)
    obtain rfl := s6 (by decide)
    obtain ⟨rfl, rfl, rfl⟩ := s7 (by decide)
    obtain rfl := s9 (by decide)
    obtain ⟨rfl, rfl, rfl⟩ := s11 (by decide)
    have HT : ∀ x ∈ paths.map bsOf8, okTxt 4096 x ∧ 1 ≤ x.length := fun x hx => by
      obtain ⟨y, hy, rfl⟩ := List.mem_map.1 hx
      have h1 := path_utf8 (L.pe rfl y hy)
      exact ⟨okTxt_of h1.1 h1.2.2, by unfold bsOf8; simpa using h1.2.1⟩
    refine (Fw.map (txtsFw) (fun x => (⟨⟨(-11), ⟨#[]⟩, 0, 0, 0, false, 0, 0, 0, 0, 0⟩, [], [], [], x.map toBA⟩ : TxF)) (E := fun y => y = _) (C := leafB) (P' := fun l p => leafP l (-11) p) (fun l p => ?_) (fun y hy => ⟨(paths.map bsOf8), ⟨by rw [List.length_map]; exact L.pl, HT⟩, ?_, ?_⟩)).fwd a c _ rfl
    · show (listP l 1024 5 (textP l 4096) p).then _ = _
      rfl
    · subst hy
      (try dsimp only)
      rw [backT_map]
      (try rfl)
    · subst hy
      unfold leafB
      (try dsimp only)
      rw [txts_eq]
      simp [List.append_assoc]
  · subst e
    obtain rfl := s1 (by decide)
    obtain rfl := s2 (by decide)
    obtain rfl := s3 (by decide)
    obtain rfl := s4 (by decide)
    obtain rfl := s5 (by decide)
    obtain rfl := s6 (by decide)
    obtain ⟨rfl, rfl, rfl⟩ := s7 (by decide)
    obtain rfl := s8 (by decide)
    obtain ⟨rfl, rfl, rfl⟩ := s11 (by decide)
    refine (Fw.map (intC.fw) (fun x => (⟨⟨(-1), ⟨#[]⟩, 0, 0, 0, false, 0, 0, 0, 0, x⟩, [], [], [], []⟩ : TxF)) (E := fun y => y = _) (C := leafB) (P' := fun l p => leafP l (-1) p) (fun l p => ?_) (fun y hy => ⟨(co), i9, ?_, ?_⟩)).fwd a c _ rfl
    · show (intP l p).then _ = _
      rfl
    · subst hy
      (try dsimp only)
      rfl
    · subst hy
      unfold leafB
      (try dsimp only)
      simp [List.append_assoc]
  · exfalso
    unfold knownB partB at hk
    simp [h1, h2, h3, h4, h5, h6, h7, h8, h9, h10, h11] at hk
theorem leaf_ge {v : TxF} (hp : partB v.n.ty = true) : 4 ≤ (leafB v).length := by
  unfold partB at hp
  have hp := of_decide_eq_true hp
  have ht := txtB_len v.n.path
  unfold leafB
  split
  · simp only [List.length_append]; omega
  split
  · omega
  split
  · simp only [List.length_append]; omega
  split
  · simp only [List.length_append]; omega
  split
  · simp only [List.length_append]; omega
  split
  · simp only [List.length_append]; omega
  · exfalso; omega
/-- a part -/
def PartOk (z : Int) (v : TxF) : Prop := partB v.n.ty = true ∧ ownE z v 0 = 0 ∧ TxSm 1048576 v 0
theorem partFw (z : Int) : Fw (PartOk z) partP (fun v => beB (m32 v.n.ty) 4 ++ leafB v) where
  fwd a c v hv := by
    obtain ⟨hp, ho, hs⟩ := hv
    obtain ⟨hk, h14⟩ := part_knownX hp
    have h1 := intC.fwd a (leafB v ++ c) v.n.ty hs.1.1
    have h2 := leaf_fwd ho hs hk h14 (a ++ beB (m32 v.n.ty) 4) c
    unfold partP
    rw [List.append_assoc, h1, thenOk, if_pos hp]
    rw [List.length_append] at h2
    rw [← List.append_assoc, h2, List.length_append, Nat.add_assoc]
theorem leaf_sub {t : TxT} (h : t.subs.length = 0) : leafT t.v = t := by
  have h0 : t.subs = [] := List.length_eq_zero_iff.1 h
  rw [Tr.eta t, h0]; rfl
/-- what is wanted of a transaction -/
structure BodyOk (z : Int) (t : TxT) : Prop where
  k : knownB t.v.n.ty = true
  o : ownE z t.v t.subs.length = 0
  s : subsE z t.subs = 0
  m : TxOk 1048576 t
theorem body_fwd {z : Int} {t : TxT} (h : BodyOk z t) (a c : Bs) : bodyP (a ++ (bodyB t ++ c)) t.v.n.ty a.length = .ok (t, a.length + (bodyB t).length) := by
  obtain ⟨L, S⟩ := lf_of h.o
  by_cases h14 : t.v.n.ty = 14
  · have hsub : ∀ x ∈ t.subs, PartOk z x.v ∧ leafT x.v = x := fun x hx => by
      obtain ⟨hp, ho⟩ := subs_own h.s x hx
      obtain ⟨j, hj, rfl⟩ := List.getElem_of_mem hx
      have hm := (h.m.subAt (j := j) hj).top
      rw [getElem!_pos t.subs j hj] at hm
      have hk := (lf_of ho).2.k (part_knownX hp).2
      rw [hk] at ho hm
      exact ⟨⟨hp, ho, hm⟩, leaf_sub hk⟩
    have hv : t.v = blkF 14 := by
      have e : ∀ v : TxF, v.n.ty = 14 → Spare v t.subs.length → v = blkF 14 := fun v e S => by
        obtain ⟨⟨ty, path, ow, ve, cr, qh, qc, qb, si, st, co⟩, data, acl, ids, paths⟩ := v
        obtain ⟨s1, s2, s3, s4, s5, s6, s7, s8, s9, -, s11⟩ := S
        dsimp only at *
        subst e
        obtain rfl := s1 (by decide)
        obtain rfl := s2 (by decide)
        obtain rfl := s3 (by decide)
        obtain rfl := s4 (by decide)
        obtain rfl := s5 (by decide)
        obtain rfl := s6 (by decide)
        obtain ⟨rfl, rfl, rfl⟩ := s7 (by decide)
        obtain rfl := s8 (by decide)
        obtain rfl := s9 (by decide)
        obtain ⟨rfl, rfl, rfl⟩ := s11 (by decide)
        rfl
      exact e _ h14 S
    have hn : t.subs.length ≤ 1024 := by
      have hg := own_great h.o
      unfold greatB at hg
      simp only [Bool.or_eq_false_iff, decide_eq_false_iff_not] at hg
      omega
    have h1 := ((partFw z).list (m := 1024) (k := 8) (by decide) (by decide) (fun v hv => by rw [List.length_append, beB_len]; have := leaf_ge hv.1; omega)).fwd a c (t.subs.map Tr.v) ⟨by rw [List.length_map]; exact hn, fun x hx => by
      obtain ⟨y, hy, rfl⟩ := List.mem_map.1 hx
      exact (hsub y hy).1⟩
    have hb : bodyB t = beB (t.subs.map Tr.v).length 4 ++ (t.subs.map Tr.v).flatMap (fun v => beB (m32 v.n.ty) 4 ++ leafB v) := by
      unfold bodyB
      rw [if_pos h14, List.length_map, flat_map_eq Tr.v _ partBs fun x => rfl]
    have hs : (t.subs.map Tr.v).map leafT = t.subs := by
      rw [List.map_map]
      exact (List.map_congr_left fun x hx => (hsub x hx).2).trans (List.map_id _)
    unfold bodyP
    rw [if_pos h14, hb, h1, thenOk, hs, ← hv, ← Tr.eta]
  · have hb : bodyB t = leafB t.v := by unfold bodyB; rw [if_neg h14]
    have h1 := leaf_fwd h.o h.m.top h.k h14 a c
    unfold bodyP
    rw [if_neg h14, hb, h1, thenOk, leaf_sub (S.k h14)]
theorem right_body {d : DlT} (h : rightE d = 0) (hs : DlSm 1048576 d) : BodyOk d.zx d.t := by
  unfold rightE at h
  split at h
  · cases h
  rename_i h1
  split at h
  · cases h
  split at h
  · rename_i h2; exact absurd h h2
  rename_i h2
  exact ⟨by simpa using h1, by omega, h, hs.2⟩
/-- what was written of a delta that may be is read back -/
theorem read_fwd {d : DlT} (h : rightE d = 0) (hs : DlSm 1048576 d) (c : Bs) : readP (encB d ++ c) = .ok (d, (encB d).length) := by
  have hb := right_body h hs
  obtain ⟨⟨q1, q2, q3, q4⟩, hm⟩ := hs
  obtain ⟨se, xi, zx, ti, t⟩ := d
  dsimp only at *
  have h5 : Fw (fun z : Int × TxT => z.1 = t.v.n.ty ∧ z.2 = t) (fun l p => (intP l p).then fun ty a => (if knownB ty then bodyP l ty a else .error (a, 110)).then fun y b => .ok ((ty, y), b)) (fun z => beB (m32 z.1) 4 ++ bodyB z.2) :=
    Fw.bind (E := fun _ y => y = t) (Q := fun ty l a => if knownB ty then bodyP l ty a else .error (a, 110)) (C := fun _ y => bodyB y) (intC.fw.less (D' := fun z => z = t.v.n.ty) fun z e => by subst e; exact hm.top.1.1) fun ty e => ⟨fun a c y hy => by
      subst e; subst hy
      show (if knownB y.v.n.ty then _ else _) = _
      rw [if_pos hb.k]
      exact body_fwd hb a c⟩
  have h0 := (longC.fw.bind fun _ _ => intC.fw.bind fun _ _ => longC.fw.bind fun _ _ => longC.fw.bind fun _ _ => h5).fwd [] c (se, xi, zx, ti, t.v.n.ty, t) ⟨q1, q2, q3, q4, rfl, rfl⟩
  have e1 : beB (m64 se) 8 ++ (beB (m32 xi) 4 ++ (beB (m64 zx) 8 ++ (beB (m64 ti) 8 ++ (beB (m32 t.v.n.ty) 4 ++ bodyB t)))) = encB ⟨se, xi, zx, ti, t⟩ := by
    unfold encB headB; simp [List.append_assoc]
  simp only [List.nil_append, List.length_nil, Nat.zero_add, e1] at h0
  have e2 : ∀ l, readP l = ((longP l 0).then fun x a => ((intP l a).then fun x a => ((longP l a).then fun x a => ((longP l a).then fun x a => ((intP l a).then fun ty a => (if knownB ty then bodyP l ty a else .error (a, 110)).then fun y b => .ok ((ty, y), b)).then fun y b => .ok ((x, y), b)).then fun y b => .ok ((x, y), b)).then fun y b => .ok ((x, y), b)).then fun y b => .ok ((x, y), b)).then fun x a => .ok ((⟨x.1, x.2.1, x.2.2.1, x.2.2.2.1, x.2.2.2.2.2⟩ : DlT), a) := fun l => by
    simp only [then_assoc, thenOk]
    show (longP l 0).then _ = _
    congr 1; funext se a; congr 1; funext xi a; congr 1; funext zx a; congr 1; funext ti a; congr 1; funext ty a
    split
    · rfl
    · rfl
  rw [e2]
  exact (congrArg (fun y => PR.then y _) h0).trans rfl
end Go.Proofs.YthpjneobmmpbnaaGreatDoor
set_option linter.unusedSimpArgs false
namespace Go.Proofs.YthpjneobmmpbnaaGreatDoor
open Go.RowKit
/-- what was read: it was written so -/
structure Iv {α : Type} (D : α → Prop) (P : Bs → Nat → PR α) (B : α → Bs) : Prop where
  inv : ∀ (l : Bs) (p : Nat) (x : α) (q : Nat), p ≤ l.length → P l p = .ok (x, q) → D x ∧ q ≤ l.length ∧ l.drop p = B x ++ l.drop q
section
variable {α β : Type} {D : α → Prop} {P : Bs → Nat → PR α} {B : α → Bs}
theorem Cdc.iv (h : Cdc D P B) : Iv D P B := ⟨fun l p x q hp hx => by
  obtain ⟨d, h1, h2, c, h3⟩ := h.inv l p x q hp hx
  exact ⟨d, h1, by rw [h3, drop_more h3 h2]⟩⟩
theorem Iv.rep (h : Iv D P B) : ∀ n, Iv (fun xs : List α => xs.length = n ∧ ∀ x ∈ xs, D x) (fun l p => repP (P l) n p) (fun xs => xs.flatMap B)
  | 0 => ⟨fun l p xs q hp h => by
      obtain ⟨rfl, rfl⟩ := okInj h
      exact ⟨⟨rfl, fun x hx => by cases hx⟩, hp, rfl⟩⟩
  | n + 1 => ⟨fun l p xs q hp hx => by
      obtain ⟨x, a, h1, h2⟩ := then_inv hx
      obtain ⟨r, b, h3, h4⟩ := then_inv h2
      obtain ⟨rfl, rfl⟩ := okInj h4
      obtain ⟨d1, l1, e1⟩ := h.inv l p x a hp h1
      obtain ⟨⟨hl, d2⟩, l2, e2⟩ := (h.rep n).inv l a r b l1 h3
      refine ⟨⟨by simpa using hl, fun y hy => ?_⟩, l2, ?_⟩
      · rcases List.mem_cons.1 hy with rfl | hy
        · exact d1
        · exact d2 y hy
      · rw [List.flatMap_cons, e1, e2, List.append_assoc]⟩
theorem Iv.list (h : Iv D P B) {m k : Nat} (hm : m ≤ 1048576) : Iv (fun xs : List α => xs.length ≤ m ∧ ∀ x ∈ xs, D x) (fun l p => listP l m k (P l) p) (fun xs => beB xs.length 4 ++ xs.flatMap B) where
  inv l p xs q hp hx := by
    obtain ⟨n, a, h1, h2⟩ := then_inv hx
    obtain ⟨n', a', h3, h4⟩ := then_inv h1
    split at h4
    · cases h4
    obtain ⟨rfl, rfl⟩ := okInj h4
    obtain ⟨d, e1, e3⟩ := (sizeC hm).iv.inv l p n' a' hp h3
    obtain ⟨⟨hl, hd⟩, l2, e4⟩ := (h.rep n').inv l a' xs q e1 h2
    exact ⟨⟨by omega, hd⟩, l2, by rw [e3, e4, hl, List.append_assoc]⟩
theorem Iv.bind (h : Iv D P B) {E : β → Prop} {Q : Bs → Nat → PR β} {C : β → Bs} (k : Iv E Q C) :
    Iv (fun z : α × β => D z.1 ∧ E z.2) (fun l p => (P l p).then fun x a => (Q l a).then fun y b => .ok ((x, y), b)) (fun z => B z.1 ++ C z.2) where
  inv l p z q hp hz := by
    obtain ⟨x, a, h1, h2⟩ := then_inv hz
    obtain ⟨y, b, h3, h4⟩ := then_inv h2
    obtain ⟨rfl, rfl⟩ := okInj h4
    obtain ⟨d1, l1, e1⟩ := h.inv l p x a hp h1
    obtain ⟨d2, l2, e2⟩ := k.inv l a y b l1 h3
    exact ⟨⟨d1, d2⟩, l2, by rw [e1, e2, List.append_assoc]⟩
end
theorem idIv : Iv (fun z : Bs × Bs => okTxt 256 z.1 ∧ okTxt 256 z.2) idP (fun z => bufB z.1 ++ bufB z.2) := (textC (m := 256) (by decide)).iv.bind (textC (m := 256) (by decide)).iv
theorem aclIv : Iv (fun z : Int × Bs × Bs => in32 z.1 ∧ okTxt 256 z.2.1 ∧ okTxt 256 z.2.2) aclP (fun z => beB (m32 z.1) 4 ++ (bufB z.2.1 ++ bufB z.2.2)) := intC.iv.bind idIv
theorem toBA_size (b : Bs) : (toBA b).size = b.length := by show b.toArray.size = _; simp
theorem txt_BA (b : Bs) : txtB (toBA b) = bufB b := (buf_txt (toBA b)).symm
theorem acls_BA (z : List (Int × Bs × Bs)) : aclsB (z.map aclV) = beB z.length 4 ++ z.flatMap (fun z => beB (m32 z.1) 4 ++ (bufB z.2.1 ++ bufB z.2.2)) := by
  unfold aclsB
  rw [List.length_map, flat_map_eq aclV aclB _ fun x => by
    show aclB (aclV x) = beB (m32 x.1) 4 ++ (bufB x.2.1 ++ bufB x.2.2)
    rw [← txt_BA, ← txt_BA]; rfl]
theorem ids_BA (z : List (Bs × Bs)) : idsB (z.map idV) = beB z.length 4 ++ z.flatMap (fun z => bufB z.1 ++ bufB z.2) := by
  unfold idsB
  rw [List.length_map, flat_map_eq idV idB _ fun x => by
    show idB (idV x) = bufB x.1 ++ bufB x.2
    rw [← txt_BA, ← txt_BA]; rfl]
theorem txts_BA (z : List Bs) : txtsB (z.map toBA) = beB z.length 4 ++ z.flatMap bufB := by
  unfold txtsB
  rw [List.length_map, flat_map_eq toBA txtB _ txt_BA]
def okA (l : List AclV) : Prop := l.length ≤ 16 ∧ ∀ x ∈ l, in32 x.1 ∧ x.2.1.size ≤ 256 ∧ x.2.2.size ≤ 256
def okI (l : List IdV) : Prop := l.length ≤ 16 ∧ ∀ x ∈ l, x.1.size ≤ 256 ∧ x.2.size ≤ 256
def okS (l : List ByteArray) : Prop := l.length ≤ 1024 ∧ ∀ x ∈ l, x.size ≤ 4096
theorem okA.nil : okA [] := ⟨Nat.zero_le _, fun x h => by cases h⟩
theorem okI.nil : okI [] := ⟨Nat.zero_le _, fun x h => by cases h⟩
theorem okS.nil : okS [] := ⟨Nat.zero_le _, fun x h => by cases h⟩
theorem okA.of {z : List (Int × Bs × Bs)} (h : z.length ≤ 16 ∧ ∀ x ∈ z, in32 x.1 ∧ okTxt 256 x.2.1 ∧ okTxt 256 x.2.2) : okA (z.map aclV) := ⟨by rw [List.length_map]; exact h.1, fun x hx => by
  obtain ⟨y, hy, rfl⟩ := List.mem_map.1 hx
  obtain ⟨h1, h2, h3⟩ := h.2 y hy
  exact ⟨h1, by show (toBA y.2.1).size ≤ 256; rw [toBA_size]; exact h2.1, by show (toBA y.2.2).size ≤ 256; rw [toBA_size]; exact h3.1⟩⟩
theorem okI.of {z : List (Bs × Bs)} (h : z.length ≤ 16 ∧ ∀ x ∈ z, okTxt 256 x.1 ∧ okTxt 256 x.2) : okI (z.map idV) := ⟨by rw [List.length_map]; exact h.1, fun x hx => by
  obtain ⟨y, hy, rfl⟩ := List.mem_map.1 hx
  obtain ⟨h2, h3⟩ := h.2 y hy
  exact ⟨by show (toBA y.1).size ≤ 256; rw [toBA_size]; exact h2.1, by show (toBA y.2).size ≤ 256; rw [toBA_size]; exact h3.1⟩⟩
theorem okS.of {z : List Bs} (h : z.length ≤ 1024 ∧ ∀ x ∈ z, x.length ≤ 4096 ∧ Lib.validD x = true) : okS (z.map toBA) := ⟨by rw [List.length_map]; exact h.1, fun x hx => by
  obtain ⟨y, hy, rfl⟩ := List.mem_map.1 hx
  rw [toBA_size]; exact (h.2 y hy).1⟩
theorem z32 : in32 0 := by unfold in32; omega
theorem z64 : in64 0 := by unfold in64; omega
theorem smV {ty ow ve cr qc qb si st co : Int} {path : ByteArray} {qh : Bool} {data : Bs} {acl : List AclV} {ids : List IdV} {paths : List ByteArray} (a0 : in32 ty) (a1 : path.size ≤ 4096) (a2 : in64 ow) (a3 : in32 ve) (a4 : in32 cr) (a5 : in64 qc) (a6 : in64 qb) (a7 : in64 si) (a8 : in32 st) (a9 : in32 co) (b1 : data.length ≤ 1048575) (b2 : okA acl) (b3 : okI ids) (b4 : okS paths) : TxSm 1048576 ⟨⟨ty, path, ow, ve, cr, qh, qc, qb, si, st, co⟩, data, acl, ids, paths⟩ 0 :=
  ⟨⟨a0, a2, a3, a4, a5, a6, a7, a8, a9⟩, Nat.le_trans a1 (by decide), Nat.le_trans b1 (by decide), Nat.le_trans b2.1 (by decide), Nat.le_trans b3.1 (by decide), Nat.le_trans b4.1 (by decide), Nat.zero_le _,
    fun j hj => by
      have hj : j < acl.length := hj
      have h := b2.2 acl[j] (List.getElem_mem hj)
      show in32 acl[j]!.1 ∧ _ ∧ _
      rw [getElem!_pos acl j hj]; exact ⟨h.1, Nat.le_trans h.2.1 (by decide), Nat.le_trans h.2.2 (by decide)⟩,
    fun j hj => by
      have hj : j < ids.length := hj
      have h := b3.2 ids[j] (List.getElem_mem hj)
      show ids[j]!.1.size ≤ _ ∧ _
      rw [getElem!_pos ids j hj]; exact ⟨Nat.le_trans h.1 (by decide), Nat.le_trans h.2 (by decide)⟩,
    fun j hj => by
      have hj : j < paths.length := hj
      have h := b4.2 paths[j] (List.getElem_mem hj)
      show paths[j]!.size ≤ _
      rw [getElem!_pos paths j hj]; exact Nat.le_trans h (by decide)⟩
/-- a transaction without parts that was read -/
def LfI (l : Bs) (ty : Int) (p : Nat) (v : TxF) (q : Nat) : Prop := v.n.ty = ty ∧ TxSm 1048576 v 0 ∧ q ≤ l.length ∧ l.drop p = leafB v ++ l.drop q
theorem get1_inv {l : Bs} {p q : Nat} {v : TxF} (hp : p ≤ l.length) (h : leafP l 1 p = .ok (v, q)) : LfI l 1 p v q := by
  replace h : ((textP l 4096 p).then fun v0 p0 => (bytesP l 1048575 p0).then fun v1 p1 => (listP l 16 12 (aclP l) p1).then fun v2 p2 => (longP l p2).then fun v3 p3 => (intP l p3).then fun v4 p4 => .ok ((⟨⟨1, toBA v0, v3, 0, v4, false, 0, 0, 0, 0, 0⟩, v1, v2.map aclV, [], []⟩ : TxF), p4)) = Except.ok (v, q) := h
  obtain ⟨v0, p0, h0, h⟩ := then_inv h
  obtain ⟨v1, p1, h1, h⟩ := then_inv h
  obtain ⟨v2, p2, h2, h⟩ := then_inv h
  obtain ⟨v3, p3, h3, h⟩ := then_inv h
  obtain ⟨v4, p4, h4, h⟩ := then_inv h
  obtain ⟨rfl, rfl⟩ := okInj h
  obtain ⟨d0, l0, e0⟩ := (textC (m := 4096) (by decide)).iv.inv l p v0 p0 hp h0
  obtain ⟨d1, l1, e1⟩ := (bytesC (m := 1048575) (by decide)).iv.inv l p0 v1 p1 l0 h1
  obtain ⟨d2, l2, e2⟩ := (aclIv.list (m := 16) (k := 12) (by decide)).inv l p1 v2 p2 l1 h2
  obtain ⟨d3, l3, e3⟩ := longC.iv.inv l p2 v3 p3 l2 h3
  obtain ⟨d4, l4, e4⟩ := intC.iv.inv l p3 v4 p4 l3 h4
  refine ⟨rfl, smV (by unfold in32; omega) (by rw [toBA_size]; exact d0.1) d3 z32 d4 z64 z64 z64 z32 z32 d1 (okA.of d2) okI.nil okS.nil, l4, ?_⟩
  rw [e0, e1, e2, e3, e4]
  show _ = (txtB (toBA v0) ++ bufB v1 ++ aclsB (v2.map aclV) ++ beB (m64 v3) 8 ++ beB (m32 v4) 4) ++ _
  rw [txt_BA, acls_BA]
  try simp only [List.append_assoc]
theorem get2_inv {l : Bs} {p q : Nat} {v : TxF} (hp : p ≤ l.length) (h : leafP l 2 p = .ok (v, q)) : LfI l 2 p v q := by
  replace h : ((textP l 4096 p).then fun v0 p0 => .ok ((⟨⟨2, toBA v0, 0, 0, 0, false, 0, 0, 0, 0, 0⟩, [], [], [], []⟩ : TxF), p0)) = Except.ok (v, q) := h
  obtain ⟨v0, p0, h0, h⟩ := then_inv h
  obtain ⟨rfl, rfl⟩ := okInj h
  obtain ⟨d0, l0, e0⟩ := (textC (m := 4096) (by decide)).iv.inv l p v0 p0 hp h0
  refine ⟨rfl, smV (by unfold in32; omega) (by rw [toBA_size]; exact d0.1) z64 z32 z32 z64 z64 z64 z32 z32 (Nat.zero_le _) okA.nil okI.nil okS.nil, l0, ?_⟩
  rw [e0]
  show _ = (txtB (toBA v0)) ++ _
  rw [txt_BA]
  try simp only [List.append_assoc]
theorem get121_inv {l : Bs} {p q : Nat} {v : TxF} (hp : p ≤ l.length) (h : leafP l 121 p = .ok (v, q)) : LfI l 121 p v q := by
  replace h : ((textP l 4096 p).then fun v0 p0 => .ok ((⟨⟨121, toBA v0, 0, 0, 0, false, 0, 0, 0, 0, 0⟩, [], [], [], []⟩ : TxF), p0)) = Except.ok (v, q) := h
  obtain ⟨v0, p0, h0, h⟩ := then_inv h
  obtain ⟨rfl, rfl⟩ := okInj h
  obtain ⟨d0, l0, e0⟩ := (textC (m := 4096) (by decide)).iv.inv l p v0 p0 hp h0
  refine ⟨rfl, smV (by unfold in32; omega) (by rw [toBA_size]; exact d0.1) z64 z32 z32 z64 z64 z64 z32 z32 (Nat.zero_le _) okA.nil okI.nil okS.nil, l0, ?_⟩
  rw [e0]
  show _ = (txtB (toBA v0)) ++ _
  rw [txt_BA]
  try simp only [List.append_assoc]
theorem get5_inv {l : Bs} {p q : Nat} {v : TxF} (hp : p ≤ l.length) (h : leafP l 5 p = .ok (v, q)) : LfI l 5 p v q := by
  replace h : ((textP l 4096 p).then fun v0 p0 => (bytesP l 1048575 p0).then fun v1 p1 => (intP l p1).then fun v2 p2 => .ok ((⟨⟨5, toBA v0, 0, v2, 0, false, 0, 0, 0, 0, 0⟩, v1, [], [], []⟩ : TxF), p2)) = Except.ok (v, q) := h
  obtain ⟨v0, p0, h0, h⟩ := then_inv h
  obtain ⟨v1, p1, h1, h⟩ := then_inv h
  obtain ⟨v2, p2, h2, h⟩ := then_inv h
  obtain ⟨rfl, rfl⟩ := okInj h
  obtain ⟨d0, l0, e0⟩ := (textC (m := 4096) (by decide)).iv.inv l p v0 p0 hp h0
  obtain ⟨d1, l1, e1⟩ := (bytesC (m := 1048575) (by decide)).iv.inv l p0 v1 p1 l0 h1
  obtain ⟨d2, l2, e2⟩ := intC.iv.inv l p1 v2 p2 l1 h2
  refine ⟨rfl, smV (by unfold in32; omega) (by rw [toBA_size]; exact d0.1) z64 d2 z32 z64 z64 z64 z32 z32 d1 okA.nil okI.nil okS.nil, l2, ?_⟩
  rw [e0, e1, e2]
  show _ = (txtB (toBA v0) ++ bufB v1 ++ beB (m32 v2) 4) ++ _
  rw [txt_BA]
  try simp only [List.append_assoc]
theorem get7_inv {l : Bs} {p q : Nat} {v : TxF} (hp : p ≤ l.length) (h : leafP l 7 p = .ok (v, q)) : LfI l 7 p v q := by
  replace h : ((textP l 4096 p).then fun v0 p0 => (listP l 16 12 (aclP l) p0).then fun v1 p1 => (intP l p1).then fun v2 p2 => .ok ((⟨⟨7, toBA v0, 0, v2, 0, false, 0, 0, 0, 0, 0⟩, [], v1.map aclV, [], []⟩ : TxF), p2)) = Except.ok (v, q) := h
  obtain ⟨v0, p0, h0, h⟩ := then_inv h
  obtain ⟨v1, p1, h1, h⟩ := then_inv h
  obtain ⟨v2, p2, h2, h⟩ := then_inv h
  obtain ⟨rfl, rfl⟩ := okInj h
  obtain ⟨d0, l0, e0⟩ := (textC (m := 4096) (by decide)).iv.inv l p v0 p0 hp h0
  obtain ⟨d1, l1, e1⟩ := (aclIv.list (m := 16) (k := 12) (by decide)).inv l p0 v1 p1 l0 h1
  obtain ⟨d2, l2, e2⟩ := intC.iv.inv l p1 v2 p2 l1 h2
  refine ⟨rfl, smV (by unfold in32; omega) (by rw [toBA_size]; exact d0.1) z64 d2 z32 z64 z64 z64 z32 z32 (Nat.zero_le _) (okA.of d1) okI.nil okS.nil, l2, ?_⟩
  rw [e0, e1, e2]
  show _ = (txtB (toBA v0) ++ aclsB (v1.map aclV) ++ beB (m32 v2) 4) ++ _
  rw [txt_BA, acls_BA]
  try simp only [List.append_assoc]
theorem get13_inv {l : Bs} {p q : Nat} {v : TxF} (hp : p ≤ l.length) (h : leafP l 13 p = .ok (v, q)) : LfI l 13 p v q := by
  replace h : ((textP l 4096 p).then fun v0 p0 => (intP l p0).then fun v1 p1 => .ok ((⟨⟨13, toBA v0, 0, v1, 0, false, 0, 0, 0, 0, 0⟩, [], [], [], []⟩ : TxF), p1)) = Except.ok (v, q) := h
  obtain ⟨v0, p0, h0, h⟩ := then_inv h
  obtain ⟨v1, p1, h1, h⟩ := then_inv h
  obtain ⟨rfl, rfl⟩ := okInj h
  obtain ⟨d0, l0, e0⟩ := (textC (m := 4096) (by decide)).iv.inv l p v0 p0 hp h0
  obtain ⟨d1, l1, e1⟩ := intC.iv.inv l p0 v1 p1 l0 h1
  refine ⟨rfl, smV (by unfold in32; omega) (by rw [toBA_size]; exact d0.1) z64 d1 z32 z64 z64 z64 z32 z32 (Nat.zero_le _) okA.nil okI.nil okS.nil, l1, ?_⟩
  rw [e0, e1]
  show _ = (txtB (toBA v0) ++ beB (m32 v1) 4) ++ _
  rw [txt_BA]
  try simp only [List.append_assoc]
theorem get120_inv {l : Bs} {p q : Nat} {v : TxF} (hp : p ≤ l.length) (h : leafP l 120 p = .ok (v, q)) : LfI l 120 p v q := by
  replace h : ((textP l 4096 p).then fun v0 p0 => (longP l p0).then fun v1 p1 => (longP l p1).then fun v2 p2 => .ok ((⟨⟨120, toBA v0, 0, 0, 0, true, v1, v2, 0, 0, 0⟩, [], [], [], []⟩ : TxF), p2)) = Except.ok (v, q) := h
  obtain ⟨v0, p0, h0, h⟩ := then_inv h
  obtain ⟨v1, p1, h1, h⟩ := then_inv h
  obtain ⟨v2, p2, h2, h⟩ := then_inv h
  obtain ⟨rfl, rfl⟩ := okInj h
  obtain ⟨d0, l0, e0⟩ := (textC (m := 4096) (by decide)).iv.inv l p v0 p0 hp h0
  obtain ⟨d1, l1, e1⟩ := longC.iv.inv l p0 v1 p1 l0 h1
  obtain ⟨d2, l2, e2⟩ := longC.iv.inv l p1 v2 p2 l1 h2
  refine ⟨rfl, smV (by unfold in32; omega) (by rw [toBA_size]; exact d0.1) z64 z32 z32 d1 d2 z64 z32 z32 (Nat.zero_le _) okA.nil okI.nil okS.nil, l2, ?_⟩
  rw [e0, e1, e2]
  show _ = (txtB (toBA v0) ++ beB (m64 v1) 8 ++ beB (m64 v2) 8) ++ _
  rw [txt_BA]
  try simp only [List.append_assoc]
theorem getM10_inv {l : Bs} {p q : Nat} {v : TxF} (hp : p ≤ l.length) (h : leafP l (-10) p = .ok (v, q)) : LfI l (-10) p v q := by
  replace h : ((intP l p).then fun v0 p0 => (listP l 16 8 (idP l) p0).then fun v1 p1 => .ok ((⟨⟨(-10), ⟨#[]⟩, 0, 0, 0, false, 0, 0, 0, v0, 0⟩, [], [], v1.map idV, []⟩ : TxF), p1)) = Except.ok (v, q) := h
  obtain ⟨v0, p0, h0, h⟩ := then_inv h
  obtain ⟨v1, p1, h1, h⟩ := then_inv h
  obtain ⟨rfl, rfl⟩ := okInj h
  obtain ⟨d0, l0, e0⟩ := intC.iv.inv l p v0 p0 hp h0
  obtain ⟨d1, l1, e1⟩ := (idIv.list (m := 16) (k := 8) (by decide)).inv l p0 v1 p1 l0 h1
  refine ⟨rfl, smV (by unfold in32; omega) (Nat.zero_le _) z64 z32 z32 z64 z64 z64 d0 z32 (Nat.zero_le _) okA.nil (okI.of d1) okS.nil, l1, ?_⟩
  rw [e0, e1]
  show _ = (beB (m32 v0) 4 ++ idsB (v1.map idV)) ++ _
  rw [ids_BA]
  try simp only [List.append_assoc]
theorem getM11_inv {l : Bs} {p q : Nat} {v : TxF} (hp : p ≤ l.length) (h : leafP l (-11) p = .ok (v, q)) : LfI l (-11) p v q := by
  replace h : ((listP l 1024 5 (textP l 4096) p).then fun v0 p0 => .ok ((⟨⟨(-11), ⟨#[]⟩, 0, 0, 0, false, 0, 0, 0, 0, 0⟩, [], [], [], v0.map toBA⟩ : TxF), p0)) = Except.ok (v, q) := h
  obtain ⟨v0, p0, h0, h⟩ := then_inv h
  obtain ⟨rfl, rfl⟩ := okInj h
  obtain ⟨d0, l0, e0⟩ := ((textC (m := 4096) (by decide)).iv.list (m := 1024) (k := 5) (by decide)).inv l p v0 p0 hp h0
  refine ⟨rfl, smV (by unfold in32; omega) (Nat.zero_le _) z64 z32 z32 z64 z64 z64 z32 z32 (Nat.zero_le _) okA.nil okI.nil (okS.of d0), l0, ?_⟩
  rw [e0]
  show _ = (txtsB (v0.map toBA)) ++ _
  rw [txts_BA]
  try simp only [List.append_assoc]
theorem getM1_inv {l : Bs} {p q : Nat} {v : TxF} (hp : p ≤ l.length) (h : leafP l (-1) p = .ok (v, q)) : LfI l (-1) p v q := by
  replace h : ((intP l p).then fun v0 p0 => .ok ((⟨⟨(-1), ⟨#[]⟩, 0, 0, 0, false, 0, 0, 0, 0, v0⟩, [], [], [], []⟩ : TxF), p0)) = Except.ok (v, q) := h
  obtain ⟨v0, p0, h0, h⟩ := then_inv h
  obtain ⟨rfl, rfl⟩ := okInj h
  obtain ⟨d0, l0, e0⟩ := intC.iv.inv l p v0 p0 hp h0
  refine ⟨rfl, smV (by unfold in32; omega) (Nat.zero_le _) z64 z32 z32 z64 z64 z64 z32 d0 (Nat.zero_le _) okA.nil okI.nil okS.nil, l0, ?_⟩
  rw [e0]
  show _ = (beB (m32 v0) 4) ++ _
  try simp only [List.append_assoc]
theorem known_casesI {t : Int} (h : knownB t = true) : t = 1 ∨ t = 2 ∨ t = 5 ∨ t = 7 ∨ t = 13 ∨ t = 120 ∨ t = 121 ∨ t = 14 ∨ t = -10 ∨ t = -11 ∨ t = -1 := by
  unfold knownB partB at h
  rw [Bool.or_eq_true] at h
  rcases h with h | h
  · rcases of_decide_eq_true h with h | h | h | h | h | h | h <;> simp [h]
  · rcases of_decide_eq_true h with h | h | h | h <;> simp [h]
theorem leaf_inv {l : Bs} {ty : Int} {p q : Nat} {v : TxF} (hk : knownB ty = true) (h14 : ty ≠ 14) (hp : p ≤ l.length) (h : leafP l ty p = .ok (v, q)) : LfI l ty p v q := by
  rcases known_casesI hk with rfl | rfl | rfl | rfl | rfl | rfl | rfl | rfl | rfl | rfl | rfl
  · exact get1_inv hp h
  · exact get2_inv hp h
  · exact get5_inv hp h
  · exact get7_inv hp h
  · exact get13_inv hp h
  · exact get120_inv hp h
  · exact get121_inv hp h
  · exact absurd rfl h14
  · exact getM10_inv hp h
  · exact getM11_inv hp h
  · exact getM1_inv hp h
theorem part_known2 {t : Int} (h : partB t = true) : knownB t = true ∧ t ≠ 14 := by
  refine ⟨by unfold knownB; rw [h]; rfl, ?_⟩
  rintro rfl
  exact absurd h (by decide)
theorem partIv : Iv (fun v => TxSm 1048576 v 0) partP (fun v => partBs (leafT v)) where
  inv l p v q hp h := by
    obtain ⟨ty, a, h1, h2⟩ := then_inv h
    obtain ⟨d1, l1, e1⟩ := intC.iv.inv l p ty a hp h1
    split at h2
    · rename_i hk
      obtain ⟨k1, k2⟩ := part_known2 hk
      obtain ⟨rfl, sm, l2, e2⟩ := leaf_inv k1 k2 l1 h2
      exact ⟨sm, l2, by rw [e1, e2, ← List.append_assoc]; rfl⟩
    · cases h2
theorem body_inv {l : Bs} {ty : Int} {p q : Nat} {t : TxT} (hk : knownB ty = true) (hp : p ≤ l.length) (h : bodyP l ty p = .ok (t, q)) : t.v.n.ty = ty ∧ TxOk 1048576 t ∧ q ≤ l.length ∧ l.drop p = bodyB t ++ l.drop q := by
  unfold bodyP at h
  split at h
  · rename_i h14
    obtain ⟨z, a, h1, h2⟩ := then_inv h
    obtain ⟨rfl, rfl⟩ := okInj h2
    obtain ⟨⟨d1, d2⟩, l1, e1⟩ := (partIv.list (m := 1024) (k := 8) (by decide)).inv l p z a hp h1
    refine ⟨h14.symm, .mk _ _ ?_ (fun j hj => ?_), l1, ?_⟩
    · obtain ⟨s0, s1, s2, s3, s4, s5, s6, s7⟩ := smV (ty := 14) (ow := 0) (ve := 0) (cr := 0) (qc := 0) (qb := 0) (si := 0) (st := 0) (co := 0) (path := ⟨#[]⟩) (qh := false) (data := []) (acl := []) (ids := []) (paths := []) (by unfold in32; omega) (Nat.zero_le _) z64 z32 z32 z64 z64 z64 z32 z32 (Nat.zero_le _) okA.nil okI.nil okS.nil
      exact ⟨s0, s1, s2, s3, s4, s5, by rw [List.length_map]; omega, s7⟩
    · have hz : j < z.length := by simpa using hj
      rw [getElem!_pos (z.map leafT) j hj, List.getElem_map]
      exact .mk _ _ (d2 _ (List.getElem_mem hz)) (fun k hk => absurd hk (by simp))
    · rw [e1]
      unfold bodyB
      rw [if_pos (show (Tr.mk (blkF 14) (z.map leafT)).v.n.ty = 14 from rfl)]
      show _ = (beB (z.map leafT).length 4 ++ (z.map leafT).flatMap partBs) ++ _
      rw [List.length_map, flat_map_eq leafT partBs _ fun x => rfl]
  · rename_i h14
    obtain ⟨v, a, h1, h2⟩ := then_inv h
    obtain ⟨rfl, rfl⟩ := okInj h2
    obtain ⟨rfl, sm, l1, e1⟩ := leaf_inv hk h14 hp h1
    refine ⟨rfl, .mk _ _ sm (fun j hj => absurd hj (by simp)), l1, ?_⟩
    rw [e1]
    unfold bodyB
    rw [if_neg (show ¬ (leafT v).v.n.ty = 14 from h14)]; rfl
theorem read_inv {l : Bs} {d : DlT} {p : Nat} (h : readP l = .ok (d, p)) : DlSm 1048576 d ∧ p ≤ l.length ∧ l = encB d ++ l.drop p := by
  obtain ⟨se, a1, h1, h⟩ := then_inv h
  obtain ⟨xi, a2, h2, h⟩ := then_inv h
  obtain ⟨zx, a3, h3, h⟩ := then_inv h
  obtain ⟨ti, a4, h4, h⟩ := then_inv h
  obtain ⟨ty, a5, h5, h⟩ := then_inv h
  split at h
  · rename_i hk
    obtain ⟨t, a6, h6, h⟩ := then_inv h
    obtain ⟨rfl, rfl⟩ := okInj h
    obtain ⟨d1, l1, e1⟩ := longC.iv.inv l 0 se a1 (Nat.zero_le _) h1
    obtain ⟨d2, l2, e2⟩ := intC.iv.inv l a1 xi a2 l1 h2
    obtain ⟨d3, l3, e3⟩ := longC.iv.inv l a2 zx a3 l2 h3
    obtain ⟨d4, l4, e4⟩ := longC.iv.inv l a3 ti a4 l3 h4
    obtain ⟨d5, l5, e5⟩ := intC.iv.inv l a4 ty a5 l4 h5
    obtain ⟨rfl, d6, l6, e6⟩ := body_inv hk l5 h6
    refine ⟨⟨⟨d1, d2, d3, d4⟩, d6⟩, l6, ?_⟩
    rw [List.drop_zero] at e1
    rw [e2, e3, e4, e5, e6] at e1
    exact e1.trans (by unfold encB headB; simp only [List.append_assoc])
  · cases h
/-- right bytes: the delta's, whole -/
theorem decD_ok {l : Bs} (h : (decD l).2.2 = 0) : ∃ d, readP l = .ok (d, l.length) ∧ decD l = (d, 0, 0) ∧ rightE d = 0 ∧ DlSm 1048576 d ∧ l = encB d := by
  unfold decD at h ⊢
  rcases hr : readP l with ⟨p, k⟩ | ⟨d, p⟩
  · rw [hr] at h
    have hk := readP_in l
    rw [hr] at hk
    exact absurd h hk.2
  · rw [hr] at h
    dsimp only at h ⊢
    obtain ⟨sm, hp, he⟩ := read_inv hr
    by_cases h1 : p < l.length
    · rw [if_pos h1] at h; exact absurd h (show ¬ (21 : Int) = 0 by decide)
    · rw [if_neg h1] at h ⊢
      by_cases h2 : rightE d ≠ 0
      · rw [if_pos h2] at h; exact absurd h h2
      · rw [if_neg h2] at h ⊢
        obtain rfl : p = l.length := by omega
        refine ⟨d, rfl, rfl, by simpa using h2, sm, ?_⟩
        rw [List.drop_length, List.append_nil] at he
        exact he
/-- no beginning of right bytes is right -/
theorem dec_cut {d : DlT} (h : rightE d = 0) (hs : DlSm 1048576 d) {n : Nat} (hn : n < (encB d).length) : (decD ((encB d).take n)).2.2 ≠ 0 := fun h0 => by
  obtain ⟨x, hr, -, h1, h2, e⟩ := decD_ok h0
  have h3 := read_fwd h1 h2 ((encB d).drop n)
  rw [← e, List.take_append_drop] at h3
  have h4 := read_fwd h hs []
  rw [List.append_nil] at h4
  rw [h4] at h3
  obtain ⟨-, h5⟩ := okInj h3
  rw [List.length_take] at h5
  omega
/-- one byte more -/
theorem dec_more {d : DlT} (h : rightE d = 0) (hs : DlSm 1048576 d) (b : UInt8) : decD (encB d ++ [b]) = (noDl, (encB d).length, 21) := by
  unfold decD
  rw [read_fwd h hs [b]]
  show (if _ then _ else _) = _
  rw [if_pos (by simp)]
theorem dec_fwd {d : DlT} (h : rightE d = 0) (hs : DlSm 1048576 d) : decD (encB d) = (d, 0, 0) := by
  unfold decD
  have h4 := read_fwd h hs []
  rw [List.append_nil] at h4
  rw [h4]
  show (if _ then _ else _) = _
  rw [if_neg (by omega), if_neg (by simp [h])]
end Go.Proofs.YthpjneobmmpbnaaGreatDoor
namespace Go.Proofs.YthpjneobmmpbnaaGreatDoor
theorem decode_any {w : World} {n c : Nat} {A : Option Addr} {l : Bs} (hB : ArgC w A n c l) (hE : Env w) : Calls Tryz.prog 28 #[.slice A n c] w (DecP w l) :=
  decode_of hB hE (fun z p _ hk => gets_any l z.2.2.2.2 p hk) (fun _ _ h => (read_inv h).1)
end Go.Proofs.YthpjneobmmpbnaaGreatDoor
