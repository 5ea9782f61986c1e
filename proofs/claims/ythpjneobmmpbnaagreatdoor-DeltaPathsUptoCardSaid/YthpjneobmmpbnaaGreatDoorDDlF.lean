/- The walks of the document's put and Touched. Condition: lists of at most 2^20. -/
import Derived.Test.YthpjneobmmpbnaaGreatDoorDLwR
import Derived.Test.YthpjneobmmpbnaaGreatDoorDDlC
import Derived.Test.YthpjneobmmpbnaaGreatDoorDDlE
import Derived.Test.YthpjneobmmpbnaaGreatDoorDCloR
import Derived.Test.YthpjneobmmpbnaaGreatDoorDHeld
import Derived.Test.YthpjneobmmpbnaaGreatDoorDDlB
namespace Go.Proofs.YthpjneobmmpbnaaGreatDoor
open Go.RowKit Go.MapKept Go.Maps
theorem elemSt : Elem encStr 29 9 1 16 (.string ⟨#[]⟩) := ⟨Tryz.underlying29, by kernel_rfl, rfl, fun _ => rfl, by decide, fun x u hu => by simp [encStr] at hu; rw [hu]; rfl, by decide⟩
theorem wp_appG {α : Type} [Inhabited α] {enc : α → List Value} {ST T : TypeId} {k bs : Nat} {z : Value} (E : Elem enc ST T k bs z) {o : Oper} {a : Act} {K : Act → World → Prop} {Q : Exit → Act → World → Prop} {w : World} (s x : Operand)
    (ho : o.op = .call { callee := .builtin .append, args := #[s, x], argTypes := #[ST, ST] }) (base : Nat) (A : Option Addr) (n c : Nat) (l : List α) (hs : a.eval s = .slice A n c)
    (hown : w.ownsRow base T k (.slice A n c) n (l.flatMap enc)) (A' : Option Addr) (m c' : Nat) (l' : List α) (hx : a.eval x = .slice A' m c') (hsl : Sl w w.heap.size enc k A' m l') (hA' : A' = none → m = 0 ∧ c' = 0) (hn : n + m ≤ 16777216) (hbase : base ≤ w.heap.size)
    (h : ∀ A2 c2 w', w'.ownsRow base T k (.slice A2 (n + m) c2) (n + m) ((l ++ l').flatMap enc) → Below base w w' → K (a.put o.dst (.slice A2 (n + m) c2)) w') : Oper.wp Tryz.prog o a w K Q := by
  obtain ⟨i0, hi0, hz0, hz1, hz2⟩ := info_partsI E.info
  cases A' with
  | none =>
    obtain ⟨rfl, rfl⟩ := hA' rfl
    have hl0 : l' = [] := List.length_eq_zero_iff.1 hsl.len
    subst hl0
    have hrun := run_append_owned_none (P := Tryz.prog) (w := w) base ST o.type T i0 k E.under hi0 _ n _ hown
    have h2 := h A c w (by rw [List.append_nil]; exact hown) (Below.refl _ _)
    unfold Oper.wp
    simp [execOp, ho, resolve, invoke, builtin, hs, hx, hrun, Result.andThen]
    exact h2
  | some a0 =>
    refine wp_append_own w s x _ ho base T i0 _ k bs E.under hi0 hz0 hz1 hz2 E.size E.pos _ n _ hs hown a0 m c' (l'.flatMap enc) hx (by rw [flat_len E.len, hsl.len]) (Sl.news E.len E.pos hsl) ?_ (by unfold maxLen; omega) ?_ hbase ?_
    · intro u hu
      obtain ⟨x, _, hx⟩ := List.mem_flatMap.1 hu
      exact E.one x u hx
    · have := Nat.mul_le_mul hn E.small
      omega
    · intro v' w' h1 h2 _
      obtain ⟨A2, c2, rfl⟩ := own_formI h1
      refine h A2 c2 w' ?_ (own_belowG hown h2 hbase)
      rw [List.flatMap_append]; exact h1
theorem slice_upS (A : Option Addr) (n c k : Nat) (hk : k ≤ n) (w : World) (hc : n ≤ c) : (Instr.sliceAt 29 (.slice A n c) none (some (.int .i64 ↑k)) none).run Tryz.prog w = .ok (.slice A k c) w := by
  have h0 : (0 : Int) ≤ ↑k := by omega
  have h1 : ((k : Nat) : Int) ≤ ↑c := by omega
  have h2 : ((k : Nat) : Int) ≤ ↑n := by omega
  go_simp
theorem slice_fromT (A : Option Addr) (n c k : Nat) (hk : k ≤ n) (hc : n ≤ c) (w : World) : (Instr.sliceAt 29 (.slice A n c) (some (.int .i64 ↑k)) none none).run Tryz.prog w = .ok (.slice (if c = k then A else A.map (·.add k)) (n - k) (c - k)) w := by
  have h0 : (0 : Int) ≤ ↑k := by omega
  have h1 : ((k : Nat) : Int) ≤ ↑n := by omega
  have h2 : ((k : Nat) : Int) ≤ ↑c := by omega
  go_simp
theorem Sl.upTo {α : Type} [Inhabited α] {w : World} {B n k j : Nat} {enc : α → List Value} {A : Option Addr} {l : List α} (h : Sl w B enc k A n l) (hj : j ≤ n) : Sl w B enc k A j (l.take j) := by
  refine ⟨by rw [List.length_take, h.len]; omega, fun h0 => ?_⟩
  obtain ⟨b, off, e, hb, hc⟩ := h.2 (by omega)
  refine ⟨b, off, e, hb, fun i hi a u hu => hc i (by omega) a u ?_⟩
  rw [← hu, getElem!_pos (l.take j) i (by rw [List.length_take, h.len]; omega), getElem!_pos l i (by rw [h.len]; omega), List.getElem_take]
theorem Sl.from1 {α : Type} [Inhabited α] {w : World} {B n c j : Nat} {enc : α → List Value} {A : Option Addr} {l : List α} (h : Sl w B enc 1 A n l) (hj : j ≤ n) (hc : n ≤ c) : Sl w B enc 1 (if c = j then A else A.map (·.add j)) (n - j) (l.drop j) := by
  refine ⟨by rw [List.length_drop, h.len], fun h0 => ?_⟩
  obtain ⟨b, off, e, hb, hcl⟩ := h.2 (by omega)
  rw [if_neg (by omega)]
  refine ⟨b, off + j, by rw [e]; simp only [Option.map_some, Addr.add]; by_cases h0 : j = 0 <;> simp [h0], hb, fun i hi a u hu => ?_⟩
  have := hcl (j + i) (by omega) a u (by rw [← hu, getElem!_pos l (j + i) (by rw [h.len]; omega), getElem!_pos (l.drop j) i (by rw [List.length_drop, h.len]; omega), List.getElem_drop])
  rw [← this]; congr 2; omega
theorem putR_cons (x : ByteArray) (l : List ByteArray) (p : ByteArray) : putR (x :: l) p = if x = p then x :: l else if 0 < cmpB x p then p :: x :: l else x :: putR l p := rfl
/-- what put leaves -/
def PutP (base : Nat) (l : List ByteArray) (w : World) (e : Ending) (w' : World) : Prop := (∃ A c, e = .returned (.slice A l.length c) ∧ w'.ownsRow base 9 1 (.slice A l.length c) l.length (l.flatMap encStr)) ∧ Below w.heap.size w w'
theorem PutP.mk {base : Nat} {l : List ByteArray} {w w' : World} {A : Option Addr} {n c : Nat} (hn : n = l.length) (ho : w'.ownsRow base 9 1 (.slice A n c) n (l.flatMap encStr)) (hb : Below w.heap.size w w') : PutP base l w (.returned (.slice A n c)) w' := by subst hn; exact ⟨⟨A, c, rfl, ho⟩, hb⟩
theorem strCell (w : World) (p : ByteArray) : Sl (w.alloc (.cells #[.string p] 9)) (w.alloc (.cells #[.string p] 9)).heap.size encStr 1 (some ⟨w.heap.size, 0, none⟩) 1 [p] :=
  ⟨rfl, fun _ => ⟨w.heap.size, 0, rfl, by simp, fun j hj a u hu => by
    obtain rfl : j = 0 := by omega
    rw [cellH (heap_s0 w _)]
    match a, hu with
    | 0, hu => exact hu⟩⟩
set_option linter.unusedSimpArgs false in
set_option maxRecDepth 100000 in
set_option maxHeartbeats 8000000 in
theorem refPutS_any (base : Nat) (A : Option Addr) (n c : Nat) (l : List ByteArray) (p : ByteArray) (w : World) (hown : w.ownsRow base 9 1 (.slice A n c) n (l.flatMap encStr)) (hl : l.length = n) (hbs : base ≤ w.heap.size) (hn : n ≤ 4194304) (hsz : ∀ x ∈ l, x.size ≤ 1048576) (hp : p.size ≤ 1048576) :
    Calls Tryz.prog 59 #[.slice A n c, .string p] w (PutP base (putR l p) w) := by
  have hsl : Sl w w.heap.size encStr 1 A n l := Sl.of_own (fun _ => rfl) hown hl
  have hnc : (A = none → n = 0 ∧ c = 0) ∧ n ≤ c := by
    rcases own_at hown with ⟨e, e1, e2⟩ | ⟨g, cur, e, _, _, h2, _⟩
    · exact ⟨fun _ => ⟨e1, e2⟩, by omega⟩
    · exact ⟨fun h => absurd (h.symm.trans e) (by simp), h2⟩
  have HO := Lib.hid hown; have HS := Lib.hid hsl; have HL := Lib.hid hl; have HBS := Lib.hid hbs; have HSZ := Lib.hid hsz; have HNC := Lib.hid hnc; have HP := Lib.hid hp
  clear hown hsl hbs hsz hnc hp
  go_enter Tryz.func59, Tryz.ntmps59
  go_wp2_with fail
  go_loopw [5] (fun i wr => ∃ k q : Nat, i = .int .i64 ↑k ∧ k ≤ n ∧ wr = w.drewN q ∧ putR l p = l.take k ++ putR (l.drop k) p) (fun i _ => n - (RowKit.intOf i).toNat)
  case atStart => exact ⟨0, 0, rfl, Nat.zero_le _, rfl, by simp⟩
  case round =>
  obtain ⟨k, q, rfl, hk, rfl, hput⟩ := hrel
  by_cases hlt : k < n
  · have hlt2 : (k : Int) < (n : Int) := by omega
    have hk0 : (0 : Int) ≤ (k : Int) := by omega
    have hdr : l.drop k = l[k]! :: l.drop (k + 1) := by rw [getElem!_pos l k (by omega)]; exact List.drop_eq_getElem_cons (by omega)
    have hxs : l[k]!.size ≤ 1048576 := HSZ.out _ (by rw [getElem!_pos l k (by omega)]; exact List.getElem_mem _)
    obtain ⟨b, off, eA, hbl, hc⟩ := HS.out.cells hlt
    have x0 : (w.drewN q).cell? ⟨b, off + k, none⟩ = some (.string l[k]!) := by
      have := hc 0 (.string l[k]!) rfl
      simpa using this
    have htk : l.take (k + 1) = l.take k ++ [l[k]!] := takeS l (by omega)
    rw [hdr] at hput
    have HDR := Lib.hid hdr; have HTK := Lib.hid htk; have HXS := Lib.hid hxs; have HLT := Lib.hid hlt
    subst eA
    clear hc hbl hdr htk hxs
    generalize l[k]! = x at *
    by_cases he : x = p
    · have s1 := str_eq he
      have HPL := Lib.hid (show putR l p = l by
        rw [hput, putR_cons, if_pos he, ← HDR.out, List.take_append_drop])
      clear hput he
      go_wp2_with fail
      go_ret
      rw [HPL.out]
      exact PutP.mk HL.out.symm (own_later HO.out (drewN_self _ _)) (drewN_self _ _)
    have s1 := str_ne he
    rw [putR_cons, if_neg he] at hput
    have HPU := Lib.hid hput
    clear hput he
    have HOR := Lib.hid (refOrder_any x p (Nat.lt_of_le_of_lt HXS.out (by decide)) (Nat.lt_of_le_of_lt HP.out (by decide)) (w.drewN q))
    go_wp2_with fail
    refine HOR.out.mono ?_
    rintro e w1 ⟨rfl, q2, rfl⟩
    clear HOR x0 s1
    have HCM := Lib.hid (show cmpB x p = Lib.compareBytes x.data.toList p.data.toList from rfl)
    by_cases hc : 0 < cmpB x p
    · have hput := HPU.out
      rw [if_pos hc, ← HDR.out] at hput
      rw [HCM.out] at hc
      have hc2 : Lib.compareBytes x.data.toList p.data.toList > 0 := hc
      have HPL := Lib.hid hput
      clear hput HPU
      simp only [World.drewN_drewN] at *
      generalize hVV : w.drewN (q + q2) = V at *
      have HBV := Lib.hid (show Below w.heap.size w V by rw [← hVV]; exact drewN_self _ _)
      have HVS := Lib.hid (show V.heap.size = w.heap.size by rw [← hVV]; rfl)
      clear hVV
      have hsu := slice_upS (some ⟨b, off, none⟩) n c k hk
      have hsf := fun w => slice_fromT (some ⟨b, off, none⟩) n c k hk HNC.out.2 w
      have hcc := HNC.out.2
      have he0 := own_empty (T := 9) (k := 1) V
      have ha1 : Below V.heap.size V (V.alloc (.cells #[] 9)) := (Below.refl _ V).alloc (Nat.le_refl _) _
      have HE0 := Lib.hid he0; have HA1 := Lib.hid ha1
      have hba := HBV.out.trans (ha1.mono (B' := w.heap.size) (by rw [HVS.out]; exact Nat.le_refl _))
      have HSL := Lib.hid (HS.out.belowMore hba hba.size)
      clear he0 ha1 hba
      go_wp2_with (at_builtin; refine wpList_appG elemSt rfl _ _ rfl V.heap.size (some ⟨V.heap.size, 0, none⟩) 0 0 [] ?hx1 HE0.out (some ⟨b, off, none⟩) k c (l.take k) ?hy1 (HSL.out.upTo hk) (fun e => by cases e) (by omega) HA1.out.size ?hk1)
      (try case hx1 => rfl)
      (try case hy1 => rfl)
      case hk1 =>
      intro A1 c1 w3 ho3 hb3
      (try simp only [Nat.zero_add, List.nil_append] at ho3)
      (try simp only [Nat.zero_add])
      have HO3 := Lib.hid ho3; have HB3 := Lib.hid (HA1.out.trans hb3)
      have HB3w := Lib.hid (HBV.out.trans ((HA1.out.trans hb3).mono (by rw [HVS.out]; exact Nat.le_refl _)))
      clear ho3 hb3 hsu HSL HE0 HA1 hc hc2
      go_upto_region 8 with fail
      refine wp_region_M (S := fun _ => True) 8 (by kernel_rfl) trivial (fun hHeld => ?_)
      have HO4 := Lib.hid (own_later HO3.out (drew_self w3))
      have HB4 := Lib.hid (HB3.out.trans ((drew_self w3).mono HB3.out.size))
      have HB4w := Lib.hid (HB3w.out.trans ((drew_self w3).mono HB3w.out.size))
      generalize w3.drew = W4 at *
      clear HO3 HB3 HB3w
      refine wpAnyM_take (i := 0) (v := .slice A1 k c1) rfl (by kernel_rfl) (fun _ _ _ h => h) (Or.inl ⟨by rfl, by intro w hSw; clear hSw; go_simp⟩) trivial ?_
      (try simp only [List.getElem_toArray, List.getElem_cons_succ, List.getElem_cons_zero, Act.put, List.setIfInBounds_toArray, List.set_cons_zero, List.set_cons_succ])
      refine wpAnyM_take (i := 1) (v := .string p) rfl (by kernel_rfl) (fun _ _ _ h => h) (Or.inl ⟨by rfl, by intro w hSw; clear hSw; go_simp⟩) trivial ?_
      (try simp only [List.getElem_toArray, List.getElem_cons_succ, List.getElem_cons_zero, Act.put, List.setIfInBounds_toArray, List.set_cons_zero, List.set_cons_succ])
      refine wpAnyM_take (i := 4) (v := .slice (some ⟨b, off, none⟩) n c) rfl (by kernel_rfl) (fun _ _ _ h => h) (Or.inl ⟨by rfl, by intro w hSw; clear hSw; go_simp⟩) trivial ?_
      (try simp only [List.getElem_toArray, List.getElem_cons_succ, List.getElem_cons_zero, Act.put, List.setIfInBounds_toArray, List.set_cons_zero, List.set_cons_succ])
      refine wpAnyM_take (i := 5) (v := .int .i64 ↑k) rfl (by kernel_rfl) (fun _ _ _ h => h) (Or.inl ⟨by rfl, by intro w hSw; clear hSw; go_simp⟩) trivial ?_
      (try simp only [List.getElem_toArray, List.getElem_cons_succ, List.getElem_cons_zero, Act.put, List.setIfInBounds_toArray, List.set_cons_zero, List.set_cons_succ])
      refine wpAnyM_take (i := 6) (v := .slice (if c = k then some ⟨b, off, none⟩ else (some ⟨b, off, none⟩ : Option Addr).map (·.add k)) (n - k) (c - k)) rfl (by kernel_rfl) (fun _ _ _ h => h) (Or.inl ⟨by rfl, by intro w hSw; clear hSw; go_simp⟩) trivial ?_
      (try simp only [List.getElem_toArray, List.getElem_cons_succ, List.getElem_cons_zero, Act.put, List.setIfInBounds_toArray, List.set_cons_zero, List.set_cons_succ])
      refine wpAnyM_one (i := 2) rfl (by kernel_rfl) (fun K hK => ?_)
      go_simp
      refine hK.out _ _ trivial ?_
      clear hK K
      (try simp only [List.getElem_toArray, List.getElem_cons_succ, List.getElem_cons_zero, Act.put, List.setIfInBounds_toArray, List.set_cons_zero, List.set_cons_succ])
      have ha5 : Below W4.heap.size W4 (W4.alloc (.cells #[.string p] 9)) := (Below.refl _ W4).alloc (Nat.le_refl _) _
      have HO5 := Lib.hid (own_later HO4.out ha5)
      have HB5 := Lib.hid (HB4.out.trans (ha5.mono HB4.out.size))
      have HB5w := Lib.hid (HB4w.out.trans (ha5.mono HB4w.out.size))
      refine wpAnyM_one (i := 3) rfl (by kernel_rfl) (fun K hK => ?_)
      rw [if_pos (by rfl)]
      refine wp_appG elemSt _ _ rfl V.heap.size A1 k c1 (l.take k) rfl HO5.out (some ⟨W4.heap.size, 0, none⟩) 1 1 [p] rfl (strCell W4 p) (fun e => by cases e) (by omega) HB5.out.size ?_
      intro A6 c6 w6 ho6 hb6
      refine hK.out _ _ trivial ?_
      clear hK K
      (try simp only [List.getElem_toArray, List.getElem_cons_succ, List.getElem_cons_zero, Act.put, List.setIfInBounds_toArray, List.set_cons_zero, List.set_cons_succ])
      have HB6w := Lib.hid (HB5w.out.trans (hb6.mono (by rw [HVS.out]; exact Nat.le_refl _)))
      have HB6 := Lib.hid (HB5.out.trans hb6)
      have HSD := Lib.hid (fun (V9 : World) (hV : Below w.heap.size w V9) => (show Sl V9 V9.heap.size encStr 1 (if c = k then some ⟨b, off, none⟩ else some ⟨b, off + k, none⟩) (n - k) (l.drop k) from by
        have h9 := (HS.out.belowMore hV hV.size).from1 hk HNC.out.2
        have e : (if c = k then (some ⟨b, off, none⟩ : Option Addr) else (some ⟨b, off, none⟩ : Option Addr).map (·.add k)) = if c = k then some ⟨b, off, none⟩ else some ⟨b, off + k, none⟩ := by
          by_cases hck : c = k
          · rw [if_pos hck, if_pos hck]
          · rw [if_neg hck, if_neg hck]; simp only [Option.map_some, Addr.add]; by_cases h0 : k = 0 <;> simp [h0]
        rw [e] at h9
        exact h9))
      refine wpAnyM_one (i := 7) rfl (by kernel_rfl) (fun K hK => ?_)
      rw [if_pos (by rfl)]
      refine wp_appG elemSt _ _ rfl V.heap.size A6 (k + 1) c6 (l.take k ++ [p]) rfl ho6 (if c = k then some ⟨b, off, none⟩ else some ⟨b, off + k, none⟩) (n - k) (c - k) (l.drop k) rfl (HSD.out _ HB6w.out) (fun e => by split at e <;> cases e) (by omega) HB6.out.size ?_
      intro A7 c7 w7 ho7 hb7
      refine hK.out _ _ trivial ?_
      clear hK K
      (try simp only [List.getElem_toArray, List.getElem_cons_succ, List.getElem_cons_zero, Act.put, List.setIfInBounds_toArray, List.set_cons_zero, List.set_cons_succ])
      have HEND := Lib.hid (show PutP base (putR l p) w (.returned (.slice A7 (k + 1 + (n - k)) c7)) w7 from PutP.mk (by rw [HPL.out, List.length_append, List.length_cons, List.length_take, List.length_drop, HL.out]; omega)
        (by rw [HPL.out, show l.take k ++ p :: l.drop k = l.take k ++ [p] ++ l.drop k by simp]; exact own_mono ho7 (by rw [HVS.out]; exact HBS.out)) (HB6w.out.trans (hb7.mono (by rw [HVS.out]; exact Nat.le_refl _))))
      clear ho6 hb6 ho7 hb7 hsf
      refine wpAnyM_tail (n := 8) (by kernel_rfl) ?_
      simp only [List.drop_succ_cons, List.drop_zero]
      go_wp2_with fail
      go_ret
      exact HEND.out
    · have hput := HPU.out
      rw [if_neg hc] at hput
      rw [HCM.out] at hc
      have hc2 : ¬ (Lib.compareBytes x.data.toList p.data.toList > 0) := hc
      have HPL := Lib.hid (show putR l p = l.take (k + 1) ++ putR (l.drop (k + 1)) p by rw [hput, HTK.out]; simp)
      clear hput HPU
      go_wp2_with fail
      go_roundw
      case rel => exact ⟨k + 1, q + q2, by go_num, by omega, by simp only [World.drewN_drewN], HPL.out⟩
      case measure => have := HLT.out; simp [RowKit.intOf]; omega
  obtain rfl : k = n := by omega
  have hlt2 : ¬ ((k : Int) < (k : Int)) := by omega
  have HPL := Lib.hid (show putR l p = l ++ [p] by rw [hput, List.take_of_length_le (by rw [HL.out]; exact Nat.le_refl _), List.drop_of_length_le (by rw [HL.out]; exact Nat.le_refl _)]; rfl)
  clear hput
  generalize hVV : w.drewN q = V at *
  have HBV := Lib.hid (show Below w.heap.size w V by rw [← hVV]; exact drewN_self _ _)
  have HVS := Lib.hid (show V.heap.size = w.heap.size by rw [← hVV]; rfl)
  clear hVV
  have ha1 : Below V.heap.size V (V.alloc (.cells #[] 9)) := (Below.refl _ V).alloc (Nat.le_refl _) _
  have HE0 := Lib.hid (own_empty (T := 9) (k := 1) V); have HA1 := Lib.hid ha1
  have hba := HBV.out.trans (ha1.mono (B' := w.heap.size) (by rw [HVS.out]; exact Nat.le_refl _))
  have HSL := Lib.hid (HS.out.belowMore hba hba.size)
  clear ha1 hba
  go_wp2_with (at_builtin; refine wpList_appG elemSt rfl _ _ rfl V.heap.size (some ⟨V.heap.size, 0, none⟩) 0 0 [] ?hx2 HE0.out A k c l ?hy2 HSL.out HNC.out.1 (by omega) HA1.out.size ?hk2)
  (try case hx2 => rfl)
  (try case hy2 => rfl)
  case hk2 =>
  intro A1 c1 w3 ho3 hb3
  (try simp only [Nat.zero_add, List.nil_append] at ho3)
  (try simp only [Nat.zero_add])
  have HO3 := Lib.hid ho3; have HB3 := Lib.hid (HA1.out.trans hb3)
  clear ho3 hb3 HSL HE0 HA1
  have ha5 : Below w3.heap.size w3 (w3.alloc (.cells #[.string p] 9)) := (Below.refl _ w3).alloc (Nat.le_refl _) _
  have HO5 := Lib.hid (own_later HO3.out ha5)
  have HB5 := Lib.hid (HB3.out.trans (ha5.mono HB3.out.size))
  have HS5 := Lib.hid (strCell w3 p)
  clear ha5
  go_wp2_with (at_builtin; refine wpList_appG elemSt rfl _ _ rfl V.heap.size A1 k c1 l ?hx3 HO5.out (some ⟨w3.heap.size, 0, none⟩) 1 1 [p] ?hy3 HS5.out (fun e => by cases e) (by omega) HB5.out.size ?hk3)
  (try case hx3 => rfl)
  (try case hy3 => rfl)
  case hk3 =>
  intro A7 c7 w7 ho7 hb7
  have HEND := Lib.hid (show PutP base (putR l p) w (.returned (.slice A7 (k + 1) c7)) w7 from PutP.mk (by rw [HPL.out, List.length_append, HL.out]; rfl)
    (by rw [HPL.out]; exact own_mono (by simpa using ho7) (by rw [HVS.out]; exact HBS.out)) (HBV.out.trans ((HB5.out.trans hb7).mono (by rw [HVS.out]; exact Nat.le_refl _))))
  clear ho7 hb7
  go_wp2_with fail
  go_ret
  exact HEND.out
theorem tKey_size {t : TxT} (h : t.v.n.path.size ≤ 1048576) : ∀ x ∈ tKey t, x.size ≤ 1048576 := by
  intro x hx
  unfold tKey at hx
  split at hx
  · rcases List.mem_cons.1 hx with rfl | hx
    · exact h
    · obtain rfl := List.mem_singleton.1 hx
      exact Nat.le_trans (parE_size _) h
  · obtain rfl := List.mem_singleton.1 hx
    exact h
theorem tKeys_size {l : List TxT} (h : ∀ t ∈ l, t.v.n.path.size ≤ 1048576) : ∀ x ∈ tKeys l, x.size ≤ 1048576 := by
  intro x hx
  obtain ⟨t, ht, hx⟩ := List.mem_flatMap.1 hx
  exact tKey_size (h t ht) x hx
/-- the loop's state -/
def TcF (base : Nat) (w2 : World) (xs : List TxT) (v i : Value) (wr : World) : Prop := ∃ (k : Nat) (A : Option Addr) (c : Nat), i = .int .i64 ↑k ∧ k ≤ xs.length ∧ v = .slice A (touchR (tKeys (xs.take k))).length c ∧ wr.ownsRow base 9 1 (.slice A (touchR (tKeys (xs.take k))).length c) (touchR (tKeys (xs.take k))).length ((touchR (tKeys (xs.take k))).flatMap encStr) ∧ Below w2.heap.size w2 wr
set_option linter.unusedSimpArgs false in
set_option maxRecDepth 100000 in
set_option maxHeartbeats 8000000 in
theorem refTouched_any (h : DlH) (d : DlT) (w : World) (R : Nat → Prop) (hd : DlAt w R h d) (hsm : DlSm 1048576 d) : Calls Tryz.prog 27 #[dlV h] w (SortSP w (touchD d)) := by
  have htop := hsm.2.top
  have HSI := Lib.hid (fun (V : World) (hV : Below w.heap.size w V) => refSteps_any h d V (fun _ => True) ⟨hd.1, TxAt.tru hd.2 hV⟩ hsm)
  have HNM := Lib.hid (stepsD_le htop.2.2.2.2.2.2.1 htop.2.2.2.2.2.1)
  have HPZ := Lib.hid (path_steps hsm)
  have HTE := Lib.hid (touch_eq d)
  clear htop hd hsm
  have HG0 := Lib.hid (heap_s0 w (.cells #[.int .i64 h.se, .int .i32 h.xi, .int .i64 h.zx, .int .i64 h.ti, .int .i32 h.t.n.ty, .string h.t.n.path, slV h.t.d, slV h.t.a, .int .i64 h.t.n.ow, .int .i32 h.t.n.ve, .int .i32 h.t.n.cr, .bool h.t.n.qh, .int .i64 h.t.n.qc, .int .i64 h.t.n.qb, .int .i64 h.t.n.si, .int .i32 h.t.n.st, slV h.t.i, slV h.t.p, .int .i32 h.t.n.co, slV h.t.s] 35))
  have HB := Lib.hid (show Below w.heap.size w (w.alloc (.cells #[.int .i64 h.se, .int .i32 h.xi, .int .i64 h.zx, .int .i64 h.ti, .int .i32 h.t.n.ty, .string h.t.n.path, slV h.t.d, slV h.t.a, .int .i64 h.t.n.ow, .int .i32 h.t.n.ve, .int .i32 h.t.n.cr, .bool h.t.n.qh, .int .i64 h.t.n.qc, .int .i64 h.t.n.qb, .int .i64 h.t.n.si, .int .i32 h.t.n.st, slV h.t.i, slV h.t.p, .int .i32 h.t.n.co, slV h.t.s] 35)) from (Below.refl _ w).alloc (Nat.le_refl _) _)
  go_enter Tryz.func27, Tryz.ntmps27
  go_upto_region 2 with fail
  change Code.wp _ _ _ _ (w.alloc (.cells #[.int .i64 h.se, .int .i32 h.xi, .int .i64 h.zx, .int .i64 h.ti, .int .i32 h.t.n.ty, .string h.t.n.path, slV h.t.d, slV h.t.a, .int .i64 h.t.n.ow, .int .i32 h.t.n.ve, .int .i32 h.t.n.cr, .bool h.t.n.qh, .int .i64 h.t.n.qc, .int .i64 h.t.n.qb, .int .i64 h.t.n.si, .int .i32 h.t.n.st, slV h.t.i, slV h.t.p, .int .i32 h.t.n.co, slV h.t.s] 35))
  generalize w.alloc (.cells #[.int .i64 h.se, .int .i32 h.xi, .int .i64 h.zx, .int .i64 h.ti, .int .i32 h.t.n.ty, .string h.t.n.path, slV h.t.d, slV h.t.a, .int .i64 h.t.n.ow, .int .i32 h.t.n.ve, .int .i32 h.t.n.cr, .bool h.t.n.qh, .int .i64 h.t.n.qc, .int .i64 h.t.n.qb, .int .i64 h.t.n.si, .int .i32 h.t.n.st, slV h.t.i, slV h.t.p, .int .i32 h.t.n.co, slV h.t.s] 35) = W at *
  have g0 := HG0.out
  have hsi := HSI.out W HB.out
  go_wp2_with (first | (apply wpList_loadRow 35 35; exact rfl; exact rfl; exact rfl; assumption; exact undDl; exact rfl; exact infDl) | fail)
  refine hsi.mono ?_
  rintro e w2 ⟨⟨A, c, rfl, hls⟩, hb2⟩
  have HB2 := Lib.hid (HB.out.trans (hb2.mono HB.out.size))
  obtain ⟨Hs, hrow, hHl, hHt⟩ := hls.r
  have HS := Lib.hid (own_slr hrow (fun _ => rfl) hHl)
  have HHT := Lib.hid hHt
  clear hsi hb2 g0 hls hrow hHl hHt HSI HG0 HB
  generalize hXS : stepsD d = xs at *
  have HXS := Lib.hid hXS
  clear hXS
  have hnm := HNM.out
  go_wp2_with fail
  go_loopw [3, 5, 6, 7] (fun v i _ _ wr => TcF w.heap.size w2 xs v i wr) (fun _ i _ _ _ => xs.length - (RowKit.intOf i).toNat)
  case atStart => exact ⟨0, none, 0, rfl, Nat.zero_le _, rfl, World.ownsRow_nil _ _ _ _, Below.refl _ _⟩
  case round =>
  obtain ⟨k, A3, c3, rfl, hk, rfl, hown, hbr⟩ := hrel
  have HO := Lib.hid hown; have HBR := Lib.hid hbr
  clear hown
  by_cases hlt : k < xs.length
  · obtain ⟨b2, off, ea, hbR, hca⟩ := HS.out.2.2 (Nat.lt_of_le_of_lt (Nat.zero_le _) hlt)
    have ea : A = some ⟨b2, off, none⟩ := ea
    subst ea
    have HC := Lib.hid (fun (V9 : World) (hV : Below w2.heap.size w2 V9) => (show V9.rangeAt b2 (off + k * 16) (encTx Hs[k]!) from fun i u hu => by
      have h1 := hca k hlt i u hu
      exact (hV.cell (World.block_lt_of_cell? w2 _ h1)).trans h1))
    have HJN := Lib.hid (HHT.out k hlt).loc.1
    have HLT := Lib.hid hlt
    have hpz : Hs[k]!.n.path.size ≤ 1048576 := by
      rw [← HJN.out]
      exact HPZ.out _ (by rw [getElem!_pos xs k hlt]; exact List.getElem_mem hlt)
    have HSZ := Lib.hid (show ∀ x ∈ touchR (tKeys (xs.take k)), x.size ≤ 1048576 from fun x hx => tKeys_size (fun t ht => HPZ.out t (List.mem_of_mem_take ht)) x ((mem_touchR _ x).1 hx))
    have HLE := Lib.hid (show (touchR (tKeys (xs.take k))).length ≤ 2097152 by
      have h1 := touchR_le (tKeys (xs.take k)); have h2 := tKeys_le (xs.take k); rw [List.length_take] at h2; omega)
    have HSN := Lib.hid (tKeys_snoc (l := xs) hlt)
    have hki : (k : Int) < (xs.length : Int) := by omega
    have hk0 : (0 : Int) ≤ (k : Int) := by omega
    have HPZK := Lib.hid hpz
    have hwb : w.heap.size ≤ wr.heap.size := Nat.le_trans HB2.out.size hbr.size
    have y1 : wr.cell? ⟨b2, off + k * 16 + 1, none⟩ = some (.string Hs[k]!.n.path) := HC.out wr hbr 1 _ rfl
    have HTK := Lib.hid (rfl : tKey xs[k]! = tKey xs[k]!)
    generalize hT : tKeys (xs.take k) = T at *
    clear hT hca hbR hpz
    generalize Hs[k]! = hj at *
    have HP1 := Lib.hid (refPutS_any w.heap.size A3 (touchR T).length c3 (touchR T) hj.n.path wr HO.out rfl hwb (Nat.le_trans HLE.out (by decide)) HSZ.out HPZK.out)
    clear hbr hwb
    go_wp2_with fail
    refine HP1.out.mono ?_
    rintro e w3 ⟨⟨A4, c4, rfl, ho4⟩, hb4⟩
    have HB4 := Lib.hid (HBR.out.trans (hb4.mono HBR.out.size))
    have HO4 := Lib.hid ho4
    have y0 : w3.cell? ⟨b2, off + k * 16, none⟩ = some (.int .i32 hj.n.ty) := HC.out w3 HB4.out 0 _ rfl
    have y1 : w3.cell? ⟨b2, off + k * 16 + 1, none⟩ = some (.string hj.n.path) := HC.out w3 HB4.out 1 _ rfl
    clear HP1 ho4 hb4
    by_cases hty : hj.n.ty = 1 ∨ hj.n.ty = 2
    · have HK2 := Lib.hid (show tKey xs[k]! = [hj.n.path, parE hj.n.path] by unfold tKey; rw [HJN.out, if_pos hty])
      have HPA := Lib.hid (refParent_any hj.n.path (Nat.lt_of_le_of_lt HPZK.out (by decide)) w3)
      have HSZ2 := Lib.hid (show ∀ x ∈ putR (touchR T) hj.n.path, x.size ≤ 1048576 from fun x hx => ((mem_putR _ _ _).1 hx).elim (HSZ.out x) (fun e => e ▸ HPZK.out))
      have HLE2 := Lib.hid (show (putR (touchR T) hj.n.path).length ≤ 2097153 from Nat.le_trans (putR_le _ _) (by have := HLE.out; omega))
      have HKN := Lib.hid (show touchR (tKeys (xs.take (k + 1))) = putR (putR (touchR T) hj.n.path) (parE hj.n.path) by
        rw [HSN.out, HK2.out, show T ++ [hj.n.path, parE hj.n.path] = (T ++ [hj.n.path]) ++ [parE hj.n.path] by simp, touchR_snoc, touchR_snoc])
      have HAR := Lib.hid (fun (V9 : World) (ho : V9.ownsRow w.heap.size 9 1 (.slice A4 (putR (touchR T) hj.n.path).length c4) (putR (touchR T) hj.n.path).length ((putR (touchR T) hj.n.path).flatMap encStr)) (hb : w.heap.size ≤ V9.heap.size) => refPutS_any w.heap.size A4 (putR (touchR T) hj.n.path).length c4 (putR (touchR T) hj.n.path) (parE hj.n.path) V9 ho rfl hb (Nat.le_trans HLE2.out (by decide)) HSZ2.out (Nat.le_trans (parE_size _) HPZK.out))
      have HFIN := Lib.hid (fun (e : Ending) (V9 V8 : World) (hb : Below w2.heap.size w2 V9) (hp : PutP w.heap.size (putR (putR (touchR T) hj.n.path) (parE hj.n.path)) V9 e V8) => (show ∃ A5 c5, e = .returned (.slice A5 (touchR (tKeys (xs.take (k + 1)))).length c5) ∧ TcF w.heap.size w2 xs (.slice A5 (touchR (tKeys (xs.take (k + 1)))).length c5) (.int .i64 ((k : Int) + 1)) V8 by
        obtain ⟨⟨A5, c5, rfl, ho5⟩, hb5⟩ := hp
        rw [← HKN.out] at ho5 ⊢
        exact ⟨A5, c5, rfl, k + 1, A5, c5, by push_cast; rfl, HLT.out, rfl, ho5, hb.trans (hb5.mono hb.size)⟩))
      rcases hty with hty | hty
      · have b1 : (hj.n.ty == 1) = true := by rw [hty]; rfl
        clear hty
        go_wp2_with fail
        refine HPA.out.mono ?_
        rintro e w5 ⟨rfl, hb5⟩
        have HB5 := Lib.hid (HB4.out.trans (hb5.mono HB4.out.size))
        have HP2 := Lib.hid (HAR.out w5 (own_later HO4.out hb5) (Nat.le_trans HB2.out.size HB5.out.size))
        have HPE := Lib.hid (show (if validP hj.n.path && !decide (hj.n.path = sSlash) then parP hj.n.path else ⟨#[]⟩) = parE hj.n.path from rfl)
        rw [HPE.out]
        generalize (if validP hj.n.path && !decide (hj.n.path = sSlash) then 0 else 30 : Int) = ee at *
        clear hb5 y0 y1 HPA HPE HAR
        go_wp2_with fail
        refine HP2.out.mono ?_
        intro e w6 hp
        obtain ⟨A5, c5, rfl, ht⟩ := HFIN.out e w5 w6 HB5.out hp
        have HT6 := Lib.hid ht
        clear hp ht HP2 HFIN
        go_wp2_with fail
        go_roundw
        case rel => exact HT6.out
        case measure => have := HLT.out; simp [RowKit.intOf]; omega
      · have b1 : (hj.n.ty == 1) = false := by rw [hty]; rfl
        have b2 : (hj.n.ty == 2) = true := by rw [hty]; rfl
        clear hty
        go_wp2_with fail
        refine HPA.out.mono ?_
        rintro e w5 ⟨rfl, hb5⟩
        have HB5 := Lib.hid (HB4.out.trans (hb5.mono HB4.out.size))
        have HP2 := Lib.hid (HAR.out w5 (own_later HO4.out hb5) (Nat.le_trans HB2.out.size HB5.out.size))
        have HPE := Lib.hid (show (if validP hj.n.path && !decide (hj.n.path = sSlash) then parP hj.n.path else ⟨#[]⟩) = parE hj.n.path from rfl)
        rw [HPE.out]
        generalize (if validP hj.n.path && !decide (hj.n.path = sSlash) then 0 else 30 : Int) = ee at *
        clear hb5 y0 y1 HPA HPE HAR
        go_wp2_with fail
        refine HP2.out.mono ?_
        intro e w6 hp
        obtain ⟨A5, c5, rfl, ht⟩ := HFIN.out e w5 w6 HB5.out hp
        have HT6 := Lib.hid ht
        clear hp ht HP2 HFIN
        go_wp2_with fail
        go_roundw
        case rel => exact HT6.out
        case measure => have := HLT.out; simp [RowKit.intOf]; omega
    · have b1 : (hj.n.ty == 1) = false := beq_eq_false_iff_ne.2 fun e => hty (.inl e)
      have b2 : (hj.n.ty == 2) = false := beq_eq_false_iff_ne.2 fun e => hty (.inr e)
      have HKN := Lib.hid (show touchR (tKeys (xs.take (k + 1))) = putR (touchR T) hj.n.path by
        rw [HSN.out, show tKey xs[k]! = [hj.n.path] by unfold tKey; rw [HJN.out, if_neg hty], touchR_snoc])
      clear hty
      go_wp2_with fail
      go_roundw
      case rel => exact ⟨k + 1, A4, c4, by go_num, HLT.out, by rw [HKN.out], by rw [HKN.out]; exact HO4.out, HB4.out⟩
      case measure => have := HLT.out; simp [RowKit.intOf]; omega
  obtain rfl : k = xs.length := by omega
  have hki : ¬ ((xs.length : Int) < (xs.length : Int)) := by omega
  rw [List.take_length] at *
  have HEND := Lib.hid (show SortSP w (touchD d) (.returned (.slice A3 (touchR (tKeys xs)).length c3)) wr from by
    rw [HTE.out]
    exact ⟨A3, c3, rfl, HO.out, HB2.out.trans (HBR.out.mono HB2.out.size)⟩)
  go_wp2_with fail
  go_ret
  exact HEND.out
end Go.Proofs.YthpjneobmmpbnaaGreatDoor
