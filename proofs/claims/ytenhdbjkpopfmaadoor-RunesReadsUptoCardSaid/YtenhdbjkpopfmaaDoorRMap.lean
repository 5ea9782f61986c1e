/- The walks of runes.Kinds (a map) and arborref01.Kinds (an array): both tell how many characters of each kind the text has. -/
import Derived.Test.YtenhdbjkpopfmaaDoorRFirst
import Derived.Maps.OwnOps
import Derived.Maps.Views
namespace Go.Proofs.YtenhdbjkpopfmaaDoor
open Go.RowKit Go.Maps

theorem keyInt : Keyed Tryd.prog 3 := int_keyed Tryd.underlying3
theorem zeroInt (w : World) : (zeroValue 3).run Tryd.prog w = .ok (.int .i64 0) w := by kernel_rfl

/-- how many characters of kind k stand from a place on -/
def cntF (s : ByteArray) (k : Int) : Nat → Nat → Nat
  | 0, _ => 0
  | f + 1, p => if p < s.size then (if charK s p = k then 1 else 0) + cntF s k f (p + charW s p) else 0
def cntI (s : ByteArray) (k : Int) : Nat := cntF s k s.size 0
theorem cntF_end (s : ByteArray) (k : Int) (f p : Nat) (h : ¬ p < s.size) : cntF s k f p = 0 := by cases f <;> simp [cntF, h]
theorem cntF_go (s : ByteArray) (k : Int) (f p : Nat) (h : p < s.size) : cntF s k (f + 1) p = (if charK s p = k then 1 else 0) + cntF s k f (p + charW s p) := by simp [cntF, h]

def ind (n : Nat) : Nat := if 0 < n then 1 else 0
/-- how many of the kinds 0 to 8 there are -/
def kindsOf (c : Int → Nat) : Nat := ind (c 0) + ind (c 1) + ind (c 2) + ind (c 3) + ind (c 4) + ind (c 5) + ind (c 6) + ind (c 7) + ind (c 8)
/-- A map that tells, of each number, how often it was counted; it has just those that were, and each is one of 0 to 8. -/
def Counts {H : Type} (D : DataW H) (c : Int → Nat) : Prop :=
  Tidy D ∧ (∀ k : Int, has D (.int .i64 k) = decide (0 < c k) ∧ D.atKey (.int .i64 k) (.lit (.int .i64 0)) = .lit (.int .i64 (c k))) ∧ Maps.size D = kindsOf c
theorem Counts.empty {H : Type} : Counts (.map [] : DataW H) fun _ => 0 := ⟨tidy_empty, fun _ => ⟨rfl, rfl⟩, rfl⟩
theorem kindsOf_put (c : Int → Nat) (j : Nat) (hj : j < 9) : kindsOf (fun k => if k = (j : Int) then c (j : Int) + 1 else c k) = if 0 < c (j : Int) then kindsOf c else kindsOf c + 1 := by
  match j, hj with
  | 0, _ => by_cases h : 0 < c 0 <;> simp [kindsOf, ind, h] <;> try omega
  | 1, _ => by_cases h : 0 < c 1 <;> simp [kindsOf, ind, h] <;> try omega
  | 2, _ => by_cases h : 0 < c 2 <;> simp [kindsOf, ind, h] <;> try omega
  | 3, _ => by_cases h : 0 < c 3 <;> simp [kindsOf, ind, h] <;> try omega
  | 4, _ => by_cases h : 0 < c 4 <;> simp [kindsOf, ind, h] <;> try omega
  | 5, _ => by_cases h : 0 < c 5 <;> simp [kindsOf, ind, h] <;> try omega
  | 6, _ => by_cases h : 0 < c 6 <;> simp [kindsOf, ind, h] <;> try omega
  | 7, _ => by_cases h : 0 < c 7 <;> simp [kindsOf, ind, h] <;> try omega
  | 8, _ => by_cases h : 0 < c 8 <;> simp [kindsOf, ind, h] <;> try omega
theorem Counts.put {H : Type} {D : DataW H} {c : Int → Nat} (h : Counts D c) (k : Int) (h0 : 0 ≤ k) (h8 : k ≤ 8) (n : Int) (hn : n = (c k : Int) + 1) : Counts (D.put (.int .i64 k) (.lit (.int .i64 n))) (fun j => if j = k then c k + 1 else c j) := by
  subst hn
  refine ⟨h.1.put (by simp [WideAt.IsKeyLit]) _, fun j => ?_, ?_⟩
  · by_cases e : j = k
    · subst e
      rw [has_put_same h.1.isMap (by simp [WideAt.IsKeyLit]), atKey_put_same h.1.isMap (by simp [WideAt.IsKeyLit])]
      simp
    · have hne : (Lit.int .i64 j) ≠ (Lit.int .i64 k) := fun hh => e (by simpa using hh)
      rw [has_put_other hne, atKey_put_other hne]
      simp only [if_neg e]
      exact h.2.1 j
  · rw [size_put h.1, (h.2.1 k).1, h.2.2]
    obtain ⟨j, rfl⟩ := Int.eq_ofNat_of_zero_le h0
    rw [kindsOf_put c j (by omega)]
    simp

theorem wf_small (k : Int) (h0 : 0 ≤ k) (h1 : k ≤ 100) : (Lit.int .i64 k).wf = true := WalkArith.wf_i64 (by omega)

theorem cnt_val {H : Type} {D : DataW H} {c : Int → Nat} (h : Counts D c) {k x : Int} (hat : D.atKey (.int .i64 k) (.lit (.int .i64 0)) = .lit (.int .i64 x)) : x = (c k : Int) := by
  rw [(h.2.1 k).2] at hat
  simp at hat
  exact hat.symm
/-- What Kinds leaves: a new map that counts. -/
def KindsPost (H : Type) (s : ByteArray) (w : World) (e : Ending) (w' : World) : Prop :=
  ∃ D : DataW H, e = .returned (.map (some w.heap.size)) ∧ w'.ownsMap Tryd.prog 3 (plainElem Tryd.prog 3) w.heap.size s.size D ∧ Counts D (cntI s) ∧ Below w.heap.size w w'

def KindsRel (H : Type) (s : ByteArray) (w wr : World) : Prop := ∃ (p f n : Nat) (D : DataW H) (c : Int → Nat), wr.heap[w.heap.size + 1]? = some (.stringIter s p) ∧ wr.ownsMap Tryd.prog 3 (plainElem Tryd.prog 3) w.heap.size n D ∧ Counts D c ∧ (∀ k, c k + cntF s k f p = cntI s k) ∧ (∀ k, c k ≤ n) ∧ n ≤ p ∧ p ≤ s.size ∧ s.size ≤ p + f ∧ Below w.heap.size w wr
set_option maxHeartbeats 4000000 in
theorem kinds_any {H : Type} (s : ByteArray) (hs : s.size ≤ 140737488355328) (w : World) :
    Calls Tryd.prog 8 #[.string s] w (KindsPost H s w) := by
  have hmm := @run_makeMap Tryd.prog
  go_enter Tryd.func8, Tryd.ntmps8
  go_wp2
  go_loopw [] (KindsRel H s w) (fun wr => s.size - wr.iterPos (w.heap.size + 1))
  case atStart =>
    refine ⟨0, s.size, 0, .map [], fun _ => 0, ?_, (World.ownsMap_made _ _ _ _).alloc _, Counts.empty, fun k => by simp [cntI], fun _ => Nat.le_refl _, Nat.le_refl _, by omega, by omega, ((Below.refl _ w).alloc (Nat.le_refl _) _).alloc (by simp) _⟩
    have := World.iter_heap (w.alloc (.map #[] 0)) s 0
    simpa using this
  case round =>
    obtain ⟨p, f, n, D, c, hit, hown, hcnt, hF, hcn, hnp, hps, hfu, hbw⟩ := hrel
    have HF := Lib.hid hF; have HCN := Lib.hid hcn; have HCNT := Lib.hid hcnt
    clear hF hcn hcnt
    by_cases hp : p < s.size
    · have hnx : ∀ ty, (Instr.next (.pointer (some ⟨w.heap.size + 1, 0, none⟩)) true ty).run Tryd.prog wr = _ := fun ty => Lib.run_next_any_at wr (w.heap.size + 1) s p ty hit hp
      have hsz : w.heap.size + 1 < wr.heap.size := (Array.getElem?_eq_some_iff.1 hit).1
      have hd1 := decode_le s p
      have hit2 := Lib.iterAt_heap wr (w.heap.size + 1) s p (p + (Utf8.decode s p).2) hit
      have hbw2 := Lib.below_iterAt hbw (k := w.heap.size + 1) (by omega) s (p + (Utf8.decode s p).2)
      have hown2 : (wr.iterAt (w.heap.size + 1) s (p + (Utf8.decode s p).2)).ownsMap Tryd.prog 3 (plainElem Tryd.prog 3) w.heap.size n D :=
        hown.kept (row := some (w.heap.size + 1)) ⟨rfl, rfl, rfl, by rw [Lib.iterAt_size]; exact Nat.le_refl _, fun j _ hj => Lib.iterAt_other wr _ j s _ (fun e => hj (by rw [e]))⟩ (by intro e; have := Option.some.inj e; omega)
      have HIT := Lib.hid hit; have HIT2 := Lib.hid hit2; have HB2 := Lib.hid hbw2; have HO2 := Lib.hid hown2
      clear hit hit2 hbw hbw2 hown hown2
      have hw1 := charW_pos s p
      have hw2 := charW_le s p hp
      have hkr := charK_range s p
      have hkey : keyOf Tryd.prog 3 (.int .i64 (charK s p)) = some (.int .i64 (charK s p)) := keyOf_int_mk Tryd.underlying3 (wf_small _ (by omega) (by omega))
      have HKEY := Lib.hid hkey; clear hkey
      obtain ⟨g, rfl⟩ : ∃ g, f = g + 1 := ⟨f - 1, by omega⟩
      go_wp2_with (first
        | (go_at_call 16; refine (of_any s p hp hs _).mono ?_; rintro e w' ⟨rfl, rfl⟩)
        | (at_lookup; refine wpList_lookup_own_int _ rfl _ _ 22 rfl 3 3 .i64 keyInt Tryd.underlying22 Tryd.underlying3 (zeroInt _) w.heap.size n _ rfl HO2.out _ _ rfl HKEY.out ?_; intro x hat hwx; have hxx := cnt_val HCNT.out hat; have hx0 : 0 ≤ x := by rw [hxx]; omega
           have hx1 : x ≤ n := by rw [hxx]; have := HCN.out (charK s p); omega
           have HXX := Lib.hid hxx; clear hxx hat)
        | (at_mapUpdate; refine wpList_mapUpdate_own _ rfl _ _ _ 22 rfl 3 3 keyInt Tryd.underlying22 _ w.heap.size n _ rfl HO2.out (by unfold maxLen; omega) _ _ _ rfl rfl HKEY.out _ [] (plainElem_int Tryd.underlying3 (WalkArith.wf_i64 (by omega))) ?_; intro w1 hown1 hgrow1))
      have HO1 := Lib.hid hown1
      have HIT3 : Hid (w1.heap[w.heap.size + 1]? = some (.stringIter s (p + (Utf8.decode s p).2))) := Lib.hid ((hgrow1.block _ (by rw [Lib.iterAt_size]; exact hsz) (by intro e; have := Option.some.inj e; omega)).trans HIT2.out)
      have HB3 : Hid (Below w.heap.size w w1) := Lib.hid (HB2.out.grown hgrow1 HB2.out.size (fun j hj => by cases hj; exact Nat.le_refl _))
      clear hown1 hgrow1
      go_roundw
      case rel =>
        have hfin : KindsRel H s w w1 := by
          refine ⟨p + charW s p, g, n + 1, _, _, HIT3.out, HO1.out, HCNT.out.put (charK s p) (by omega) (by omega) (x + 1) (by rw [HXX.out]), ?_, ?_, by omega, by omega, by omega, HB3.out⟩
          · intro k
            have h1 := HF.out k
            rw [cntF_go s k g p hp] at h1
            by_cases e : k = charK s p
            · subst e; simp at h1 ⊢; omega
            · rw [if_neg e]; rw [if_neg (fun h => e h.symm)] at h1; omega
          · intro k
            have h1 := HCN.out k
            have h2 := HCN.out (charK s p)
            by_cases e : k = charK s p
            · rw [if_pos e]; omega
            · rw [if_neg e]; omega
        first
          | exact hfin
          | ((repeat apply Exists.intro); exact ⟨hfin, rfl⟩)
      case measure =>
        have e1 := HIT3.out; have e0 := HIT.out
        simp only [World.iterPos, e1, e0]
        unfold charW at hw1; omega
    · have hnx : ∀ ty, (Instr.next (.pointer (some ⟨w.heap.size + 1, 0, none⟩)) true ty).run Tryd.prog wr = _ := fun ty => Lib.run_next_end_at wr (w.heap.size + 1) s p ty hit hp
      have HB := Lib.hid hbw; have HO := Lib.hid hown; clear hbw hown
      go_wp2
      go_ret
      refine ⟨D, rfl, HO.out.mono (by omega), ?_, HB.out⟩
      have e : c = cntI s := by
        funext k
        have h1 := HF.out k
        rw [cntF_end s k f p hp] at h1
        omega
      rw [← e]; exact HCNT.out
end Go.Proofs.YtenhdbjkpopfmaaDoor
