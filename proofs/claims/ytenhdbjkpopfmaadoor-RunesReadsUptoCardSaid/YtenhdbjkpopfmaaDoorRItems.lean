/- The walk of runes.items. Condition: the text has at most 2^20 bytes; the tables of unicode/utf8 hold what their initialisers lay. -/
import Derived.Test.YtenhdbjkpopfmaaDoorRItemsP
import Derived.Test.YtenhdbjkpopfmaaDoorRShow2
import Derived.Test.YtenhdbjkpopfmaaDoorTabs
import Derived.Lib.FrozenHead2
namespace Go.Proofs.YtenhdbjkpopfmaaDoor
open Go.RowKit

theorem digit_lib : ∀ n : Fin 256, Lib.indexByte [48, 49, 50, 51, 52, 53, 54, 55, 56, 57, 97, 98, 99, 100, 101, 102] (UInt8.ofNat n.val) = digV (UInt8.ofNat n.val) := by decide +kernel
theorem digit_lib' (c : UInt8) : Lib.indexByte [48, 49, 50, 51, 52, 53, 54, 55, 56, 57, 97, 98, 99, 100, 101, 102] c = digV c := by
  have h := digit_lib ⟨c.toNat, UInt8.toNat_lt c⟩
  simpa using h
theorem rdigit_any (c : UInt8) (w : World) :
    Calls Tryd.prog 30 #[.int .u8 (c.toNat : Int)] w fun e w' => e = .returned (.int .i64 (digV c)) ∧ w = w' := by
  have hd := digit_lib' c
  go_enter Tryd.func30, Tryd.ntmps30
  go_wp2_with (go_at_call 37; refine (Tryd.strings_IndexByte _ _ _).mono ?_; rintro e w' ⟨rfl, rfl⟩)
  go_ret
  exact ⟨ret_i64 rfl, rfl⟩
theorem decodeGo_at (s : ByteArray) (i : Nat) (h : i < s.size) : Lib.decodeGo (s.extract i s.size) = Utf8.decode s i := by
  unfold Lib.decodeGo
  rw [if_neg (by simp; omega), Lib.tail_decode, Nat.add_zero]

/-- What items answers. -/
def ItemsPost (w : World) (r : List UInt8 × Int) (e : Ending) (w' : World) : Prop :=
  ∃ v, e = .returned (.tuple #[v, .int .i64 r.2]) ∧ w'.ownsRowF w.heap.size 5 1 v r.1.length (Lib.byteCells r.1) ∧ Below w.heap.size w w'
theorem ItemsPost.none {w w' : World} {r : List UInt8 × Int} {n : Int} (hr : r = ([], n)) (hb : Below w.heap.size w w') : ItemsPost w r (.returned (.tuple #[.slice none 0 0, .int .i64 n])) w' := by
  subst hr
  exact ⟨_, rfl, World.ownsRowF_of (World.ownsRow_nil _ _ _ _), hb⟩

theorem toList_empty (s : ByteArray) : s.toList.isEmpty = decide (s.size = 0) := by
  rw [ByteArray.toList_eq]
  show s.data.toList.isEmpty = decide (s.data.size = 0)
  rw [← Array.length_toList]
  cases s.data.toList with
  | nil => rfl
  | cons a t => simp
theorem one_new (w : World) (x : Value) (e : TypeId) : ∀ j u, [x][j]? = some u → (w.alloc (.cells #[x] e)).cell? ((⟨w.heap.size, 0, none⟩ : Addr).add j) = some u := by
  intro j u hj
  match j, hj with
  | 0, hj =>
    simp at hj; subst hj
    have hb : (w.alloc (.cells #[x] e)).heap[w.heap.size]? = some (.cells #[x] e (0, 0)) := (MapKept.heap_alloc w _).1
    show (w.alloc (.cells #[x] e)).cell? ⟨w.heap.size, 0 + 0, none⟩ = _
    rw [Lib.cell_of_heap hb]; rfl
theorem byte_eq (c : UInt8) (n : Nat) (h : c.toNat = n) : ((c.toNat : Int) == (n : Int)) = true := by simp [h]
theorem byte_ne (c : UInt8) (n : Nat) (h : c.toNat ≠ n) : ((c.toNat : Int) == (n : Int)) = false := by simp; omega
theorem ne_nat {c : UInt8} {n : Nat} (h : c ≠ n.toUInt8) (hn : n < 256) : c.toNat ≠ n := fun e => h (by apply UInt8.toNat_inj.1; simp; omega)
theorem grown_of_below {w w' : World} (h : Below w.heap.size w w') : w.grownBy w' none := ⟨h.os, h.tape, h.output, h.size, fun k hk _ => h.block k hk⟩
theorem toU8 (n : Int) (h0 : 0 ≤ n) (h1 : n < 256) : ((n.toNat.toUInt8).toNat : Int) = n := by simp; omega
theorem byteCells_snoc (l : List UInt8) (c : UInt8) : Lib.byteCells (l ++ [c]) = Lib.byteCells l ++ [.int .u8 (c.toNat : Int)] := by simp [Lib.byteCells]

set_option maxRecDepth 100000 in
set_option maxHeartbeats 8000000 in
theorem items_any (s : ByteArray) (hs : s.size ≤ 67108864) (w : World) (hT : Lib.Utf8Tabs 0 1 w) :
    Calls Tryd.prog 20 #[.string s] w (ItemsPost w (itemsI s)) := by
  obtain ⟨i0, hi0, hz0, hz1, hz2⟩ := info_parts infoByte
  have HT := Lib.hid hT; clear hT
  by_cases h0 : s.size = 0
  · have hr : itemsI s = ([], 0) := by unfold itemsI; rw [if_pos (.inl h0)]
    have HR := Lib.hid hr; clear hr
    have hE : s.toList.isEmpty = true := by rw [toList_empty]; simpa using h0
    go_enter Tryd.func20, Tryd.ntmps20
    go_wp2
    go_ret2
    exact ItemsPost.none HR.out (Below.refl _ _)
  · have hE : s.toList.isEmpty = false := by rw [toList_empty]; simpa using h0
    have hp0 : 0 < s.size := by omega
    by_cases h1 : s.get! 0 = 34
    · have hr : itemsI s = itF s s.size 1 [] := by unfold itemsI; rw [if_neg (by rintro (h | h); exact h0 h; exact h h1)]
      have HR := Lib.hid hr; clear hr
      have hc0 : ((s[0].toNat : Int) == 34) = true := byte_eq _ 34 (by rw [← get_eq s 0 hp0, h1]; rfl)
      have hc1 : ((s[0].toNat : Int) != 34) = false := by simp only [bne, hc0]; rfl
      clear h1
      go_enter Tryd.func20, Tryd.ntmps20
      go_wp2
      go_loopw [4, 5] (fun o i wr => ∃ (k f : Nat) (acc : List UInt8), wr.ownsRowF w.heap.size 5 1 o acc.length (Lib.byteCells acc) ∧ i = .int .i64 ↑k ∧ k ≤ s.size ∧ itF s f k acc = itemsI s ∧ s.size ≤ k + f ∧ acc.length ≤ k ∧ Below w.heap.size w wr) (fun _ i _ => s.size - (intOf i).toNat)
      case atStart => exact ⟨1, s.size, [], World.ownsRowF_of (World.ownsRow_nil _ _ _ _), rfl, by omega, HR.out.symm, by omega, by simp, Below.refl _ _⟩
      case round =>
        obtain ⟨k, f, acc, hown, rfl, hk, hF, hfu, hal, hbw⟩ := hrel
        have HF := Lib.hid hF; have HB := Lib.hid hbw; have HOWN := Lib.hid hown
        clear hF hbw hown
        by_cases hlt : k < s.size
        · obtain ⟨g, rfl⟩ : ∃ g, f = g + 1 := ⟨f - 1, by omega⟩
          have hg := get_eq s k hlt
          have hb8 := UInt8.toNat_lt s[k]
          by_cases c34 : s.get! k = 34
          · have hq := itF_quote s g k acc hlt c34
            have hq1 : ((s[k].toNat : Int) == 34) = true := byte_eq _ 34 (by rw [← hg, c34]; rfl)
            clear c34 hg
            by_cases hk1 : k + 1 < s.size
            · have HQ : Hid (itemsI s = ([], (k : Int) + 1)) := Lib.hid (by rw [← HF.out, hq, if_pos hk1])
              clear hq
              go_wp2
              go_ret2
              exact ItemsPost.none HQ.out HB.out
            · have HQ : Hid (itemsI s = (acc, -1)) := Lib.hid (by rw [← HF.out, hq, if_neg hk1])
              clear hq
              go_wp2
              go_ret2
              rw [HQ.out]
              exact ⟨_, rfl, HOWN.out, HB.out⟩
          · have hq1 : ((s[k].toNat : Int) == 34) = false := byte_ne _ 34 (by rw [← hg]; exact ne_nat c34 (by decide))
            by_cases c92 : s.get! k = 92
            · have hq2 : ((s[k].toNat : Int) == 92) = true := byte_eq _ 92 (by rw [← hg, c92]; rfl)
              by_cases hk1 : k + 1 < s.size
              · have hg1 := get_eq s (k + 1) hk1
                have hb81 := UInt8.toNat_lt s[k + 1]
                by_cases d : s.get! (k + 1) = 34 ∨ s.get! (k + 1) = 92
                · have HQ : Hid (itF s g (k + 2) (acc ++ [s[k + 1]]) = itemsI s) := Lib.hid (by rw [← HF.out, itF_mark s g k acc hlt c92 hk1 d, hg1])
                  rw [hg1] at d
                  clear c34 c92 hg hg1
                  rcases d with d | d
                  · have hd : ((s[k + 1].toNat : Int) == 34) = true := by rw [d]; rfl
                    have HD := Lib.hid d; clear d
                    go_wp2_with (at_builtin; refine wpList_append_ownF _ rfl _ _ 43 rfl w.heap.size 5 i0 (.int .u8 0) 1 1 Tryd.underlying43 hi0 hz0 hz1 hz2 rfl (by decide) _ _ _ rfl (HOWN.out.alloc _) ⟨wr.heap.size, 0, none⟩ 1 1 [.int .u8 ((s[k + 1].toNat : Int))] rfl rfl (one_new _ _ _) (by intro u hu; simp at hu; subst hu; rfl) (by unfold maxLen; omega) (by omega) (by have := HB.out.size; simp; omega) ?_)
                    intro v' w2 hown' hgrow _
                    have HOWN2 := Lib.hid hown'
                    have hb2 : Below w.heap.size w w2 := (HB.out.alloc (by have := HB.out.size; omega) _).grown hgrow (by have := HB.out.size; simp; omega) (fun k hk => (HOWN.out.lt k hk).1)
                    have HB2 := Lib.hid hb2
                    clear hown' hgrow hb2
                    go_wp2_with fail
                    go_roundw
                    case rel =>
                      refine ⟨k + 2, g, acc ++ [s[k + 1]], ?_, by go_num, by omega, HQ.out, by omega, by simp; omega, HB2.out⟩
                      rw [byteCells_snoc, List.length_append]; exact HOWN2.out
                    case measure => simp [intOf]; omega
                  · have hd : ((s[k + 1].toNat : Int) == 34) = false := by rw [d]; rfl
                    have hd2 : ((s[k + 1].toNat : Int) == 92) = true := by rw [d]; rfl
                    have HD := Lib.hid d; clear d
                    go_wp2_with (at_builtin; refine wpList_append_ownF _ rfl _ _ 43 rfl w.heap.size 5 i0 (.int .u8 0) 1 1 Tryd.underlying43 hi0 hz0 hz1 hz2 rfl (by decide) _ _ _ rfl (HOWN.out.alloc _) ⟨wr.heap.size, 0, none⟩ 1 1 [.int .u8 ((s[k + 1].toNat : Int))] rfl rfl (one_new _ _ _) (by intro u hu; simp at hu; subst hu; rfl) (by unfold maxLen; omega) (by omega) (by have := HB.out.size; simp; omega) ?_)
                    intro v' w2 hown' hgrow _
                    have HOWN2 := Lib.hid hown'
                    have hb2 : Below w.heap.size w w2 := (HB.out.alloc (by have := HB.out.size; omega) _).grown hgrow (by have := HB.out.size; simp; omega) (fun k hk => (HOWN.out.lt k hk).1)
                    have HB2 := Lib.hid hb2
                    clear hown' hgrow hb2
                    go_wp2_with fail
                    go_roundw
                    case rel =>
                      refine ⟨k + 2, g, acc ++ [s[k + 1]], ?_, by go_num, by omega, HQ.out, by omega, by simp; omega, HB2.out⟩
                      rw [byteCells_snoc, List.length_append]; exact HOWN2.out
                    case measure => simp [intOf]; omega
                · have hd : ((s[k + 1].toNat : Int) == 34) = false := byte_ne _ 34 (by rw [← hg1]; exact ne_nat (fun e => d (.inl e)) (by decide))
                  have hd2 : ((s[k + 1].toNat : Int) == 92) = false := byte_ne _ 92 (by rw [← hg1]; exact ne_nat (fun e => d (.inr e)) (by decide))
                  by_cases x : s.get! (k + 1) = 120
                  · have hx : ((s[k + 1].toNat : Int) == 120) = true := byte_eq _ 120 (by rw [← hg1, x]; rfl)
                    have hx2 : ((s[k + 1].toNat : Int) != 120) = false := by simp only [bne, hx]; rfl
                    have HH := Lib.hid (itF_hex s g k acc hlt c92 (fun _ => x))
                    clear c34 c92 hg hg1 d x
                    by_cases h2 : k + 2 < s.size
                    · have HG2 := Lib.hid (get_eq s (k + 2) h2)
                      have hr2 := digV_range s[k + 2]
                      by_cases n2 : digV s[k + 2] < 0
                      · have HQ : Hid (itemsI s = ([], (k : Int) + 2)) := Lib.hid (by rw [← HF.out, HH.out, if_neg (by omega), HG2.out, if_pos n2])
                        clear HH
                        go_wp2
                        refine wp_loop_rounds 1 ?_
                        rw [rounds_succ]
                        go_wp2_with fail
                        refine (rdigit_any s[k + 2] _).mono ?_
                        rintro e w' ⟨rfl, rfl⟩
                        go_wp2
                        go_ret2
                        exact ItemsPost.none HQ.out HB.out
                      · by_cases h3 : k + 3 < s.size
                        · have HG3 := Lib.hid (get_eq s (k + 3) h3)
                          have hr3 := digV_range s[k + 3]
                          by_cases n3 : digV s[k + 3] < 0
                          · have HQ : Hid (itemsI s = ([], (k : Int) + 3)) := Lib.hid (by rw [← HF.out, HH.out, if_neg (by omega), HG2.out, if_neg n2, if_neg (by omega), HG3.out, if_pos n3])
                            clear HH
                            go_wp2
                            refine wp_loop_rounds 2 ?_
                            rw [rounds_succ]
                            go_wp2_with fail
                            refine (rdigit_any s[k + 2] _).mono ?_
                            rintro e w' ⟨rfl, rfl⟩
                            go_wp2_with fail
                            rw [rounds_succ]
                            go_wp2_with fail
                            refine (rdigit_any s[k + 3] _).mono ?_
                            rintro e w' ⟨rfl, rfl⟩
                            go_wp2_with fail
                            go_ret2
                            exact ItemsPost.none HQ.out HB.out
                          · have HQ : Hid (itF s g (k + 4) (acc ++ [(16 * digV s[k + 2] + digV s[k + 3]).toNat.toUInt8]) = itemsI s) := Lib.hid (by rw [← HF.out, HH.out, if_neg (by omega), HG2.out, if_neg n2, if_neg (by omega), HG3.out, if_neg n3])
                            clear HH
                            go_wp2
                            refine wp_loop_rounds 3 ?_
                            rw [rounds_succ]
                            go_wp2_with fail
                            refine (rdigit_any s[k + 2] _).mono ?_
                            rintro e w' ⟨rfl, rfl⟩
                            go_wp2_with fail
                            rw [rounds_succ]
                            go_wp2_with fail
                            refine (rdigit_any s[k + 3] _).mono ?_
                            rintro e w' ⟨rfl, rfl⟩
                            go_wp2_with fail
                            rw [rounds_succ]
                            go_wp2_with (at_builtin; refine wpList_append_ownF _ rfl _ _ 43 rfl w.heap.size 5 i0 (.int .u8 0) 1 1 Tryd.underlying43 hi0 hz0 hz1 hz2 rfl (by decide) _ _ _ rfl (HOWN.out.alloc _) ⟨wr.heap.size, 0, none⟩ 1 1 [.int .u8 (16 * digV s[k + 2] + digV s[k + 3])] rfl rfl (one_new _ _ _) (by intro u hu; simp at hu; subst hu; rfl) (by unfold maxLen; omega) (by omega) (by have := HB.out.size; simp; omega) ?_)
                            intro v' w2 hown' hgrow _
                            have HOWN2 := Lib.hid hown'
                            have hb2 : Below w.heap.size w w2 := (HB.out.alloc (by have := HB.out.size; omega) _).grown hgrow (by have := HB.out.size; simp; omega) (fun k hk => (HOWN.out.lt k hk).1)
                            have HB2 := Lib.hid hb2
                            clear hown' hgrow hb2
                            go_wp2_with fail
                            go_roundw
                            case rel =>
                              refine ⟨k + 4, g, acc ++ [(16 * digV s[k + 2] + digV s[k + 3]).toNat.toUInt8], ?_, by go_num, by omega, HQ.out, by omega, by simp; omega, HB2.out⟩
                              rw [byteCells_snoc, List.length_append, toU8 _ (by omega) (by omega)]; exact HOWN2.out
                            case measure => simp [intOf]; omega
                        · have HQ : Hid (itemsI s = ([], (s.size : Int))) := Lib.hid (by rw [← HF.out, HH.out, if_neg (by omega), HG2.out, if_neg n2, if_pos (by omega)])
                          clear HH
                          go_wp2
                          refine wp_loop_rounds 2 ?_
                          rw [rounds_succ]
                          go_wp2_with fail
                          refine (rdigit_any s[k + 2] _).mono ?_
                          rintro e w' ⟨rfl, rfl⟩
                          go_wp2_with fail
                          rw [rounds_succ]
                          go_wp2_with fail
                          go_ret2
                          exact ItemsPost.none HQ.out HB.out
                    · have HQ : Hid (itemsI s = ([], (s.size : Int))) := Lib.hid (by rw [← HF.out, HH.out, if_pos (by omega)])
                      clear HH
                      go_wp2
                      refine wp_loop_rounds 1 ?_
                      rw [rounds_succ]
                      go_wp2
                      go_ret2
                      exact ItemsPost.none HQ.out HB.out
                  · have hx : ((s[k + 1].toNat : Int) == 120) = false := byte_ne _ 120 (by rw [← hg1]; exact ne_nat x (by decide))
                    have hx2 : ((s[k + 1].toNat : Int) != 120) = true := by simp only [bne, hx]; rfl
                    have HQ : Hid (itemsI s = ([], (k : Int) + 1)) := Lib.hid (by rw [← HF.out, itF_bad s g k acc hlt c92 hk1 d x])
                    clear c34 c92 hg hg1 d x
                    go_wp2
                    go_ret2
                    exact ItemsPost.none HQ.out HB.out
              · have HH := Lib.hid (itF_hex s g k acc hlt c92 (fun h => absurd h hk1))
                have HQ : Hid (itemsI s = ([], (s.size : Int))) := Lib.hid (by rw [← HF.out, HH.out, if_pos (by omega)])
                clear c34 c92 hg HH
                have hq9 : k + 1 = s.size := by omega
                have HQ9 := Lib.hid hq9; clear hq9
                go_wp2
                refine wp_loop_rounds 1 ?_
                rw [rounds_succ]
                go_wp2
                go_ret2
                exact ItemsPost.none HQ.out HB.out
            · have hq2 : ((s[k].toNat : Int) == 92) = false := byte_ne _ 92 (by rw [← hg]; exact ne_nat c92 (by decide))
              have HC := Lib.hid (itF_char s g k acc hlt c34 c92)
              clear c34 c92 hg
              have hw1 := charW_pos s k
              have hw2 := charW_le s k hlt
              have HD := Lib.hid (decodeGo_at s k hlt)
              have hTr : Hid (Lib.Utf8Tabs 0 1 wr) := Lib.hid (tabs_below HT.out (Nat.le_refl _) HB.out)
              by_cases hk1 : charK s k = 1
              · have HQ : Hid (itF s g (k + charW s k) (acc ++ bytesAt s k) = itemsI s) := Lib.hid (by rw [← HF.out, HC.out, if_pos hk1])
                have hkb : (charK s k == 1) = true := by simp [hk1]
                have hkc : (charK s k != 1) = false := by simp [hk1]
                clear hk1 HC
                go_wp2_with fail
                refine (Tryd.utf8_DecodeRuneInString _ _ hTr.out).mono ?_
                rintro e w1 ⟨rfl, hb1⟩
                rw [HD.out]
                have HB1 : Hid (Below w.heap.size w w1) := Lib.hid (HB.out.trans (hb1.mono HB.out.size))
                have HO1 : Hid (w1.ownsRowF w.heap.size 5 1 _ acc.length (Lib.byteCells acc)) := Lib.hid (HOWN.out.kept (grown_of_below hb1) (by cases hv : Value.ownBlock _ <;> simp))
                clear hb1
                go_wp2_with fail
                refine (of_any s k hlt (by omega) _).mono ?_
                rintro e w' ⟨rfl, rfl⟩
                have hbl := bytesAt_length s k hlt
                have hx : s.extract k (k + (Utf8.decode s k).2) = ⟨(bytesAt s k).toArray⟩ := extract_char s k
                have hsz : (s.extract k (k + (Utf8.decode s k).2)).size = charW s k := by rw [hx]; show (bytesAt s k).toArray.size = _; rw [List.size_toArray, hbl]
                have hcells : Lib.strCells (s.extract k (k + (Utf8.decode s k).2)) = Lib.byteCells (bytesAt s k) := by rw [hx]; rfl
                have HSZ := Lib.hid hsz; have HCL := Lib.hid hcells; have HBL := Lib.hid hbl; clear hsz hcells hbl hx
                have hw3 : k + (Utf8.decode s k).2 ≤ s.size := hw2
                go_wp2_with (at_builtin; refine Lib.wpList_append_own_stringF _ rfl _ _ 43 9 rfl w.heap.size 5 i0 Tryd.underlying43 Tryd.underlying9 hi0 hz0 hz1 hz2 _ _ _ rfl HO1.out (s.extract k (k + (Utf8.decode s k).2)) rfl (by rw [HSZ.out]; unfold maxLen; omega) (by rw [HSZ.out]; omega) HB1.out.size ?_)
                intro v' w2 hown' hgrow _
                have HOWN2 := Lib.hid hown'
                have HB2 : Hid (Below w.heap.size w w2) := Lib.hid (HB1.out.grown hgrow HB1.out.size (fun j hj => (HO1.out.lt j hj).1))
                clear hown' hgrow
                go_wp2_with fail
                go_roundw
                case rel =>
                  refine ⟨k + charW s k, g, acc ++ bytesAt s k, ?_, by unfold charW; go_num, by omega, HQ.out, by omega, by rw [List.length_append, HBL.out]; omega, HB2.out⟩
                  have hh := HOWN2.out
                  rw [HCL.out] at hh
                  rw [Lib.byteCells_append, List.length_append, HBL.out]; exact hh
                case measure => unfold charW at hw1; simp [intOf]; omega
              · have HQ : Hid (itemsI s = ([], (k : Int))) := Lib.hid (by rw [← HF.out, HC.out, if_neg hk1])
                have hkb : (charK s k == 1) = false := by simp [hk1]
                have hkc : (charK s k != 1) = true := by simp [hk1]
                clear hk1 HC
                go_wp2_with fail
                refine (Tryd.utf8_DecodeRuneInString _ _ hTr.out).mono ?_
                rintro e w1 ⟨rfl, hb1⟩
                rw [HD.out]
                have HB1 : Hid (Below w.heap.size w w1) := Lib.hid (HB.out.trans (hb1.mono HB.out.size))
                clear hb1
                go_wp2_with fail
                refine (of_any s k hlt (by omega) _).mono ?_
                rintro e w' ⟨rfl, rfl⟩
                go_wp2_with fail
                go_ret2
                exact ItemsPost.none HQ.out HB1.out
        · have HE := Lib.hid (itF_end s f k acc hlt)
          have HQ : Hid (itemsI s = ([], (s.size : Int))) := Lib.hid (by rw [← HF.out, HE.out])
          go_wp2
          go_ret2
          exact ItemsPost.none HQ.out HB.out
    · have hr : itemsI s = ([], 0) := by unfold itemsI; rw [if_pos (.inr h1)]
      have HR := Lib.hid hr; clear hr
      have hc0 : ((s[0].toNat : Int) == 34) = false := byte_ne _ 34 (by rw [← get_eq s 0 hp0]; exact ne_nat h1 (by decide))
      have hc1 : ((s[0].toNat : Int) != 34) = true := by simp only [bne, hc0]; rfl
      clear h1
      go_enter Tryd.func20, Tryd.ntmps20
      go_wp2
      go_ret2
      exact ItemsPost.none HR.out (Below.refl _ _)
end Go.Proofs.YtenhdbjkpopfmaaDoor
