/- jute.All on bytes that are one session and nothing behind it. What was written of numbers, texts, identities, a session is read back, in plain. No program. A right session's identities can be read back, and they are the ones that were written. No program. Words for SessionBytes: a new Writer, a new Reader of the document. -/
import Derived.Test.YtbpmmmnphpkdjaaGreatDoorSesD
import Derived.Test.YtbpmmmnphpkdjaaGreatDoorSesC
import Derived.Test.YtbpmmmnphpkdjaaGreatDoorSesR
namespace Go.Proofs.YtbpmmmnphpkdjaaGreatDoor
open Go.RowKit Go.MapKept Go.Maps
set_option maxRecDepth 100000 in
theorem all8_any {w : World} {xb n c : Nat} {A : Option Addr} {l : Bs} {v : SesB} (hB : ArgB w A n c l) (hT : Lib.Utf8Tabs 0 1 w) (hx : ∃ u1 u2 u3, w.heap[xb]? = some (.cells #[u1, u2, u3] 116 (0, 0))) (hxl : xb < w.heap.size) (hv : sesP l 0 = .ok (v, n)) :
    Calls Tryz.prog 56 #[.slice A n c, .func (.func 52) #[.pointer (some ⟨xb, 0, none⟩)] #[]] w fun e w' => e = .returned (.tuple #[.int .i64 (n : Int), .int .i64 0]) ∧ Fr [xb] w w' ∧ XSesS xb v w' := by
  have HR := Lib.hid (read8_any hB hT hx hxl)
  have hn := hB.2.2.1
  clear hB hT hx
  go_enter Tryz.func56, Tryz.ntmps56
  go_wp2_with fail
  refine HR.out.mono ?_
  rintro e w' ⟨q, k, rfl, hf, hr, hx'⟩
  rcases hr with ⟨rfl, v', h1, h2⟩ | ⟨hk, h1⟩
  · rw [hv] at h1
    injection h1 with h1
    injection h1 with h1 h3
    subst h1
    subst h3
    have HF := Lib.hid hf
    have HX := Lib.hid h2
    clear hf h2 hx' HR hv
    go_wp2_with fail
    refine bodyPost_ret (v := .tuple #[.int .i64 (n : Int), .int .i64 0]) ?_ rfl ⟨rfl, HF.out, HX.out⟩
    exact results_tmp2 (fn := Tryz.f56) (t := 4) (u := 5) (by kernel_rfl) _ _ _
  · rw [hv] at h1
    cases h1
end Go.Proofs.YtbpmmmnphpkdjaaGreatDoor
namespace Go.Proofs.YtbpmmmnphpkdjaaGreatDoor
open Go.RowKit
theorem beN_cons (b : UInt8) (l : Bs) : beN (b :: l) = b.toNat * 256 ^ l.length + beN l := by
  have go : ∀ (l : Bs) (a : Nat), l.foldl (fun a b => a * 256 + b.toNat) a = a * 256 ^ l.length + l.foldl (fun a b => a * 256 + b.toNat) 0 := by
    intro l
    induction l with
    | nil => intro a; simp
    | cons x r ih =>
      intro a
      rw [List.foldl_cons, ih, List.foldl_cons, ih (0 * 256 + x.toNat), List.length_cons, Nat.pow_succ]
      rw [Nat.add_mul, Nat.zero_mul, Nat.zero_add, Nat.mul_assoc, Nat.mul_comm 256 (256 ^ r.length), Nat.add_assoc]
  unfold beN
  rw [List.foldl_cons, go]
  simp
theorem beN_beB (x : Nat) : ∀ n, beN (beB x n) = x % 256 ^ n
  | 0 => by simp [beB, beN, Nat.mod_one]
  | n + 1 => by
    rw [beB, beN_cons, beB_len, beN_beB x n, UInt8.toNat_ofNat', show (2 : Nat) ^ 8 = 256 from rfl]
    have h := Nat.mod_mul (x := x) (a := 256 ^ n) (b := 256)
    have e : 256 ^ (n + 1) = 256 ^ n * 256 := by rw [Nat.pow_succ]
    rw [e, h, Nat.mul_comm]
    omega
theorem then_ok {α β : Type} (a : α) (q : Nat) (f : α → Nat → PR β) : PR.then (.ok (a, q)) f = f a q := rfl
theorem takeP_mid {a b c : Bs} {n : Nat} (h : b.length = n) : takeP (a ++ (b ++ c)) n a.length = .ok (b, a.length + n) := by
  unfold takeP
  rw [if_neg (by simp; omega)]
  congr 2
  rw [List.drop_left' rfl, ← h, List.take_left' rfl]
theorem intP_mid {a c : Bs} (t : Int) (h : -2147483648 ≤ t ∧ t ≤ 2147483647) : intP (a ++ (beB (m32 t) 4 ++ c)) a.length = .ok (t, a.length + 4) := by
  unfold intP
  rw [takeP_mid (beB_len _ _)]
  show Except.ok (i32N (beN (beB (m32 t) 4)), _) = _
  rw [beN_beB]
  have : i32N (m32 t % 256 ^ 4) = t := by unfold i32N m32; split <;> omega
  rw [this]
theorem longP_mid {a c : Bs} (t : Int) (h : wfI t) : longP (a ++ (beB (m64 t) 8 ++ c)) a.length = .ok (t, a.length + 8) := by
  unfold longP
  rw [takeP_mid (beB_len _ _)]
  show Except.ok (i64N (beN (beB (m64 t) 8)), _) = _
  rw [beN_beB]
  unfold wfI at h
  have : i64N (m64 t % 256 ^ 8) = t := by unfold i64N m64; split <;> omega
  rw [this]
theorem sizeP_mid {a c : Bs} (n m : Nat) (h : n ≤ m) (hm : m ≤ 1048576) : sizeP (a ++ (beB n 4 ++ c)) m a.length = .ok (n, a.length + 4) := by
  have h1 := intP_mid (a := a) (c := c) (n : Int) (by omega)
  have h2 : m32 (n : Int) = n := by unfold m32; omega
  rw [h2] at h1
  exact sizeP_fit h1 (by omega)
theorem bytesP_mid {a b c : Bs} (m : Nat) (h : b.length ≤ m) (hm : m ≤ 1048576) : bytesP (a ++ (beB b.length 4 ++ (b ++ c))) m a.length = .ok (b, a.length + 4 + b.length) := by
  unfold bytesP
  rw [sizeP_mid b.length m h hm]
  show (if _ then _ else _) = _
  rw [if_neg (by simp [beB_len]; omega)]
  congr 2
  have e : a ++ (beB b.length 4 ++ (b ++ c)) = (a ++ beB b.length 4) ++ (b ++ c) := by simp
  rw [e, List.drop_left' (by rw [List.length_append, beB_len]), List.take_left' rfl]
theorem textP_mid {a c : Bs} (s : ByteArray) (h : s.size ≤ 256) (hv : Lib.validD s.data.toList = true) : textP (a ++ (txtB s ++ c)) 256 a.length = .ok (s.data.toList, a.length + (txtB s).length) := by
  unfold textP txtB
  have h1 : s.data.toList.length = s.size := by simp
  rw [List.append_assoc, ← h1, bytesP_mid 256 (by rw [h1]; exact h) (by decide)]
  show (if _ then _ else _) = _
  rw [if_pos hv]
  congr 2
  rw [List.length_append, beB_len]; omega
theorem idP_mid {a c : Bs} (x : IdV) (h1 : x.1.size ≤ 256) (h2 : x.2.size ≤ 256) (v1 : Lib.validD x.1.data.toList = true) (v2 : Lib.validD x.2.data.toList = true) : idP (a ++ (idB x ++ c)) a.length = .ok ((x.1.data.toList, x.2.data.toList), a.length + (idB x).length) := by
  unfold idP idB
  have e1 : a ++ ((txtB x.1 ++ txtB x.2) ++ c) = a ++ (txtB x.1 ++ (txtB x.2 ++ c)) := by simp
  rw [e1, textP_mid x.1 h1 v1]
  show (textP _ 256 _).then _ = _
  have e2 : a ++ (txtB x.1 ++ (txtB x.2 ++ c)) = (a ++ txtB x.1) ++ (txtB x.2 ++ c) := by simp
  rw [e2, ← List.length_append, textP_mid x.2 h2 v2]
  show Except.ok _ = _
  congr 2
  simp; omega
/-- may identities be read back? -/
def idRead (x : IdV) : Prop := x.1.size ≤ 256 ∧ x.2.size ≤ 256 ∧ Lib.validD x.1.data.toList = true ∧ Lib.validD x.2.data.toList = true
theorem repP_mid : ∀ (ids : List IdV) (a c : Bs), (∀ x ∈ ids, idRead x) → repP (idP (a ++ (ids.flatMap idB ++ c))) ids.length a.length = .ok (ids.map fun x => (x.1.data.toList, x.2.data.toList), a.length + (ids.flatMap idB).length)
  | [], a, c, _ => by simp [repP]
  | x :: r, a, c, h => by
    obtain ⟨h1, h2, v1, v2⟩ := h x (by simp)
    have e1 : a ++ ((x :: r).flatMap idB ++ c) = a ++ (idB x ++ (r.flatMap idB ++ c)) := by simp
    rw [e1]
    show (idP _ a.length).then _ = _
    rw [idP_mid x h1 h2 v1 v2]
    show (repP _ r.length _).then _ = _
    have e2 : a ++ (idB x ++ (r.flatMap idB ++ c)) = (a ++ idB x) ++ (r.flatMap idB ++ c) := by simp
    rw [e2, ← List.length_append, repP_mid r (a ++ idB x) c fun y hy => h y (by simp [hy])]
    show Except.ok _ = _
    congr 2
    simp; omega
theorem idB_min (ids : List IdV) : 8 * ids.length ≤ (ids.flatMap idB).length := by
  induction ids with
  | nil => simp
  | cons x r ih => rw [List.flatMap_cons, List.length_append, idB_len, List.length_cons]; omega
theorem sesP_back (i t : Int) (ids : List IdV) (hi : wfI i) (ht : -2147483648 ≤ t ∧ t ≤ 2147483647) (hn : ids.length ≤ 16) (h : ∀ x ∈ ids, idRead x) :
    sesP (sesB i t ids) 0 = .ok ((i, t, ids.map fun x => (x.1.data.toList, x.2.data.toList)), (sesB i t ids).length) := by
  unfold sesP sesB
  have h1 := longP_mid (a := []) (c := beB (m32 t) 4 ++ (beB ids.length 4 ++ ids.flatMap idB)) i hi
  rw [List.nil_append] at h1
  rw [List.length_nil] at h1
  rw [h1, then_ok, Nat.zero_add]
  have h2 := intP_mid (a := beB (m64 i) 8) (c := beB ids.length 4 ++ ids.flatMap idB) t ht
  rw [beB_len] at h2
  rw [h2, then_ok]
  have h3 := sizeP_mid (a := beB (m64 i) 8 ++ beB (m32 t) 4) (c := ids.flatMap idB) ids.length 16 hn (by decide)
  rw [List.length_append, beB_len, beB_len, List.append_assoc] at h3
  unfold listP
  have hmin := idB_min ids
  rw [countP_k h3, if_neg (by
    rintro ⟨_, h4⟩
    simp only [List.length_append, beB_len] at h4
    have h5 : ids.length ≤ (8 + (4 + (4 + (ids.flatMap idB).length)) - (8 + 4 + 4)) / 8 := (Nat.le_div_iff_mul_le (by decide)).2 (by omega)
    omega)]
  rw [then_ok]
  have h4 := repP_mid ids (beB (m64 i) 8 ++ (beB (m32 t) 4 ++ beB ids.length 4)) [] h
  simp only [List.length_append, beB_len, List.append_nil, List.append_assoc] at h4
  rw [h4, then_ok]
  congr 2
  simp only [List.length_append, beB_len]
  omega
end Go.Proofs.YtbpmmmnphpkdjaaGreatDoor
namespace Go.Proofs.YtbpmmmnphpkdjaaGreatDoor
theorem textOk_read {s : ByteArray} (h : textOk s = true) : s.size ≤ 256 ∧ Lib.validD s.data.toList = true := by
  unfold textOk at h
  simp only [Bool.and_eq_true, decide_eq_true_eq] at h
  refine ⟨h.1.1.2, ?_⟩
  have := h.1.2
  unfold validFrom at this
  rwa [List.drop_zero] at this
theorem identP_read {x : IdV} (h : identP x = true) : idRead x := by
  unfold identP at h
  simp only [Bool.and_eq_true] at h
  obtain ⟨a, b⟩ := textOk_read h.1.1
  obtain ⟨c, d⟩ := textOk_read h.1.2
  exact ⟨a, c, b, d⟩
theorem idsOk_read {l : List IdV} (h : idsOk l) : ∀ x ∈ l, idRead x := by
  intro x hx
  obtain ⟨i, hi, rfl⟩ := List.mem_iff_getElem.1 hx
  have := (h i hi).1
  rw [getElem!_pos l i hi] at this
  exact identP_read this
theorem toBA_back (s : ByteArray) : toBA s.data.toList = s := by
  unfold toBA
  rfl
theorem idV_back (l : List IdV) : (l.map fun x => (x.1.data.toList, x.2.data.toList)).map idV = l := by
  rw [List.map_map]
  induction l with
  | nil => rfl
  | cons x r ih => rw [List.map_cons, ih]; rfl
/-- what is written of a right session is read back -/
theorem right_back {i t : Int} {ids : List IdV} (h : rightS (i, t, ids)) (hi : wfI i) :
    sesP (sesB i t ids) 0 = .ok ((i, t, ids.map fun x => (x.1.data.toList, x.2.data.toList)), (sesB i t ids).length) := by
  obtain ⟨_, h2, h3, h4, h5⟩ := h
  exact sesP_back i t ids hi (by simp only at h2 h3; omega) h4 (idsOk_read h5)
end Go.Proofs.YtbpmmmnphpkdjaaGreatDoor
namespace Go.Proofs.YtbpmmmnphpkdjaaGreatDoor
open Go.RowKit Go.MapKept Go.Maps
theorem row_ge {w : World} {base n c k : Nat} {T : TypeId} {A : Option Addr} {xs : List Value} (h : w.ownsRow base T k (.slice A n c) n xs) {a : Addr} (ha : A = some a) : base ≤ a.block := by
  subst ha
  rcases h.2 with h0 | ⟨g, cap, cur, e, hge, _⟩
  · cases h0.1
  · injection e with e _ _
    injection e with e
    rw [e]; exact hge
theorem rf_new {w : World} {A : Option Addr} {n c : Nat} {l : Bs} (h : ArgB w A n c l) : Rf (w.alloc (.cells #[.slice A n c, .int .i64 0, .int .i64 0] 121)) w.heap.size A n c l 0 0 :=
  ⟨heap_alloc_new w _, h.1.below ((Below.refl _ w).alloc (Nat.le_refl _) _), Nat.zero_le _, h.2.2.1, h.2.2.2, h.2.1⟩
/-- a Writer that has nothing, later -/
theorem WrB.start {w w' : World} (hb : Below (w.alloc (.cells #[.slice none 0 0] 109)).heap.size (w.alloc (.cells #[.slice none 0 0] 109)) w') : WrB w' w.heap.size w'.heap.size [] := by
  have hs : (w.alloc (.cells #[.slice none 0 0] 109)).heap.size = w.heap.size + 1 := by simp
  have h1 := hb.size
  exact ⟨by omega, Nat.le_refl _, none, 0, (hb.block w.heap.size (by omega)).trans (heap_alloc_new w _), World.ownsRow_nil _ _ _ _⟩
theorem flat_len2 {α : Type} [Inhabited α] (f : α → Bs) (zs : List α) (m : Nat) (h : ∀ j, j < zs.length → (f zs[j]!).length ≤ m) : (zs.flatMap f).length ≤ zs.length * m := by
  have := flat_small f zs m h zs.length (Nat.le_refl _)
  rwa [List.take_length] at this
theorem SesOk.bytes8 {w : World} {i tm : Int} {A : Option Addr} {n c : Nat} {l : List IdV} (h : SesOk w (i, tm, A, n, c) l 1048576) : (sesB i tm l).length ≤ 70368744177664 := by
  have hl : l.length = n := h.2.2.1.len
  have hn : n ≤ 1048576 := h.2.2.2.2.1
  have h1 := flat_len2 idB l 2097164 (fun j hj => by have := h.2.2.2.2.2 j (by rw [hl] at hj; exact hj); rw [idB_len]; omega)
  rw [hl] at h1
  unfold sesB
  rw [List.length_append, List.length_append, List.length_append, beB_len, beB_len, beB_len]
  have : n * 2097164 ≤ 1048576 * 2097164 := Nat.mul_le_mul_right _ hn
  omega
theorem repP_len {α : Type} {f : Nat → PR α} : ∀ (n p : Nat) {xs : List α} {q : Nat}, repP f n p = .ok (xs, q) → xs.length = n
  | 0, p, xs, q, h => by
    injection h with h
    injection h with h _
    rw [← h]; rfl
  | n + 1, p, xs, q, h => by
    have h1 : ((f p).then fun x a => (repP f n a).then fun l b => .ok (x :: l, b)) = .ok (xs, q) := h
    rcases hf : f p with e | ⟨x, a⟩
    · rw [hf] at h1; cases h1
    · rw [hf] at h1
      rcases hr : repP f n a with e | ⟨l, b⟩
      · have h2 : ((repP f n a).then fun l b => (.ok (x :: l, b) : PR (List α))) = .ok (xs, q) := h1
        rw [hr] at h2; cases h2
      · have h2 : ((repP f n a).then fun l b => (.ok (x :: l, b) : PR (List α))) = .ok (xs, q) := h1
        rw [hr] at h2
        injection h2 with h2
        injection h2 with h2 _
        rw [← h2, List.length_cons, repP_len n a hr]
theorem listP_len {α : Type} {l : Bs} {m k p q : Nat} {f : Nat → PR α} {xs : List α} (h : listP l m k f p = .ok (xs, q)) : xs.length ≤ m := by
  unfold listP at h
  rcases hc : countP l m k p with e | ⟨n, a⟩
  · rw [hc] at h; cases h
  · rw [hc] at h
    have h2 : repP f n a = .ok (xs, q) := h
    rw [repP_len n a h2]
    exact (countP_ok hc).2
theorem sesP_len {l : Bs} {p q : Nat} {v : SesB} (h : sesP l p = .ok (v, q)) : v.2.2.length ≤ 16 := by
  unfold sesP at h
  rcases h1 : longP l p with e | ⟨i, a⟩
  · rw [h1] at h; cases h
  · rw [h1] at h
    change PR.then (intP l a) _ = _ at h
    rcases h2 : intP l a with e | ⟨t, b⟩
    · rw [h2] at h; cases h
    · rw [h2] at h
      change PR.then (listP l 16 8 (idP l) b) _ = _ at h
      rcases h3 : listP l 16 8 (idP l) b with e | ⟨xs, c⟩
      · rw [h3] at h; cases h
      · rw [h3] at h
        injection h with h
        injection h with h _
        subst h
        exact listP_len h3
theorem right_short {i tm : Int} {l : List IdV} (h : rightS (i, tm, l)) : (sesB i tm l).length ≤ 1048576 := by
  obtain ⟨_, _, _, h4, h5⟩ := h
  have h1 := flat_len2 idB l 520 (fun j hj => by
    have := idsOk_read h5 l[j]! (by rw [getElem!_pos l j hj]; exact List.getElem_mem hj)
    have a := this.1
    have b := this.2.1
    rw [idB_len]; omega)
  unfold sesB
  rw [List.length_append, List.length_append, List.length_append, beB_len, beB_len, beB_len]
  simp only at h4
  have : l.length * 520 ≤ 16 * 520 := Nat.mul_le_mul_right _ h4
  omega
theorem Row8.arg {w : World} {b n c : Nat} {A : Option Addr} {l : Bs} (h : Row8 w b A n c l) (hl : l.length = n) (hn : n ≤ 1048576) : ArgB w A n c l := by
  refine ⟨Row8.sl h hl, fun e => ?_, hn, ?_⟩
  · subst e
    rcases h with ⟨_, ⟨e, e2⟩ | ⟨g, cap, cur, e, _⟩⟩
    · injection e with _ e3 e4; exact ⟨e2, e4⟩
    · injection e with e _; cases e
  · rcases h with ⟨_, ⟨e, e2⟩ | ⟨g, cap, cur, e, _, _, h5, _⟩⟩
    · exact Nat.le_trans (Nat.le_of_eq e2) (Nat.zero_le _)
    · injection e with _ _ e4; rw [← e4] at h5; exact h5
theorem no8_b (k : Int) (w : World) : Calls Tryz.prog 54 #[.int .i64 k] w fun e w' => e = .returned (.int .i64 k) ∧ Below w.heap.size w w' := by
  go_enter Tryz.func54, Tryz.ntmps54
  go_wp2
  go_ret
  exact ⟨rfl, Below.refl _ _⟩
end Go.Proofs.YtbpmmmnphpkdjaaGreatDoor
