/- The walk of a table's Equal at nil; stores into a row of one's own. No condition. The document's table against the table's: what they say is the same. No program. Scripts of calls on a table that came in. No condition. What SessionTables keeps: the table, the document's table, the old ones; who writes what. No program. The calls of SessionTables, each in the state that it keeps. Conditions: fewer than 2^20 sessions, int64 ids. More of SessionTables' calls in the state that it keeps: the script's end. Condition: fewer than 2^20 sessions. -/
import Derived.Test.YtfnigjeklcagnaaGreatDoorTabE
import Derived.Test.YtfnigjeklcagnaaGreatDoorTabC
import Derived.Test.YtfnigjeklcagnaaGreatDoorRefE
import Derived.Test.YtfnigjeklcagnaaGreatDoorOrdK
import Derived.Test.YtfnigjeklcagnaaGreatDoorOpenS2
import Derived.Test.YtfnigjeklcagnaaGreatDoorBeat
import Derived.Test.YtfnigjeklcagnaaGreatDoorTabL
import Derived.Test.YtfnigjeklcagnaaGreatDoorTabK
import Derived.Test.YtfnigjeklcagnaaGreatDoorTabS
namespace Go.Proofs.YtfnigjeklcagnaaGreatDoor
open Go.RowKit Go.MapKept Go.Maps
set_option maxRecDepth 100000 in
theorem equalNil_any (bt : Nat) (w : World) :
    Calls Tryz.prog 28 #[.pointer (some ⟨bt, 0, none⟩), .pointer none] w fun e w' => e = .returned (.bool false) ∧ w' = w := by
  go_enter Tryz.func28, Tryz.ntmps28
  go_wp2_with fail
  go_ret
  exact ⟨rfl, rfl⟩
/-- block g can be written: m cells -/
def MkB (w : World) (g m : Nat) (T : TypeId) : Prop := ∃ cs, w.heap[g]? = some (.cells cs T (0, 0)) ∧ m ≤ cs.size
theorem MkB.frozen {w : World} {g m o : Nat} {T : TypeId} (h : MkB w g m T) : w.frozen? ⟨g, o, none⟩ = false := by
  obtain ⟨cs, h, _⟩ := h
  simp [World.frozen?, h]
theorem MkB.cell {w : World} {g m o : Nat} {T : TypeId} (h : MkB w g m T) (ho : o < m) : ∃ v, w.cell? ⟨g, o, none⟩ = some v := by
  obtain ⟨cs, h, hm⟩ := h
  exact ⟨cs[o]'(by omega), by rw [cellH h]; exact Array.getElem?_eq_getElem (by omega)⟩
theorem MkB.set {w : World} {g m : Nat} {T : TypeId} (h : MkB w g m T) (o : Nat) (v : Value) : MkB (w.setCell ⟨g, o, none⟩ v) g m T := by
  obtain ⟨cs, h, hm⟩ := h
  exact ⟨_, heap_setN h v, by simpa using hm⟩
theorem MkB.below {w w' : World} {g m : Nat} {T : TypeId} (h : MkB w g m T) (hb : Below w.heap.size w w') : MkB w' g m T := by
  obtain ⟨cs, h, hm⟩ := h
  exact ⟨cs, (hb.block g (Array.getElem?_eq_some_iff.1 h).1).trans h, hm⟩
theorem MkB.fr {w w' : World} {g m : Nat} {T : TypeId} {own : List Nat} (h : MkB w g m T) (hf : Fr own w w') (hg : g ∉ own) : MkB w' g m T := by
  obtain ⟨cs, h, hm⟩ := h
  exact ⟨cs, (hf.block g (Array.getElem?_eq_some_iff.1 h).1 hg).trans h, hm⟩
/-- a row of one's own can be written: its block, or (no elements) a block that is not there yet -/
def MkS (w W : World) (base : Nat) (A : Option Addr) (n k : Nat) (T : TypeId) (g : Nat) : Prop := ((base ≤ g ∧ g < w.heap.size) ∨ g = W.heap.size) ∧ (0 < n → A = some ⟨g, 0, none⟩ ∧ MkB W g (n * k) T)
theorem own_mk {w W : World} {base n k c : Nat} {T : TypeId} {A : Option Addr} {xs : List Value} {own : List Nat} (h : w.ownsRow base T k (.slice A n c) n xs) (hf : Fr own w W) (ho : ∀ g ∈ own, g < base ∨ w.heap.size ≤ g) : ∃ g, MkS w W base A n k T g := by
  rcases h.2 with ⟨_, e⟩ | ⟨g, cap, cur, e1, h2, h3, h4, _, h5, _⟩
  · exact ⟨W.heap.size, .inr rfl, fun h0 => absurd h0 (by omega)⟩
  · injection e1 with e1
    have hl := (Array.getElem?_eq_some_iff.1 h3).1
    refine ⟨g, .inl ⟨h2, hl⟩, fun _ => ⟨e1, ?_⟩⟩
    exact MkB.fr ⟨cur, h3, by rw [h5]; exact Nat.mul_le_mul_right _ h4⟩ hf (fun hm => by have := ho g hm; omega)
/-- the marks of a loop: k of them are written -/
def MkR (W : World) (g m : Nat) (T : TypeId) (b : Prop) (n : Nat) (i : Value) (wr : World) : Prop := ∃ k : Nat, i = .int .i64 ↑k ∧ k ≤ n ∧ (b → MkB wr g m T) ∧ Fr [g] W wr
end Go.Proofs.YtfnigjeklcagnaaGreatDoor
namespace Go.Proofs.YtfnigjeklcagnaaGreatDoor
def Rise (R : List SesP) : Prop := R.Pairwise (fun a b => a.1 < b.1)
/-- the document's list of a table -/
def TR (T R : List SesP) : Prop := T.Perm R ∧ Rise R
section
variable {T R : List SesP} {i : Int} {k : Nat} {b : Bool}
theorem at_lt (hA : AtT R i k) : ∀ x ∈ R.take k, x.1 < i := fun x hx => by
  obtain ⟨j, hj, rfl⟩ := List.mem_iff_getElem.1 hx
  rw [List.length_take] at hj
  have := hA.2.1 j (by omega)
  rw [getElem!_pos R j (by omega)] at this
  rw [List.getElem_take]; exact this
theorem at_ge (hr : Rise R) (hA : AtT R i k) (hB : AtB R i k false) : ∀ x ∈ R.drop k, i < x.1 := fun x hx => by
  rcases hA.2.2 with e | ⟨hk, hle⟩
  · rw [List.drop_eq_nil_iff.2 (by omega)] at hx; cases hx
  · have hne : (R[k]!).1 ≠ i := fun e => by have := hB.2 ⟨hk, e⟩; cases this
    rw [getElem!_pos R k hk] at hle hne
    have hd : Rise (R.drop k) := hr.sublist (List.drop_sublist k R)
    rw [List.drop_eq_getElem_cons hk] at hx hd
    rcases List.mem_cons.1 hx with rfl | hx
    · omega
    · have := (List.pairwise_cons.1 hd).1 x hx
      omega
theorem at_gt (hr : Rise R) (hB : AtB R i k true) : ∃ s : SesP, s.1 = i ∧ R.drop k = s :: R.drop (k + 1) ∧ ∀ x ∈ R.drop (k + 1), i < x.1 := by
  obtain ⟨hk, e⟩ := hB.1 rfl
  rw [getElem!_pos R k hk] at e
  refine ⟨R[k], e, List.drop_eq_getElem_cons hk, fun x hx => ?_⟩
  have hd : Rise (R.drop k) := hr.sublist (List.drop_sublist k R)
  rw [List.drop_eq_getElem_cons hk] at hd
  have := (List.pairwise_cons.1 hd).1 x hx
  omega
theorem at_mem (hr : Rise R) (hA : AtT R i k) (hB : AtB R i k b) : b = true ↔ i ∈ R.map (·.1) := by
  cases b with
  | true =>
    obtain ⟨hk, e⟩ := hB.1 rfl
    rw [getElem!_pos R k hk] at e
    exact ⟨fun _ => List.mem_map.2 ⟨R[k], List.getElem_mem _, e⟩, fun _ => rfl⟩
  | false =>
    refine ⟨fun h => absurd h (by decide), fun h => ?_⟩
    obtain ⟨x, hx, e⟩ := List.mem_map.1 h
    rw [← List.take_append_drop k R] at hx
    rcases List.mem_append.1 hx with hx | hx
    · have := at_lt hA x hx; omega
    · have := at_ge hr hA hB x hx; omega
theorem tr_mem (h : TR T R) (i : Int) : i ∈ T.map (·.1) ↔ i ∈ R.map (·.1) := (h.1.map _).mem_iff
theorem rise_take (hr : Rise R) : Rise (R.take k) := hr.sublist (List.take_sublist k R)
theorem rise_drop (hr : Rise R) : Rise (R.drop k) := hr.sublist (List.drop_sublist k R)
theorem tr_open {s : SesP} (h : TR T R) (hA : AtT R s.1 k) (hB : AtB R s.1 k false) : TR (T ++ [s]) (R.take k ++ [s] ++ R.drop k) := by
  refine ⟨?_, ?_⟩
  · have h1 : (T ++ [s]).Perm (s :: R) := List.perm_append_singleton s T |>.trans (List.Perm.cons s h.1)
    have h2 : (s :: R).Perm (R.take k ++ (s :: R.drop k)) := by
      have : (s :: R).Perm (s :: (R.take k ++ R.drop k)) := by rw [List.take_append_drop]
      exact this.trans List.perm_middle.symm
    rw [List.append_assoc]
    exact h1.trans h2
  · rw [List.append_assoc]
    refine List.pairwise_append.2 ⟨rise_take h.2, List.pairwise_cons.2 ⟨fun x hx => at_ge h.2 hA hB x hx, rise_drop h.2⟩, fun x hx y hy => ?_⟩
    have h1 := at_lt hA x hx
    rcases List.mem_cons.1 hy with rfl | hy
    · exact h1
    · have := at_ge h.2 hA hB y hy
      omega
theorem tr_close (h : TR T R) (hA : AtT R i k) (hB : AtB R i k b) : TR (closeT T i) (if b then R.take k ++ R.drop (k + 1) else R) := by
  have hp : (closeT T i).Perm (R.filter fun s => decide (s.1 ≠ i)) := h.1.filter _
  cases b with
  | true =>
    rw [if_pos rfl]
    obtain ⟨s, e1, e2, e3⟩ := at_gt h.2 hB
    have e : R.filter (fun s => decide (s.1 ≠ i)) = R.take k ++ R.drop (k + 1) := by
      have h0 : R = R.take k ++ (s :: R.drop (k + 1)) := by rw [← e2, List.take_append_drop]
      rw [show R.filter (fun s => decide (s.1 ≠ i)) = (R.take k ++ (s :: R.drop (k + 1))).filter (fun s => decide (s.1 ≠ i)) by rw [← h0]]
      rw [List.filter_append, List.filter_cons_of_neg (by simpa using e1), List.filter_eq_self.2 (fun x hx => by have := at_lt hA x hx; simp; omega), List.filter_eq_self.2 (fun x hx => by have := e3 x hx; simp; omega)]
    refine ⟨by rw [← e]; exact hp, ?_⟩
    rw [← e]
    exact h.2.filter _
  | false =>
    rw [if_neg (by decide)]
    refine ⟨hp.trans (by rw [List.filter_eq_self.2]; intro x hx; have hne : x.1 ≠ i := fun e => by have := (at_mem h.2 hA hB).2 (List.mem_map.2 ⟨x, hx, e⟩); cases this
                         simpa using hne), h.2⟩
open Classical in
theorem tr_openC {s : SesP} (h : TR T R) (hs : rightS s) (hA : AtT R s.1 k) (hB : AtB R s.1 k b) : openC T s = (if b then 80 else 0) ∧ TR (openT T s) (if b then R else R.take k ++ [s] ++ R.drop k) := by
  unfold openC openT
  rw [if_pos hs, if_pos hs]
  have hm := (at_mem h.2 hA hB).trans (tr_mem h s.1).symm
  cases b with
  | true =>
    rw [if_pos (hm.1 rfl), if_pos (hm.1 rfl)]
    exact ⟨rfl, h⟩
  | false =>
    have hn : s.1 ∉ T.map (·.1) := fun hh => by have := hm.2 hh; cases this
    rw [if_neg hn, if_neg hn]
    exact ⟨rfl, tr_open h hA hB⟩
open Classical in
theorem tr_bad {s : SesP} (hs : ¬ rightS s) : openC T s = 1 ∧ openT T s = T := by
  unfold openC openT
  rw [if_neg hs, if_neg hs]
  exact ⟨rfl, rfl⟩
theorem tr_closeC (h : TR T R) (hA : AtT R i k) (hB : AtB R i k b) : closeC T i = (if b then 0 else 80) := by
  unfold closeC
  have hm := (at_mem h.2 hA hB).trans (tr_mem h i).symm
  cases b with
  | true => rw [if_pos (hm.1 rfl)]; rfl
  | false => rw [if_neg fun hh => by have := hm.2 hh; cases this]; rfl
theorem rise_one (h : Rise R) : (R.map (·.1)).Nodup := List.pairwise_map.2 (h.imp fun hlt e => by omega)
theorem tr_get {p z : SesP} {b' : Bool} (h : TR T R) (hg : (b = true ∧ p ∈ T ∧ p.1 = i) ∨ (b = false ∧ i ∉ T.map (·.1) ∧ p = (0, 0, [])))
    (hz : (b' = true ∧ z ∈ R ∧ z.1 = i) ∨ (b' = false ∧ (∃ k, AtT R i k ∧ AtB R i k false) ∧ z = (0, 0, []))) : b = b' ∧ p = z := by
  rcases hg with ⟨rfl, h1, h2⟩ | ⟨rfl, h1, rfl⟩ <;> rcases hz with ⟨rfl, g1, g2⟩ | ⟨rfl, ⟨k, g1, g2⟩, rfl⟩
  · exact ⟨rfl, fst_inj (rise_one h.2) (h.1.mem_iff.1 h1) g1 (h2.trans g2.symm)⟩
  · have hm := (at_mem h.2 g1 g2).2 ((tr_mem h i).1 (List.mem_map.2 ⟨p, h1, h2⟩))
    cases hm
  · exact absurd ((tr_mem h i).2 (List.mem_map.2 ⟨z, g1, g2⟩)) h1
  · exact ⟨rfl, rfl⟩
theorem tr_list {Z : List EntV} (h : TR T R) (h1 : (Z.map toP).Perm T) (h2 : (Z.map toP).Pairwise (fun a b => a.1 < b.1)) : Z.map toP = R :=
  strict_ext (R := fun a b : SesP => a.1 < b.1) (fun a b h h' => by omega) _ _ h2 h.2 fun x => (h1.trans h.1).mem_iff
theorem tr_eq {T' R' : List SesP} (h : TR T R) (h' : TR T' R') : T.Perm T' ↔ R = R' :=
  ⟨fun hp => strict_ext (R := fun a b : SesP => a.1 < b.1) (fun a b h h' => by omega) _ _ h.2 h'.2 fun x => (h.1.symm.trans (hp.trans h'.1)).mem_iff,
   fun e => by subst e; exact h.1.trans h'.1.symm⟩
end
end Go.Proofs.YtfnigjeklcagnaaGreatDoor
namespace Go.Proofs.YtfnigjeklcagnaaGreatDoor
open Go.RowKit Go.WideShapes
set_option maxRecDepth 100000
/-- one call of a script: its kind, an id, a session; and the session's identities -/
abbrev OpC := Int × Int × SesV
abbrev OpV := OpC × List IdV
def encO (z : OpC) : List Value := [.int .i64 z.1, .int .i64 z.2.1, .int .i64 z.2.2.1, .int .i32 z.2.2.2.1, .slice z.2.2.2.2.1 z.2.2.2.2.2.1 z.2.2.2.2.2.2]
def ArgO (w : World) (A : Option Addr) (n : Nat) (Z : List OpV) : Prop := Z.length = n ∧ ∀ j, j < n → (∃ b off, A = some ⟨b, off, none⟩ ∧ w.cell? ⟨b, off + j * 5, none⟩ = some (.int .i64 Z[j]!.1.1) ∧ w.cell? ⟨b, off + j * 5 + 1, none⟩ = some (.int .i64 Z[j]!.1.2.1) ∧
  w.cell? ⟨b, off + j * 5 + 2, none⟩ = some (.int .i64 Z[j]!.1.2.2.1) ∧ w.cell? ⟨b, off + j * 5 + 3, none⟩ = some (.int .i32 Z[j]!.1.2.2.2.1) ∧ w.cell? ⟨b, off + j * 5 + 4, none⟩ = some (.slice Z[j]!.1.2.2.2.2.1 Z[j]!.1.2.2.2.2.2.1 Z[j]!.1.2.2.2.2.2.2)) ∧ wfI Z[j]!.1.2.1 ∧ SesOk w Z[j]!.1.2.2 Z[j]!.2 1048576
theorem ArgO.below {w w' : World} {A : Option Addr} {n : Nat} {Z : List OpV} (h : ArgO w A n Z) (hb : Below w.heap.size w w') : ArgO w' A n Z :=
  ⟨h.1, fun j hj => by
    obtain ⟨⟨b, off, e, x0, x1, x2, x3, x4⟩, h2, h3⟩ := h.2 j hj
    exact ⟨⟨b, off, e, keep1 x0 hb, keep1 x1 hb, keep1 x2 hb, keep1 x3 hb, keep1 x4 hb⟩, h2, h3.below hb⟩⟩
section
variable {H : Type} {enc : TypeId × Value → H} {w : World} {base : Nat} {spare : Nat → Bool} {held : Bool}
theorem trod_op {fuel : Nat} {cs : List Value} {x : DataW H × List MemPlace} (h : DataW.trod enc Tryz.prog w base spare held fuel 70 cs = some x) :
    ∃ z : OpC, cs = encO z ∧ wfI z.2.1 ∧ ∃ l, SesOk w z.2.2 l (Rows.uptoBulk x.1) := by
  obtain ⟨ys, n, _, rfl, hlen, hyl, hf⟩ := DataW.trod_struct Tryz.underlying70 h
  have hc : Tryz.prog.cellsOf 70 = 5 := by kernel_rfl
  have h1 : Tryz.prog.cellsOf 3 = 1 := by kernel_rfl
  have h2 : Tryz.prog.cellsOf 2 = 1 := by kernel_rfl
  have h3 : Tryz.prog.cellsOf 56 = 3 := by kernel_rfl
  rw [hc] at hlen
  match cs, hlen with
  | [a, b, c, d, e], _ =>
    match ys, hyl with
    | [y0, y1, y2], _ =>
      have g0 : DataW.trod enc Tryz.prog w base spare held n 3 (List.take (Tryz.prog.cellsOf 3) [a, b, c, d, e]) = some y0 := hf 0 _ rfl
      have g1 : DataW.trod enc Tryz.prog w base spare held n 2 (List.take (Tryz.prog.cellsOf 2) [b, c, d, e]) = some y1 := hf 1 _ rfl
      have g2 : DataW.trod enc Tryz.prog w base spare held n 56 (List.take (Tryz.prog.cellsOf 56) [c, d, e]) = some y2 := hf 2 _ rfl
      rw [h1] at g0
      rw [h2] at g1
      rw [h3] at g2
      simp only [List.take_succ_cons, List.take_zero] at g0 g1 g2
      obtain ⟨p0, e0, _, w0⟩ := DataW.trod_int Tryz.underlying3 g0
      obtain ⟨p1, e1, _, w1⟩ := DataW.trod_int Tryz.underlying2 g1
      obtain ⟨⟨i, tm, A, k, cp⟩, e2, l, hz⟩ := trod_sess g2
      injection e0 with e0; injection e1 with e1
      injection e2 with e2 e3; injection e3 with e3 e4; injection e4 with e4
      subst e0 e1 e2 e3 e4
      have hb : Rows.uptoBulk y2.1 ≤ Rows.uptoBulk (DataW.agg ([y0, y1, y2].map (·.1))) := by simp [Rows.uptoBulk, Rows.uptoBulkAll]; omega
      exact ⟨(p0, p1, i, tm, A, k, cp), rfl, wf_i64 w1, l, hz.mono hb⟩
theorem open_ops {v : Value} {d : DataW H} {ps : List MemPlace} {b0 : Nat} (hval : Value.okWide Tryz.prog w .any b0 65 v) (h : DataW.Trod enc Tryz.prog w base spare held 65 v d ps) (hb : Rows.uptoBulk d ≤ 1048576) :
    ∃ A n c Z, v = .slice A n c ∧ ArgO w A n Z ∧ n ≤ 1048576 := by
  obtain ⟨A, n, c, l, e, h1, h2, h3, h4⟩ := open_rows (enc0 := encO) (k := 5) Tryz.underlying65 (by kernel_rfl) (by decide) (fun (z : OpC) m => wfI z.2.1 ∧ ∃ l, SesOk w z.2.2 l m) (fun _ _ x hx => trod_op hx) (fun _ _ _ hab hz => by
    obtain ⟨h, l, hz⟩ := hz
    exact ⟨h, l, hz.mono hab⟩) hval h
  obtain ⟨I, hI⟩ : ∃ I : Nat → List IdV, ∀ j, j < n → SesOk w l[j]!.2.2 (I j) 1048576 := by
    classical
    refine ⟨fun j => if h : j < n then (h4 j h).2.choose else [], fun j hj => ?_⟩
    simp only [dif_pos hj]
    exact (h4 j hj).2.choose_spec.mono hb
  have hget : ∀ j, j < n → ((List.range n).map fun j => ((l[j]!, I j) : OpV))[j]! = (l[j]!, I j) := fun j hj => by
    rw [getElem!_pos _ _ (by simpa using hj)]; simp
  refine ⟨A, n, c, (List.range n).map fun j => (l[j]!, I j), e, ⟨by simp, fun j hj => ?_⟩, Nat.le_trans h3 hb⟩
  rw [hget j hj]
  obtain ⟨b, off, e2, _, hc⟩ := h1.cells hj
  exact ⟨⟨b, off, e2, hc 0 _ rfl, hc 1 _ rfl, hc 2 _ rfl, hc 3 _ rfl, hc 4 _ rfl⟩, (h4 j hj).1, hI j hj⟩
end
end Go.Proofs.YtfnigjeklcagnaaGreatDoor
namespace Go.Proofs.YtfnigjeklcagnaaGreatDoor
open Go.RowKit Go.MapKept Go.Maps
theorem RowId.ses2 {w : World} {b n c : Nat} {A : Option Addr} {i tm : Int} {l : List IdV} (h : RowId w b A n c l) (hi : wfI i) (ht : -2147483648 ≤ tm ∧ tm ≤ 2147483647) (hl : l.length = n) (hn : n ≤ 1048576) (hs : SmallI l n 1048576) : SesOk w (i, tm, A, n, c) l 1048576 := by
  refine ⟨hi, ht, Sl.of_own (fun _ => rfl) h hl, ?_, hn, hs⟩
  rcases h.2 with ⟨e, e2⟩ | ⟨g, cap, cur, e, _, _, h3, _⟩
  · injection e with e5 e6 e7
    exact ⟨fun _ => ⟨e2, e7⟩, by simp only; omega⟩
  · injection e with e5 e6 e7
    subst e7
    exact ⟨(fun hh => by rw [show A = some ⟨g, 0, none⟩ from e5] at hh; cases hh), h3⟩
theorem Tab.lt2 {w : World} {bt : Nat} {T : List SesP} {own : List Nat} (h : Tab w bt T own) : ∀ g ∈ own, g < w.heap.size := by
  obtain ⟨bm, E, h, _⟩ := h
  exact h.lt
def AllG (own ro owno wo : List Nat) (g : Nat) : Prop := g ∈ own ∨ g ∈ ro ∨ g ∈ owno ∨ g ∈ wo
structure TbS (base rb bt bo wb : Nat) (T R To Ro : List SesP) (own ro owno wo : List Nat) (w : World) : Prop where
  t : Tab w bt T own
  r : RefTab w R rb ro
  o : Tab w bo To owno
  s : RefTab w Ro wb wo
  tr : TR T R
  os : TR To Ro
  ap : ∀ g ∈ own, g ∉ ro ∧ g ∉ wo
  op : rb ∉ owno
  same : (bo = bt ∧ owno = own ∧ To = T ∧ wb = rb ∧ wo = ro ∧ Ro = R) ∨ ((∀ g ∈ owno, g ∉ own) ∧ rb ∉ wo)
  lo : ∀ g, AllG own ro owno wo g → base ≤ g
section
variable {base rb bt bo wb : Nat} {T R To Ro : List SesP} {own ro owno wo : List Nat} {w w' : World}
theorem TbS.lt (h : TbS base rb bt bo wb T R To Ro own ro owno wo w) : ∀ g, AllG own ro owno wo g → g < w.heap.size := fun g hg => by
  rcases hg with hg | hg | hg | hg
  · exact h.t.lt2 g hg
  · exact h.r.lt g hg
  · exact h.o.lt2 g hg
  · exact h.s.lt g hg
theorem TbS.fr {own' : List Nat} (h : TbS base rb bt bo wb T R To Ro own ro owno wo w) (hf : Fr own' w w') (hg : ∀ g, AllG own ro owno wo g → g ∉ own') : TbS base rb bt bo wb T R To Ro own ro owno wo w' :=
  ⟨h.t.fr hf fun g hm => hg g (.inl hm), h.r.fr hf fun g hm => hg g (.inr (.inl hm)), h.o.fr hf fun g hm => hg g (.inr (.inr (.inl hm))), h.s.fr hf fun g hm => hg g (.inr (.inr (.inr hm))), h.tr, h.os, h.ap, h.op, h.same, h.lo⟩
theorem TbS.below (h : TbS base rb bt bo wb T R To Ro own ro owno wo w) (hb : Below w.heap.size w w') : TbS base rb bt bo wb T R To Ro own ro owno wo w' :=
  h.fr (Fr.of_below (own := []) hb) (by simp)
/-- the table has been written, and then the document's -/
theorem TbS.two {w1 w2 w3 : World} {T' R' : List SesP} {own' ro' : List Nat} (h : TbS base rb bt bo wb T R To Ro own ro owno wo w) (hB : base ≤ w.heap.size)
    (h1 : Tab w1 bt T' own') (f1 : Fr own w w1) (s1 : ∀ g ∈ own', g ∈ own ∨ w.heap.size ≤ g) (b2 : Below w1.heap.size w1 w2)
    (h3 : RefTab w3 R' rb ro') (f3 : Fr [rb] w2 w3) (s3 : ∀ g ∈ ro', g ∈ ro ∨ w2.heap.size ≤ g) (tr : TR T' R') :
    ∃ To' Ro' owno' wo', TbS base rb bt bo wb T' R' To' Ro' own' ro' owno' wo' w3 ∧ (∀ g, AllG own' ro' owno' wo' g → AllG own ro owno wo g ∨ w.heap.size ≤ g) ∧ ((To' = To ∧ Ro' = Ro) ∨ (To' = T' ∧ Ro' = R')) := by
  have f2 : Fr ([] : List Nat) w1 w2 := Fr.of_below b2
  have l1 : ∀ g ∈ own', g < w1.heap.size := h1.lt2
  have hrb : rb ∈ ro := h.r.rb_
  have hrl : rb < w.heap.size := h.r.lt rb hrb
  have hro : rb ∉ own := fun hm => (h.ap rb hm).1 hrb
  have hno : rb ∉ own' := fun hm => by
    rcases s1 rb hm with h | h
    · exact hro h
    · omega
  have t3 : Tab w3 bt T' own' := (h1.fr f2 (by simp)).fr f3 (fun g hg hm => hno (by rw [List.mem_singleton.1 hm] at hg; exact hg))
  have a1 : ∀ g ∈ own', g ∉ ro' := fun g hg hm => by
    rcases s3 g hm with hm | hm
    · rcases s1 g hg with hg | hg
      · exact (h.ap g hg).1 hm
      · have := h.r.lt g hm; omega
    · have := l1 g hg; have := b2.size; omega
  have s3' : ∀ g ∈ ro', g ∈ ro ∨ w.heap.size ≤ g := fun g hg => (s3 g hg).imp (fun x => x) fun x => Nat.le_trans (Nat.le_trans f1.size b2.size) x
  have lo : ∀ g, g ∈ own' ∨ g ∈ ro' → base ≤ g := fun g hg => by
    rcases hg with hg | hg
    · rcases s1 g hg with hg | hg
      · exact h.lo g (.inl hg)
      · omega
    · rcases s3' g hg with hg | hg
      · exact h.lo g (.inr (.inl hg))
      · omega
  have al : ∀ g, g ∈ own' ∨ g ∈ ro' → AllG own ro owno wo g ∨ w.heap.size ≤ g := fun g hg => by
    rcases hg with hg | hg
    · exact (s1 g hg).imp (fun x => .inl x) (fun x => x)
    · exact (s3' g hg).imp (fun x => .inr (.inl x)) (fun x => x)
  rcases h.same with ⟨rfl, rfl, rfl, rfl, rfl, rfl⟩ | ⟨q1, q2⟩
  · refine ⟨T', R', own', ro', ⟨t3, h3, t3, h3, tr, tr, fun g hg => ⟨a1 g hg, a1 g hg⟩, hno, .inl ⟨rfl, rfl, rfl, rfl, rfl, rfl⟩, fun g hg => ?_⟩, fun g hg => ?_, .inr ⟨rfl, rfl⟩⟩
    · rcases hg with hg | hg | hg | hg
      · exact lo g (.inl hg)
      · exact lo g (.inr hg)
      · exact lo g (.inl hg)
      · exact lo g (.inr hg)
    · rcases hg with hg | hg | hg | hg
      · exact al g (.inl hg)
      · exact al g (.inr hg)
      · exact al g (.inl hg)
      · exact al g (.inr hg)
  · have o3 : Tab w3 bo To owno := ((h.o.fr f1 q1).fr f2 (by simp)).fr f3 (fun g hg hm => h.op (by rw [List.mem_singleton.1 hm] at hg; exact hg))
    have s4 : RefTab w3 Ro wb wo := ((h.s.fr f1 fun g hg hm => (h.ap g hm).2 hg).fr f2 (by simp)).fr f3 (fun g hg hm => q2 (by rw [List.mem_singleton.1 hm] at hg; exact hg))
    refine ⟨To, Ro, owno, wo, ⟨t3, h3, o3, s4, tr, h.os, fun g hg => ⟨a1 g hg, fun hm => ?_⟩, h.op, .inr ⟨fun g hg hm => ?_, q2⟩, fun g hg => ?_⟩, fun g hg => ?_, .inl ⟨rfl, rfl⟩⟩
    · rcases s1 g hg with hg | hg
      · exact (h.ap g hg).2 hm
      · have := h.s.lt g hm; omega
    · rcases s1 g hm with hm | hm
      · exact q1 g hg hm
      · have := h.o.lt2 g hg; omega
    · rcases hg with hg | hg | hg | hg
      · exact lo g (.inl hg)
      · exact lo g (.inr hg)
      · exact h.lo g (.inr (.inr (.inl hg)))
      · exact h.lo g (.inr (.inr (.inr hg)))
    · rcases hg with hg | hg | hg | hg
      · exact al g (.inl hg)
      · exact al g (.inr hg)
      · exact .inl (.inr (.inr (.inl hg)))
      · exact .inl (.inr (.inr (.inr hg)))
/-- a second head to the document's list -/
theorem RefTab.share (h : RefTab w R rb ro) : ∃ A n c, w.cell? ⟨rb, 0, none⟩ = some (.slice A n c) ∧ RefTab (w.alloc (.cells #[.slice A n c] 68)) R w.heap.size (w.heap.size :: ro.filter fun g => decide (g ≠ rb)) := by
  obtain ⟨A, c, Z, h, rfl⟩ := h
  have hb : Below w.heap.size w (w.alloc (.cells #[.slice A Z.length c] 68)) := (Below.refl _ w).alloc (Nat.le_refl _) _
  have hm : ∀ g ∈ ro, g ≠ rb → g ∈ w.heap.size :: ro.filter fun g => decide (g ≠ rb) := fun g hg hn => List.mem_cons_of_mem _ (List.mem_filter.2 ⟨hg, by simpa using hn⟩)
  refine ⟨A, Z.length, c, by rw [cellH h.cell]; rfl, A, c, Z, ⟨List.mem_cons_self .., fun g hg => ?_, heap_alloc_new w _, ⟨rfl, ?_⟩, fun z hz => ?_⟩, rfl⟩
  · have := hb.size
    rcases List.mem_cons.1 hg with rfl | hg
    · simp
    · have := h.lt g (List.mem_filter.1 hg).1; omega
  · rcases h.row.2 with ⟨e, e1, e2⟩ | ⟨b, off, e, h1, h2, h3, h4⟩
    · exact .inl ⟨e, e1, e2⟩
    · refine .inr ⟨b, off, e, hm b h1 h2, by have := h.lt b h1; omega, h3, fun j hj => ?_⟩
      obtain ⟨y0, y1, y2⟩ := h4 j hj
      exact ⟨keep1 y0 hb, keep1 y1 hb, keep1 y2 hb⟩
  · obtain ⟨h1, h2, h3, h4, h5, h6, h7⟩ := h.ent z hz
    refine ⟨h1, h2, h3, h4, h5, h6, fun h0 => ?_⟩
    obtain ⟨b, off, a1, a2, a3, a4, a5⟩ := h7 h0
    refine ⟨b, off, a1, hm b a2 a3, by have := h.lt b a2; omega, by have := h.lt b a2; omega, fun j hj i u hu => keep1 (a5 j hj i u hu) hb⟩
/-- the clone is the table from now on -/
theorem TbS.clone {A : Option Addr} {n c bu : Nat} {T' : List SesP} {ownu : List Nat} (h : TbS base rb bt bo wb T R To Ro own ro owno wo w) (hB : base ≤ w.heap.size)
    (hs : RefTab (w.alloc (.cells #[.slice A n c] 68)) R w.heap.size (w.heap.size :: ro.filter fun g => decide (g ≠ rb)))
    (hu : Tab w' bu T' ownu) (hp : T'.Perm T) (hl : ∀ g ∈ ownu, (w.alloc (.cells #[.slice A n c] 68)).heap.size ≤ g) (hb : Below (w.alloc (.cells #[.slice A n c] 68)).heap.size (w.alloc (.cells #[.slice A n c] 68)) w') :
    TbS base rb bu bt w.heap.size T' R T R ownu ro own (w.heap.size :: ro.filter fun g => decide (g ≠ rb)) w' := by
  have hb0 : Below w.heap.size w (w.alloc (.cells #[.slice A n c] 68)) := (Below.refl _ w).alloc (Nat.le_refl _) _
  have hb1 : Below w.heap.size w w' := hb0.trans (hb.mono hb0.size)
  have hsz : (w.alloc (.cells #[.slice A n c] 68)).heap.size = w.heap.size + 1 := by simp
  rw [hsz] at hl
  have hrb : rb ∈ ro := h.r.rb_
  have hrl : rb < w.heap.size := h.r.lt rb hrb
  refine ⟨hu, h.r.below hb1, h.t.below hb1, hs.below hb, ⟨hp.trans h.tr.1, h.tr.2⟩, h.tr, fun g hg => ⟨fun hm => ?_, fun hm => ?_⟩, fun hm => (h.ap rb hm).1 hrb, .inr ⟨fun g hg hm => ?_, fun hm => ?_⟩, fun g hg => ?_⟩
  · have := h.r.lt g hm; have := hl g hg; omega
  · rcases List.mem_cons.1 hm with rfl | hm
    · have := hl _ hg; omega
    · have := h.r.lt g (List.mem_filter.1 hm).1; have := hl g hg; omega
  · have := h.t.lt2 g hg; have := hl g hm; omega
  · rcases List.mem_cons.1 hm with e | hm
    · omega
    · have := (List.mem_filter.1 hm).2; simp at this
  · rcases hg with hg | hg | hg | hg
    · have := hl g hg; omega
    · exact h.lo g (.inr (.inl hg))
    · exact h.lo g (.inl hg)
    · rcases List.mem_cons.1 hg with rfl | hg
      · exact hB
      · exact h.lo g (.inr (.inl (List.mem_filter.1 hg).1))
end
/-- the state between two calls of the script -/
def TbE (base rb m : Nat) (s3 s5 s6 : Value) (w : World) : Prop := ∃ (bt bo wb : Nat) (T R To Ro : List SesP) (own ro owno wo : List Nat), s3 = .pointer (some ⟨bt, 0, none⟩) ∧ s5 = .pointer (some ⟨bo, 0, none⟩) ∧ s6 = .pointer (some ⟨wb, 0, none⟩) ∧ TbS base rb bt bo wb T R To Ro own ro owno wo w ∧ R.length ≤ m ∧ Ro.length ≤ m
/-- the state of the round -/
def TbR (rb n : Nat) (w : World) (s3 s5 s6 i : Value) (wr : World) : Prop := ∃ k : Nat, i = .int .i64 ↑k ∧ k ≤ n ∧ TbE w.heap.size rb k s3 s5 s6 wr ∧ Below w.heap.size w wr
end Go.Proofs.YtfnigjeklcagnaaGreatDoor
namespace Go.Proofs.YtfnigjeklcagnaaGreatDoor
open Go.RowKit Go.MapKept Go.Maps
section
variable {base rb bt bo wb : Nat} {T R To Ro : List SesP} {own ro owno wo : List Nat} {w w1 w' : World}
/-- what a table's List gives beside the document's table -/
structure LiQ (bt rb : Nat) (T : List SesP) (own : List Nat) (w w6 : World) (A : Option Addr) (n c : Nat) (A9 : Option Addr) (c9 : Nat) : Prop where
  row : ∃ xs, w6.ownsRow w.heap.size 56 3 (.slice A n c) n xs
  small : n ≤ 281474976710656
  cell : w6.cell? ⟨rb, 0, none⟩ = some (.slice A9 n c9)
  same : ∀ W, Below w6.heap.size w6 W → Calls Tryz.prog 29 #[.slice A n c, .slice A9 n c9] W (RetB W true)
  len : ∀ W, Tab W bt T own → Calls Tryz.prog 31 #[.pointer (some ⟨bt, 0, none⟩)] W fun e w' => e = .returned (.int .i64 n) ∧ w' = W
def LiP (bt rb : Nat) (T : List SesP) (own : List Nat) (w : World) (e : Ending) (w' : World) : Prop := (∃ A n c A9 c9, e = .returned (.slice A n c) ∧ LiQ bt rb T own w w' A n c A9 c9) ∧ Below w.heap.size w w'
theorem list_st (ht : Tab w bt T own) (hr : RefTab w R rb ro) (htr : TR T R) (hl : T.length ≤ 2097152) :
    Calls Tryz.prog 30 #[.pointer (some ⟨bt, 0, none⟩)] w (LiP bt rb T own w) := by
  refine (list_any bt T own w ht hl).mono ?_
  rintro e w6 ⟨⟨A7, c7, Z7, rfl, hs7, hp7, hq7, hr7⟩, hb6⟩
  obtain ⟨A9, c9, Z9, hZ9, e9⟩ := hr.below hb6
  have he7 := tr_list htr hp7 hq7
  have hl7 : Z7.length = Z9.length := by have := congrArg List.length (he7.trans e9.symm); rwa [List.length_map, List.length_map] at this
  have hl2 : T.length = Z7.length := by have := hp7.length_eq; rw [List.length_map] at this; exact this.symm
  refine ⟨⟨A7, Z7.length, c7, A9, c9, rfl, ⟨⟨_, hr7⟩, by omega, by rw [hl7, cellH hZ9.cell]; rfl, fun W hb => ?_, fun W h => ?_⟩⟩, hb6⟩
  · have h := sameAll_any A7 A9 Z7.length Z9.length c7 c9 Z7 Z9 W (hs7.below hb) (hZ9.sls.below hb) (by omega)
    rw [decide_eq_true (he7.trans e9.symm), ← hl7] at h
    exact h
  · have h := tabLen_any bt T own W h
    rw [hl2] at h
    exact h
/-- behind a call that writes the table alone -/
structure Tb1 (base rb bt bo wb : Nat) (T R To Ro : List SesP) (own ro owno wo : List Nat) (w : World) (T' : List SesP) (w1 : World) : Prop where
  s : TbS base rb bt bo wb T R To Ro own ro owno wo w
  b : base ≤ w.heap.size
  t : ∃ own', Tab w1 bt T' own' ∧ ∀ g ∈ own', g ∈ own ∨ w.heap.size ≤ g
  f : Fr own w w1
theorem TbS.cell_lt {p : Addr} {v : Value} (h : w.cell? p = some v) : p.block < w.heap.size := by
  by_cases hp : p.block < w.heap.size
  · exact hp
  · have : w.heap[p.block]? = none := Array.getElem?_eq_none (by omega)
    simp [World.cell?, this] at h
/-- what stands outside stays -/
def Kp (own ro owno wo : List Nat) (w w' : World) : Prop := ∀ (p : Addr) (v : Value), w.cell? p = some v → ¬ AllG own ro owno wo p.block → w'.cell? p = some v
theorem Fr.more {o o' : List Nat} (h : Fr o w w') (hs : ∀ g ∈ o, g ∈ o') : Fr o' w w' := ⟨h.os, h.tape, h.output, h.size, fun g hg hn => h.block g hg fun hm => hn (hs g hm)⟩
theorem Kp.fr {own' : List Nat} (hf : Fr own' w w') (hs : ∀ g ∈ own', AllG own ro owno wo g) : Kp own ro owno wo w w' := fun p v h hp => by
  rw [hf.cell (TbS.cell_lt h) fun hm => hp (hs _ hm)]
  exact h
theorem Tb1.keep {T' : List SesP} (h : Tb1 base rb bt bo wb T R To Ro own ro owno wo w T' w1) : Kp own ro owno wo w w1 := Kp.fr h.f fun _ hg => .inl hg
theorem Tb1.ref {T' : List SesP} (h : Tb1 base rb bt bo wb T R To Ro own ro owno wo w T' w1) : RefTab w1 R rb ro := h.s.r.fr h.f fun g hg hm => (h.s.ap g hm).1 hg
/-- behind both calls -/
def TbP (v : Value) (base rb m bt bo wb : Nat) (own ro owno wo : List Nat) (w : World) (e : Ending) (w' : World) : Prop := e = .returned v ∧ (∀ own' W', Fr own' w' W' → (∀ g ∈ own', (g < w.heap.size ∧ ¬ AllG own ro owno wo g) ∨ w'.heap.size ≤ g) → TbE base rb m (.pointer (some ⟨bt, 0, none⟩)) (.pointer (some ⟨bo, 0, none⟩)) (.pointer (some ⟨wb, 0, none⟩)) W') ∧ Below base w w' ∧ Kp own ro owno wo w w' ∧ Fr (rb :: own) w w'
theorem Tb1.both {T' R' : List SesP} {v : Value} {m : Nat} (h : Tb1 base rb bt bo wb T R To Ro own ro owno wo w T' w1) {e : Ending} {w3 : World} (h3 : RtPostT v R' rb ro w1 e w3) (tr : TR T' R') (hm : R'.length ≤ m) (hRo : Ro.length ≤ m) : TbP v base rb m bt bo wb own ro owno wo w e w3 := by
  obtain ⟨rfl, ⟨ro', h3, s3⟩, f3⟩ := h3
  obtain ⟨own', h1, s1⟩ := h.t
  obtain ⟨To', Ro', owno', wo', hS, hA, hT⟩ := h.s.two h.b h1 h.f s1 (Below.refl _ _) h3 f3 s3 tr
  have hrb : rb ∈ ro := h.s.r.rb_
  have hF : Fr (rb :: own) w w3 := (h.f.more fun g hg => List.mem_cons_of_mem _ hg).trans f3 fun g hg => .inl (by rw [List.mem_singleton.1 hg]; exact List.mem_cons_self ..)
  refine ⟨rfl, fun ow W' hf hg => ⟨bt, bo, wb, T', R', To', Ro', own', ro', owno', wo', rfl, rfl, rfl, hS.fr hf fun g hm hin => ?_, hm, ?_⟩, ?_, ?_, hF⟩
  · rcases hg g hin with ⟨l1, n1⟩ | l1
    · rcases hA g hm with h | h
      · exact n1 h
      · omega
    · have := hS.lt g hm; omega
  · rcases hT with ⟨_, e⟩ | ⟨_, e⟩ <;> rw [e] <;> assumption
  · exact hF.below h.b fun g hg => by
      rcases List.mem_cons.1 hg with rfl | hg
      · exact h.s.lo _ (.inr (.inl hrb))
      · exact h.s.lo _ (.inl hg)
  · exact Kp.fr hF fun g hg => by
      rcases List.mem_cons.1 hg with rfl | hg
      · exact .inr (.inl hrb)
      · exact .inl hg
theorem close_st (h : TbS base rb bt bo wb T R To Ro own ro owno wo w) (hb : base ≤ w.heap.size) (i : Int) (hi : wfI i) :
    Calls Tryz.prog 32 #[.pointer (some ⟨bt, 0, none⟩), .int .i64 i] w fun e w1 => e = .returned (.int .i64 (closeC T i)) ∧ Tb1 base rb bt bo wb T R To Ro own ro owno wo w (closeT T i) w1 := by
  refine (close_any bt T own i hi w h.t).mono ?_
  rintro e w1 ⟨rfl, h1, hf⟩
  exact ⟨rfl, h, hb, h1, hf⟩
theorem refClose_st {m : Nat} {i : Int} (h : Tb1 base rb bt bo wb T R To Ro own ro owno wo w (closeT T i) w1) (hR : R.length ≤ m) (hRo : Ro.length ≤ m) (hm : m ≤ 1048576) :
    Calls Tryz.prog 35 #[.pointer (some ⟨rb, 0, none⟩), .int .i64 i] w1 (TbP (.int .i64 (closeC T i)) base rb (m + 1) bt bo wb own ro owno wo w) := by
  refine (refClose_any R rb ro i w1 h.ref (by omega)).mono ?_
  rintro e w3 ⟨k, b, hA, hB, h3⟩
  rw [← tr_closeC h.s.tr hA hB] at h3
  refine h.both h3 (tr_close h.s.tr hA hB) ?_ (by omega)
  cases b
  · exact Nat.le_succ_of_le hR
  · have := hB.1 rfl
    rw [if_pos rfl, List.length_append, List.length_take, List.length_drop]
    omega
theorem open_st (h : TbS base rb bt bo wb T R To Ro own ro owno wo w) (hb : base ≤ w.heap.size) (hE : Env w) (i tm : Int) (A : Option Addr) (n c : Nat) (l : List IdV) (hs : SesOk w (i, tm, A, n, c) l 1048576) :
    Calls Tryz.prog 26 #[.pointer (some ⟨bt, 0, none⟩), .agg #[.int .i64 i, .int .i32 tm, .slice A n c]] w fun e w1 => e = .returned (.int .i64 (openC T (i, tm, l))) ∧ Tb1 base rb bt bo wb T R To Ro own ro owno wo w (openT T (i, tm, l)) w1 := by
  refine (open_any bt T own i tm A n c l w hE h.t hs).mono ?_
  rintro e w1 ⟨rfl, h1, hf⟩
  exact ⟨rfl, h, hb, h1, hf⟩
theorem refOpen_st {m : Nat} {i tm : Int} {l : List IdV} (h : Tb1 base rb bt bo wb T R To Ro own ro owno wo w (openT T (i, tm, l)) w1) (hR : R.length ≤ m) (hRo : Ro.length ≤ m) (hm : m ≤ 1048576) (A : Option Addr) (n c : Nat) (hs : SesOk w1 (i, tm, A, n, c) l 1048576) :
    Calls Tryz.prog 34 #[.pointer (some ⟨rb, 0, none⟩), .agg #[.int .i64 i, .int .i32 tm, .slice A n c]] w1 (TbP (.int .i64 (openC T (i, tm, l))) base rb (m + 1) bt bo wb own ro owno wo w) := by
  refine (refOpen_any R rb ro i tm A n c l w1 h.ref (by omega) hs).mono ?_
  rintro e w3 (⟨hr, h3⟩ | ⟨hr, k, b, hA, hB, h3⟩)
  · obtain ⟨e1, e2⟩ := tr_bad (T := T) hr
    rw [e2] at h
    rw [e1]
    exact h.both h3 h.s.tr (by omega) (by omega)
  · obtain ⟨e1, e2⟩ := tr_openC h.s.tr hr hA hB
    rw [← e1] at h3
    refine h.both h3 e2 ?_ (by omega)
    cases b
    · have := hA.1
      simp only [Bool.false_eq_true, if_false, List.length_append, List.length_take, List.length_drop, List.length_singleton]
      omega
    · exact Nat.le_succ_of_le hR
theorem get_st (h : Tab w bt T own) (i : Int) (hi : wfI i) : Calls Tryz.prog 33 #[.pointer (some ⟨bt, 0, none⟩), .int .i64 i] w fun e w1 => ∃ (p : SesP) (b : Bool) (pi pt : Int) (A : Option Addr) (n c : Nat), e = .returned (.tuple #[.agg #[.int .i64 pi, .int .i32 pt, .slice A n c], .bool b]) ∧ p = (pi, pt, p.2.2) ∧ p.2.2.length = n ∧ RowId w1 w.heap.size A n c p.2.2 ∧ ((b = true ∧ p ∈ T ∧ p.1 = i) ∨ (b = false ∧ i ∉ T.map (·.1) ∧ p = (0, 0, []))) ∧ Below w.heap.size w w1 := by
  refine (get_any bt T own i hi w h).mono ?_
  rintro e w1 ⟨p, b, A, c, rfl, hr, hc, hb⟩
  exact ⟨p, b, p.1, p.2.1, A, p.2.2.length, c, rfl, rfl, rfl, hr, hc, hb⟩
theorem refGet_st {i pi pt : Int} {p : SesP} {b : Bool} (h : RefTab w R rb ro) (hR : R.length ≤ 1048576) (htr : TR T R) (hp : p = (pi, pt, p.2.2)) (hg : (b = true ∧ p ∈ T ∧ p.1 = i) ∨ (b = false ∧ i ∉ T.map (·.1) ∧ p = (0, 0, []))) :
    Calls Tryz.prog 36 #[.pointer (some ⟨rb, 0, none⟩), .int .i64 i] w fun e w1 => ∃ (A : Option Addr) (n c : Nat), e = .returned (.tuple #[.agg #[.int .i64 pi, .int .i32 pt, .slice A n c], .bool b]) ∧ SesOk w1 (pi, pt, A, n, c) p.2.2 1048576 ∧ Below w.heap.size w w1 := by
  refine (refGet_any R rb ro i w h hR).mono ?_
  rintro e w1 ⟨z, b', rfl, hs, hz, hb⟩
  obtain ⟨e1, e2⟩ := tr_get (z := toP z) htr hg hz
  obtain ⟨⟨i9, t9, A9, n9, c9⟩, l9⟩ := z
  rw [e2] at hp ⊢
  obtain ⟨rfl, rfl⟩ : i9 = pi ∧ t9 = pt := by
    have a1 := congrArg (·.1) hp
    have a2 := congrArg (·.2.1) hp
    exact ⟨a1, a2⟩
  exact ⟨A9, n9, c9, by rw [e1], hs, hb⟩
theorem clone_st {m : Nat} (h : TbS base rb bt bo wb T R To Ro own ro owno wo w) (hb : base ≤ w.heap.size) (hR : R.length ≤ m) {A : Option Addr} {n c : Nat} (hs : RefTab (w.alloc (.cells #[.slice A n c] 68)) R w.heap.size (w.heap.size :: ro.filter fun g => decide (g ≠ rb))) :
    Calls Tryz.prog 38 #[.pointer (some ⟨bt, 0, none⟩)] (w.alloc (.cells #[.slice A n c] 68)) fun e w1 => ∃ bu, e = .returned (.pointer (some ⟨bu, 0, none⟩)) ∧ (∀ W, Below w1.heap.size w1 W → TbE base rb m (.pointer (some ⟨bu, 0, none⟩)) (.pointer (some ⟨bt, 0, none⟩)) (.pointer (some ⟨w.heap.size, 0, none⟩)) W) ∧ Below w.heap.size w w1 ∧ (∀ W, Below w1.heap.size w1 W → Calls Tryz.prog 28 #[.pointer (some ⟨bu, 0, none⟩), .pointer (some ⟨bt, 0, none⟩)] W (RetB W true)) := by
  have hb0 : Below w.heap.size w (w.alloc (.cells #[.slice A n c] 68)) := (Below.refl _ w).alloc (Nat.le_refl _) _
  refine (clone_any bt T own _ (h.t.below hb0)).mono ?_
  rintro e w1 ⟨⟨bu, ownu, T', rfl, hu, hp, hl⟩, hb1⟩
  have hb2 : Below w.heap.size w w1 := hb0.trans (hb1.mono hb0.size)
  have hS := h.clone hb hs hu hp hl hb1
  refine ⟨bu, rfl, fun W hW => ⟨bu, bt, w.heap.size, T', R, T, R, _, _, _, _, rfl, rfl, rfl, hS.below hW, hR, hR⟩, hb2, fun W hW => ?_⟩
  have h := equal_any bu bt T' T ownu own W (hu.below hW) ((h.t.below hb2).below hW)
  rwa [decide_eq_true hp] at h
end
end Go.Proofs.YtfnigjeklcagnaaGreatDoor
namespace Go.Proofs.YtfnigjeklcagnaaGreatDoor
open Go.RowKit Go.MapKept Go.Maps
section
variable {base rb bt bo wb : Nat} {T R To Ro : List SesP} {own ro owno wo : List Nat} {w w1 w' : World}
theorem oldList_st (h : TbS base rb bt bo wb T R To Ro own ro owno wo w) (hRo : Ro.length ≤ 1048576) : ∃ A9 n9 c9, w.cell? ⟨wb, 0, none⟩ = some (.slice A9 n9 c9) ∧ ∀ W, Below w.heap.size w W →
    Calls Tryz.prog 30 #[.pointer (some ⟨bo, 0, none⟩)] W fun e w' => (∃ A c, e = .returned (.slice A n9 c) ∧ ∀ W', Below w'.heap.size w' W' → Calls Tryz.prog 29 #[.slice A n9 c, .slice A9 n9 c9] W' (RetB W' true)) ∧ Below W.heap.size W w' := by
  obtain ⟨A9, c9, Z9, hZ9, e9⟩ := h.s
  have hc : w.cell? ⟨wb, 0, none⟩ = some (.slice A9 Z9.length c9) := by rw [cellH hZ9.cell]; rfl
  refine ⟨A9, Z9.length, c9, hc, fun W hW => ?_⟩
  have hl : To.length ≤ 2097152 := by have := h.os.1.length_eq; omega
  refine (list_st (h.below hW).o (h.below hW).s h.os hl).mono ?_
  rintro e w' ⟨⟨A, n, c, A8, c8, rfl, hq⟩, hb⟩
  have h3 := hq.cell.symm.trans (keep1 (keep1 hc hW) hb)
  injection h3 with h3
  injection h3 with a1 a2 a3
  subst a1 a2 a3
  exact ⟨⟨A, c, rfl, hq.same⟩, hb⟩
open Classical in
theorem eq_st (h : TbS base rb bt bo wb T R To Ro own ro owno wo w) (hR : R.length ≤ 1048576) : ∃ bb : Bool, ∀ W, Below w.heap.size w W →
    Calls Tryz.prog 28 #[.pointer (some ⟨bt, 0, none⟩), .pointer (some ⟨bo, 0, none⟩)] W (RetB W bb) ∧ Calls Tryz.prog 39 #[.pointer (some ⟨rb, 0, none⟩), .pointer (some ⟨wb, 0, none⟩)] W (RetB W bb) := by
  refine ⟨decide (T.Perm To), fun W hW => ?_⟩
  have hs := h.below hW
  refine ⟨equal_any bt bo T To own owno W hs.t hs.o, ?_⟩
  have h2 := refEqual_any R Ro rb wb ro wo W hs.r hs.s (by omega)
  have e : decide (T.Perm To) = decide (R = Ro) := by
    by_cases hp : T.Perm To
    · rw [decide_eq_true hp, decide_eq_true ((tr_eq h.tr h.os).1 hp)]
    · rw [decide_eq_false hp, decide_eq_false fun hh => hp ((tr_eq h.tr h.os).2 hh)]
  rw [e]
  exact h2
theorem Tb1.below {T' : List SesP} (h : Tb1 base rb bt bo wb T R To Ro own ro owno wo w T' w1) : Below base w w1 := h.f.below h.b fun g hg => h.s.lo g (.inl hg)
theorem keep6 {b1 b2 : Nat} {u1 u2 u3 u4 u5 u6 : Value} (h : Kp own ro owno wo w w') (h1 : ¬ AllG own ro owno wo b1) (h2 : ¬ AllG own ro owno wo b2)
    (hs : w.cell? ⟨b1, 2, none⟩ = some u1 ∧ w.cell? ⟨b1, 3, none⟩ = some u2 ∧ w.cell? ⟨b1, 4, none⟩ = some u3 ∧ w.cell? ⟨b2, 0, none⟩ = some u4 ∧ w.cell? ⟨b2, 1, none⟩ = some u5 ∧ w.cell? ⟨b2, 2, none⟩ = some u6) :
    w'.cell? ⟨b1, 2, none⟩ = some u1 ∧ w'.cell? ⟨b1, 3, none⟩ = some u2 ∧ w'.cell? ⟨b1, 4, none⟩ = some u3 ∧ w'.cell? ⟨b2, 0, none⟩ = some u4 ∧ w'.cell? ⟨b2, 1, none⟩ = some u5 ∧ w'.cell? ⟨b2, 2, none⟩ = some u6 :=
  ⟨h _ _ hs.1 h1, h _ _ hs.2.1 h1, h _ _ hs.2.2.1 h1, h _ _ hs.2.2.2.1 h2, h _ _ hs.2.2.2.2.1 h2, h _ _ hs.2.2.2.2.2 h2⟩
theorem mark_at {a b c d e g : Nat} (h : (a ≤ g ∧ g < b) ∨ g = d) (h2 : b ≤ c) (hlt : ∀ g, AllG own ro owno wo g → g < e) (h3 : e ≤ a) : (g < c ∧ ¬ AllG own ro owno wo g) ∨ d ≤ g := by
  rcases h with ⟨h, h'⟩ | h
  · exact .inl ⟨by omega, fun hm => by have := hlt g hm; omega⟩
  · exact .inr (by omega)
end
end Go.Proofs.YtfnigjeklcagnaaGreatDoor
