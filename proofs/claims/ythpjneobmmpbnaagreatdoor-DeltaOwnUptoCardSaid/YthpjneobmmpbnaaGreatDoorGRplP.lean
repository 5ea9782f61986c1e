/- Arguments that are sessions. No condition. Results, replies, proposals: their cells, what is read of them. No program; no condition. -/
import Derived.Test.YthpjneobmmpbnaaGreatDoorGRows2
import Derived.Test.YthpjneobmmpbnaaGreatDoorGAclDec
import Derived.Test.YthpjneobmmpbnaaGreatDoorGClkE
import Derived.Test.YthpjneobmmpbnaaGreatDoorGTxnP
namespace Go.Proofs.YthpjneobmmpbnaaGreatDoor
open Go.RowKit Go.WideShapes
set_option maxRecDepth 100000
section
variable {H : Type} {enc : TypeId × Value → H} {w : World} {base : Nat} {spare : Nat → Bool} {held : Bool}
theorem trod_id {fuel : Nat} {cs : List Value} {x : DataW H × List MemPlace} (h : DataW.trod enc Tryz.prog w base spare held fuel 108 cs = some x) :
    ∃ z : IdV, cs = encId z ∧ z.1.size ≤ Rows.uptoBulk x.1 ∧ z.2.size ≤ Rows.uptoBulk x.1 := by
  obtain ⟨ys, n, _, rfl, hlen, hyl, hf⟩ := DataW.trod_struct Tryz.underlying108 h
  have hc : Tryz.prog.cellsOf 108 = 2 := by kernel_rfl
  have hs : Tryz.prog.cellsOf 9 = 1 := by kernel_rfl
  rw [hc] at hlen
  match cs, hlen with
  | [a, b], _ =>
    match ys, hyl with
    | [y0, y1], _ =>
      have g0 : DataW.trod enc Tryz.prog w base spare held n 9 (List.take (Tryz.prog.cellsOf 9) [a, b]) = some y0 := hf 0 _ rfl
      have g1 : DataW.trod enc Tryz.prog w base spare held n 9 (List.take (Tryz.prog.cellsOf 9) [b]) = some y1 := hf 1 _ rfl
      rw [hs] at g0 g1
      simp only [List.take_succ_cons, List.take_zero] at g0 g1
      obtain ⟨s, e0, rfl, _⟩ := DataW.trod_string Tryz.underlying9 g0
      obtain ⟨t, e1, rfl, _⟩ := DataW.trod_string Tryz.underlying9 g1
      injection e0 with e0
      injection e1 with e1
      subst e0 e1
      refine ⟨(s, t), rfl, ?_, ?_⟩ <;> simp [Rows.uptoBulk, Rows.uptoBulkAll] <;> omega
theorem open_rowsT {α : Type} [Inhabited α] {enc0 : α → List Value} {k : Nat} {t e : TypeId} (ht : Tryz.prog.underlying t = some (.slice e)) (hC : Tryz.prog.cellsOf e = k) (hk0 : 0 < k) (small : α → Nat → Prop)
    (hel : ∀ (fuel : Nat) cs' (x : DataW H × List MemPlace), DataW.trod enc Tryz.prog w base spare held fuel e cs' = some x → ∃ z : α, cs' = enc0 z ∧ small z (Rows.uptoBulk x.1)) (hmono : ∀ z a b, a ≤ b → small z a → small z b)
    {fuel0 : Nat} {cs : List Value} {x : DataW H × List MemPlace} (h : DataW.trod enc Tryz.prog w base spare held fuel0 t cs = some x) :
    ∃ A n c l, cs = [.slice A n c] ∧ Sl w w.heap.size enc0 k A n l ∧ ((A = none → n = 0 ∧ c = 0) ∧ n ≤ c) ∧ n ≤ Rows.uptoBulk x.1 ∧ ∀ j, j < n → small l[j]! (Rows.uptoBulk x.1) := by
  obtain ⟨d, ps⟩ := x
  dsimp only
  rcases Deep.open_slice ht h with ⟨e1, e2⟩ | ⟨a, n, c, m, n', D, Pl, e1, _, hlc, _, hm, e2, hx⟩
  · subst e1
    exact ⟨none, 0, 0, [], rfl, Sl.nil_, ⟨fun _ => ⟨rfl, rfl⟩, Nat.le_refl _⟩, Nat.zero_le _, fun j hj => absurd hj (by omega)⟩
  · subst e1
    have hd : d = .slice ((List.range n).map D) ((List.range (m - n)).map fun j => D (n + j)) := congrArg Prod.fst e2
    have hnm : n ≤ m := by rw [hm]; split <;> omega
    have hspot : 0 < n → a.spot = none := fun h0 => by
      obtain ⟨cs', h1, h2⟩ := hx 0 (by omega)
      rw [hC, Nat.zero_mul, add_nil_] at h1
      obtain ⟨_, hlen, hcell⟩ := World.cells?_some h1
      have hg := hcell 0 hk0
      rw [add_nil_, List.getElem?_eq_getElem (by omega)] at hg
      exact World.cell?_spot hg
    have key : ∀ i, i < n → ∃ z : α, (∀ u y, (enc0 z)[u]? = some y → a.spot = none ∧ w.cell? ⟨a.block, a.off + i * k + u, none⟩ = some y ∧ a.block < w.heap.size) ∧ small z (Rows.uptoBulk d) ∧ (enc0 z).length = k := by
      intro i hi
      obtain ⟨cs', h1, h2⟩ := hx i (by omega)
      rw [hC] at h1
      obtain ⟨z, e3, hz⟩ := hel _ _ _ h2
      subst e3
      obtain ⟨_, hlen, hcell⟩ := World.cells?_some h1
      refine ⟨z, fun u y hu => ?_, hmono z _ _ ?_ hz, hlen⟩
      · have hul : u < k := by rw [← hlen]; exact (List.getElem?_eq_some_iff.1 hu).1
        have hg := (hcell u hul).trans hu
        have hg' : w.cell? ⟨a.block, a.off + i * k + u, none⟩ = some y := by
          rw [← hg, add_two (hspot (by omega))]
        exact ⟨hspot (by omega), hg', (by have := World.block_lt_of_cell? _ _ hg'; exact this)⟩
      · rw [hd]
        have := bulkAll_map D (List.range n) i (by simp [hi])
        simp only [Rows.uptoBulk]
        omega
    obtain ⟨Z, hZ⟩ : ∃ Z : Nat → α, ∀ i, i < n → (∀ u y, (enc0 (Z i))[u]? = some y → a.spot = none ∧ w.cell? ⟨a.block, a.off + i * k + u, none⟩ = some y ∧ a.block < w.heap.size) ∧ small (Z i) (Rows.uptoBulk d) ∧ (enc0 (Z i)).length = k := by
      classical
      refine ⟨fun i => if h : i < n then (key i h).choose else default, fun i hi => ?_⟩
      simp only [dif_pos hi]
      exact (key i hi).choose_spec
    have hget : ∀ j, j < n → ((List.range n).map Z)[j]! = Z j := fun j hj => by
      rw [getElem!_pos _ _ (by simpa using hj)]; simp
    refine ⟨some a, n, c, (List.range n).map Z, rfl, ⟨by simp, fun h0 => ?_⟩, ⟨(fun hh => by cases hh), hlc⟩, ?_, fun j hj => by rw [hget j hj]; exact (hZ j hj).2.1⟩
    · obtain ⟨h1, _, h3⟩ := hZ 0 h0
      obtain ⟨y, hy⟩ : ∃ y, (enc0 (Z 0))[0]? = some y := ⟨_, List.getElem?_eq_getElem (by omega)⟩
      obtain ⟨hs, _, hb⟩ := h1 0 y hy
      refine ⟨a.block, a.off, ?_, hb, fun j hj i u hu => ?_⟩
      · obtain ⟨b, o, s⟩ := a
        simp only at hs
        subst hs; rfl
      · rw [hget j hj] at hu
        exact ((hZ j hj).1 i u hu).2.1
    · rw [hd]
      have := bulkAll_len ((List.range n).map D)
      simp only [Rows.uptoBulk]
      simp at this
      omega

def SmallI (l : List IdV) (n m : Nat) : Prop := ∀ j, j < n → l[j]!.1.size ≤ m ∧ l[j]!.2.size ≤ m
/-- a session: its number, its timeout, the slice of its identities -/
abbrev SesV := Int × Int × Option Addr × Nat × Nat
def encS (z : SesV) : List Value := [.int .i64 z.1, .int .i32 z.2.1, .slice z.2.2.1 z.2.2.2.1 z.2.2.2.2]
/-- what holds of a session that lies in memory: these are its identities -/
def SesOk (w : World) (z : SesV) (l : List IdV) (m : Nat) : Prop := wfI z.1 ∧ (-2147483648 ≤ z.2.1 ∧ z.2.1 ≤ 2147483647) ∧ Sl w w.heap.size encId 2 z.2.2.1 z.2.2.2.1 l ∧ ((z.2.2.1 = none → z.2.2.2.1 = 0 ∧ z.2.2.2.2 = 0) ∧ z.2.2.2.1 ≤ z.2.2.2.2) ∧ z.2.2.2.1 ≤ m ∧ SmallI l z.2.2.2.1 m
theorem SesOk.mono {z : SesV} {l : List IdV} {m m' : Nat} (h : SesOk w z l m) (hm : m ≤ m') : SesOk w z l m' :=
  ⟨h.1, h.2.1, h.2.2.1, h.2.2.2.1, Nat.le_trans h.2.2.2.2.1 hm, fun j hj => ⟨Nat.le_trans (h.2.2.2.2.2 j hj).1 hm, Nat.le_trans (h.2.2.2.2.2 j hj).2 hm⟩⟩
theorem trod_sess {fuel : Nat} {cs : List Value} {x : DataW H × List MemPlace} (h : DataW.trod enc Tryz.prog w base spare held fuel 28 cs = some x) :
    ∃ z : SesV, cs = encS z ∧ ∃ l, SesOk w z l (Rows.uptoBulk x.1) := by
  obtain ⟨ys, n, _, rfl, hlen, hyl, hf⟩ := DataW.trod_struct Tryz.underlying28 h
  have hc : Tryz.prog.cellsOf 28 = 3 := by kernel_rfl
  have h1 : Tryz.prog.cellsOf 2 = 1 := by kernel_rfl
  have h2 : Tryz.prog.cellsOf 21 = 1 := by kernel_rfl
  have h3 : Tryz.prog.cellsOf 26 = 1 := by kernel_rfl
  rw [hc] at hlen
  match cs, hlen with
  | [a, b, c], _ =>
    match ys, hyl with
    | [y0, y1, y2], _ =>
      have g0 : DataW.trod enc Tryz.prog w base spare held n 2 (List.take (Tryz.prog.cellsOf 2) [a, b, c]) = some y0 := hf 0 _ rfl
      have g1 : DataW.trod enc Tryz.prog w base spare held n 21 (List.take (Tryz.prog.cellsOf 21) [b, c]) = some y1 := hf 1 _ rfl
      have g2 : DataW.trod enc Tryz.prog w base spare held n 26 (List.take (Tryz.prog.cellsOf 26) [c]) = some y2 := hf 2 _ rfl
      rw [h1] at g0
      rw [h2] at g1
      rw [h3] at g2
      simp only [List.take_succ_cons, List.take_zero] at g0 g1 g2
      obtain ⟨p0, e0, _, w0⟩ := DataW.trod_int Tryz.underlying2 g0
      obtain ⟨p1, e1, _, w1⟩ := DataW.trod_int Tryz.underlying21 g1
      obtain ⟨A, k, cp, l, e2, q1, q2, q3, q4⟩ := open_rowsT (enc0 := encId) (k := 2) Tryz.underlying26 (by kernel_rfl) (by decide) (fun (z : IdV) m => z.1.size ≤ m ∧ z.2.size ≤ m) (fun _ _ x hx => trod_id hx) (fun _ _ _ hab hz => ⟨Nat.le_trans hz.1 hab, Nat.le_trans hz.2 hab⟩) g2
      injection e0 with e0; injection e1 with e1; injection e2 with e2
      subst e0 e1 e2
      refine ⟨(p0, p1, A, k, cp), rfl, l, ?_⟩
      have hb : Rows.uptoBulk y2.1 ≤ Rows.uptoBulk (DataW.agg ([y0, y1, y2].map (·.1))) := by simp [Rows.uptoBulk, Rows.uptoBulkAll]; omega
      refine SesOk.mono ⟨?_, ?_, q1, q2, q3, q4⟩ hb
      · simp [Lit.wf] at w0; exact w0
      · simp [Lit.wf] at w1; exact w1
end
end Go.Proofs.YthpjneobmmpbnaaGreatDoor
namespace Go.Proofs.YthpjneobmmpbnaaGreatDoor
open Go.RowKit
/-- a Stat's numbers -/
structure StN where
  (a b c d e f g h i j k : Int)
instance : Inhabited StN := ⟨⟨0, 0, 0, 0, 0, 0, 0, 0, 0, 0, 0⟩⟩
/-- what of a result lies outside its lists -/
structure RsN where
  (ty co : Int) (path : ByteArray) (q : StN) (ct si st : Int)
instance : Inhabited RsN := ⟨⟨0, 0, ByteArray.empty, default, 0, 0, 0⟩⟩
structure RsH where
  (n : RsN) (d a m i s : SlC)
instance : Inhabited RsH := ⟨⟨default, (none, 0, 0), (none, 0, 0), (none, 0, 0), (none, 0, 0), (none, 0, 0)⟩⟩
structure RsF where
  (n : RsN) (data : Bs) (acl : List AclV) (names : List ByteArray) (ids : List IdV)
instance : Inhabited RsF := ⟨⟨default, [], [], [], []⟩⟩
abbrev RsT := Tr RsF
structure RpH where
  (xi zx co : Int) (r : RsH)
instance : Inhabited RpH := ⟨⟨0, 0, 0, default⟩⟩
structure RpT where
  (xi zx co : Int) (r : RsT)
instance : Inhabited RpT := ⟨⟨0, 0, 0, default⟩⟩
/-- a proposal: a delta and a reply -/
structure PrH where
  (d : DlH) (r : RpH)
instance : Inhabited PrH := ⟨⟨default, default⟩⟩
structure PrT where
  (d : DlT) (r : RpT)
instance : Inhabited PrT := ⟨⟨default, default⟩⟩
theorem DlAt.keep {w w' : World} {R : Nat → Prop} {h : DlH} {t : DlT} (H : DlAt w R h t) (hk : ∀ p : Addr, R p.block → w'.cell? p = w.cell? p) : DlAt w' R h t := ⟨H.1, TxAt.keep H.2 hk⟩
end Go.Proofs.YthpjneobmmpbnaaGreatDoor
