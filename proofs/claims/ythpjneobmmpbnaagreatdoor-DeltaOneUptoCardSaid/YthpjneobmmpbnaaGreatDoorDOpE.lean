/- Arguments that are transactions and deltas: they read as trees. No condition. -/
import Derived.Test.YthpjneobmmpbnaaGreatDoorDOpenS
import Derived.Test.YthpjneobmmpbnaaGreatDoorDRplP
import Derived.Test.YthpjneobmmpbnaaGreatDoorDAclDec
namespace Go.Proofs.YthpjneobmmpbnaaGreatDoor
open Go.RowKit Go.WideShapes
set_option maxRecDepth 100000
section
variable {H : Type} {enc : TypeId × Value → H} {w : World} {base : Nat} {spare : Nat → Bool} {held : Bool}
theorem trod_str {fuel : Nat} {cs : List Value} {x : DataW H × List MemPlace} (h : DataW.trod enc Tryz.prog w base spare held fuel 9 cs = some x) : ∃ s : ByteArray, cs = [.string s] ∧ s.size ≤ Rows.uptoBulk x.1 := by
  obtain ⟨s, e, rfl, _⟩ := DataW.trod_string Tryz.underlying9 h
  exact ⟨s, e, by simp [Rows.uptoBulk]⟩
theorem trod_aclD {fuel : Nat} {cs : List Value} {x : DataW H × List MemPlace} (h : DataW.trod enc Tryz.prog w base spare held fuel 110 cs = some x) :
    ∃ z : AclV, cs = encAcl z ∧ in32 z.1 ∧ z.2.1.size ≤ Rows.uptoBulk x.1 ∧ z.2.2.size ≤ Rows.uptoBulk x.1 := by
  obtain ⟨ys, n, _, rfl, hlen, hyl, hf⟩ := DataW.trod_struct Tryz.underlying110 h
  have hc : Tryz.prog.cellsOf 110 = 3 := by kernel_rfl
  have hc2 : Tryz.prog.cellsOf 108 = 2 := by kernel_rfl
  have hs : Tryz.prog.cellsOf 21 = 1 := by kernel_rfl
  rw [hc] at hlen
  match cs, hlen with
  | [a, b, c], _ =>
    match ys, hyl with
    | [y0, y1], _ =>
      have g0 : DataW.trod enc Tryz.prog w base spare held n 21 (List.take (Tryz.prog.cellsOf 21) [a, b, c]) = some y0 := hf 0 _ rfl
      have g1 : DataW.trod enc Tryz.prog w base spare held n 108 (List.take (Tryz.prog.cellsOf 108) [b, c]) = some y1 := hf 1 _ rfl
      rw [hs] at g0
      rw [hc2] at g1
      simp only [List.take_succ_cons, List.take_zero] at g0 g1
      obtain ⟨p, e0, rfl, hp⟩ := DataW.trod_int Tryz.underlying21 g0
      obtain ⟨z, e1, h1, h2⟩ := trod_id g1
      injection e0 with e0
      subst e0
      have hb : Rows.uptoBulk y1.1 ≤ Rows.uptoBulk (DataW.agg ([(DataW.lit (.int .i32 p), []), y1].map (·.1))) := by simp [Rows.uptoBulk, Rows.uptoBulkAll]; omega
      refine ⟨(p, z), ?_, ?_, Nat.le_trans h1 hb, Nat.le_trans h2 hb⟩
      · rw [e1]; rfl
      · simp [Lit.wf] at hp; exact hp
theorem openD8 {fuel : Nat} {cs : List Value} {x : DataW H × List MemPlace} (h : DataW.trod enc Tryz.prog w base spare held fuel 22 cs = some x) :
    ∃ A n c, ∃ l : Bs, cs = [.slice A n c] ∧ Sl w w.heap.size enc8 1 A n l ∧ hdOk (A, n, c) ∧ n ≤ Rows.uptoBulk x.1 ∧ True := by
  obtain ⟨A, n, c, l, e, h1, h2, h3, h4⟩ := open_rowsT (enc0 := enc8) (k := 1) Tryz.underlying22 (by kernel_rfl) (by decide) (fun (_ : UInt8) _ => True)
    (fun _ _ x hx => by
      obtain ⟨z, e, _, hw⟩ := DataW.trod_int Tryz.underlying5 hx
      have hw2 : 0 ≤ z ∧ z ≤ 255 := by simp [Lit.wf] at hw; exact hw
      refine ⟨UInt8.ofNat z.toNat, ?_, trivial⟩
      rw [e]
      unfold enc8
      have h9 : (UInt8.ofNat z.toNat).toNat = z.toNat := UInt8.toNat_ofNat_of_lt (by show z.toNat < 256; omega)
      rw [h9, Int.toNat_of_nonneg hw2.1]) (fun _ _ _ _ hz => hz) h
  exact ⟨A, n, c, l, e, h1, h2, h3, trivial⟩
theorem openDAcl {fuel : Nat} {cs : List Value} {x : DataW H × List MemPlace} (h : DataW.trod enc Tryz.prog w base spare held fuel 23 cs = some x) :
    ∃ A n c, ∃ l : List AclV, cs = [.slice A n c] ∧ Sl w w.heap.size encAcl 3 A n l ∧ hdOk (A, n, c) ∧ n ≤ Rows.uptoBulk x.1 ∧ ∀ j, j < n → in32 l[j]!.1 ∧ l[j]!.2.1.size ≤ Rows.uptoBulk x.1 ∧ l[j]!.2.2.size ≤ Rows.uptoBulk x.1 :=
  open_rowsT (enc0 := encAcl) (k := 3) Tryz.underlying23 (by kernel_rfl) (by decide) (fun (z : AclV) m => in32 z.1 ∧ z.2.1.size ≤ m ∧ z.2.2.size ≤ m) (fun _ _ x hx => trod_aclD hx) (fun _ _ _ hab hz => ⟨hz.1, Nat.le_trans hz.2.1 hab, Nat.le_trans hz.2.2 hab⟩) h
theorem openDStr {fuel : Nat} {cs : List Value} {x : DataW H × List MemPlace} (h : DataW.trod enc Tryz.prog w base spare held fuel 29 cs = some x) :
    ∃ A n c, ∃ l : List ByteArray, cs = [.slice A n c] ∧ Sl w w.heap.size encStr 1 A n l ∧ hdOk (A, n, c) ∧ n ≤ Rows.uptoBulk x.1 ∧ ∀ j, j < n → l[j]!.size ≤ Rows.uptoBulk x.1 :=
  open_rowsT (enc0 := encStr) (k := 1) Tryz.underlying29 (by kernel_rfl) (by decide) (fun (z : ByteArray) m => z.size ≤ m) (fun _ _ x hx => trod_str hx) (fun _ _ _ hab hz => Nat.le_trans hz hab) h
theorem open_rowsB {α : Type} [Inhabited α] {enc0 : α → List Value} {k : Nat} {t e : TypeId} (ht : Tryz.prog.underlying t = some (.slice e)) (hC : Tryz.prog.cellsOf e = k) (hk0 : 0 < k) (small : α → Nat → Prop)
    (M : Nat) (hel : ∀ (fuel : Nat) cs' (x : DataW H × List MemPlace), Rows.uptoBulk x.1 ≤ M → DataW.trod enc Tryz.prog w base spare held fuel e cs' = some x → ∃ z : α, cs' = enc0 z ∧ small z (Rows.uptoBulk x.1)) (hmono : ∀ z a b, a ≤ b → small z a → small z b)
    {fuel0 : Nat} {cs : List Value} {x : DataW H × List MemPlace} (hM : Rows.uptoBulk x.1 ≤ M + 1) (h : DataW.trod enc Tryz.prog w base spare held fuel0 t cs = some x) :
    ∃ A n c l, cs = [.slice A n c] ∧ Sl w w.heap.size enc0 k A n l ∧ ((A = none → n = 0 ∧ c = 0) ∧ n ≤ c) ∧ n ≤ Rows.uptoBulk x.1 ∧ ∀ j, j < n → small l[j]! (Rows.uptoBulk x.1) := by
  obtain ⟨d, ps⟩ := x
  dsimp only at hM ⊢
  rcases Deep.open_slice ht h with ⟨e1, e2⟩ | ⟨a, n, c, m, n', D, Pl, e1, _, hlc, _, hm, e2, hx⟩
  · subst e1
    exact ⟨none, 0, 0, [], rfl, Sl.nil_, ⟨fun _ => ⟨rfl, rfl⟩, Nat.le_refl _⟩, Nat.zero_le _, fun j hj => absurd hj (by omega)⟩
  · subst e1
    have hd : d = .slice ((List.range n).map D) ((List.range (m - n)).map fun j => D (n + j)) := congrArg Prod.fst e2
    have hnm : n ≤ m := by rw [hm]; split <;> omega
    have hspot : 0 < n → a.spot = none := fun h0 => by
      obtain ⟨cs', h1, h2⟩ := hx 0 (by omega)
      rw [hC, Nat.zero_mul, add_nil_] at h1
      obtain ⟨_, hlen, hcell⟩ := World.cells?_some h1
      have hg := hcell 0 hk0
      rw [add_nil_, List.getElem?_eq_getElem (by omega)] at hg
      exact World.cell?_spot hg
    have key : ∀ i, i < n → ∃ z : α, (∀ u y, (enc0 z)[u]? = some y → a.spot = none ∧ w.cell? ⟨a.block, a.off + i * k + u, none⟩ = some y ∧ a.block < w.heap.size) ∧ small z (Rows.uptoBulk d) ∧ (enc0 z).length = k := by
      intro i hi
      obtain ⟨cs', h1, h2⟩ := hx i (by omega)
      rw [hC] at h1
      have hle : Rows.uptoBulk (D i) ≤ M := by
        have h7 := bulkAll_map D (List.range n) i (by simp [hi])
        rw [hd] at hM
        simp only [Rows.uptoBulk] at hM
        omega
      obtain ⟨z, e3, hz⟩ := hel _ _ _ hle h2
      subst e3
      obtain ⟨_, hlen, hcell⟩ := World.cells?_some h1
      refine ⟨z, fun u y hu => ?_, hmono z _ _ ?_ hz, hlen⟩
      · have hul : u < k := by rw [← hlen]; exact (List.getElem?_eq_some_iff.1 hu).1
        have hg := (hcell u hul).trans hu
        have hg' : w.cell? ⟨a.block, a.off + i * k + u, none⟩ = some y := by
          rw [← hg, add_two (hspot (by omega))]
        exact ⟨hspot (by omega), hg', (by have := World.block_lt_of_cell? _ _ hg'; exact this)⟩
      · rw [hd]
        have := bulkAll_map D (List.range n) i (by simp [hi])
        simp only [Rows.uptoBulk]
        omega
    obtain ⟨Z, hZ⟩ : ∃ Z : Nat → α, ∀ i, i < n → (∀ u y, (enc0 (Z i))[u]? = some y → a.spot = none ∧ w.cell? ⟨a.block, a.off + i * k + u, none⟩ = some y ∧ a.block < w.heap.size) ∧ small (Z i) (Rows.uptoBulk d) ∧ (enc0 (Z i)).length = k := by
      classical
      refine ⟨fun i => if h : i < n then (key i h).choose else default, fun i hi => ?_⟩
      simp only [dif_pos hi]
      exact (key i hi).choose_spec
    have hget : ∀ j, j < n → ((List.range n).map Z)[j]! = Z j := fun j hj => by
      rw [getElem!_pos _ _ (by simpa using hj)]; simp
    refine ⟨some a, n, c, (List.range n).map Z, rfl, ⟨by simp, fun h0 => ?_⟩, ⟨(fun hh => by cases hh), hlc⟩, ?_, fun j hj => by rw [hget j hj]; exact (hZ j hj).2.1⟩
    · obtain ⟨h1, _, h3⟩ := hZ 0 h0
      obtain ⟨y, hy⟩ : ∃ y, (enc0 (Z 0))[0]? = some y := ⟨_, List.getElem?_eq_getElem (by omega)⟩
      obtain ⟨hs, _, hb⟩ := h1 0 y hy
      refine ⟨a.block, a.off, ?_, hb, fun j hj i u hu => ?_⟩
      · obtain ⟨b, o, s⟩ := a
        simp only at hs
        subst hs; rfl
      · rw [hget j hj] at hu
        exact ((hZ j hj).1 i u hu).2.1
    · rw [hd]
      have := bulkAll_len ((List.range n).map D)
      simp only [Rows.uptoBulk]
      simp at this
      omega

theorem trod_quota {fuel : Nat} {cs : List Value} {x : DataW H × List MemPlace} (h : DataW.trod enc Tryz.prog w base spare held fuel 25 cs = some x) : ∃ (q : Bool) (a b : Int), cs = [.bool q, .int .i64 a, .int .i64 b] ∧ in64 a ∧ in64 b := by
  obtain ⟨ys, n, _, rfl, hlen, hyl, hf⟩ := DataW.trod_struct Tryz.underlying25 h
  have hc : Tryz.prog.cellsOf 25 = 3 := by kernel_rfl
  have q_bool : Tryz.prog.cellsOf 4 = 1 := by kernel_rfl
  have q_int64 : Tryz.prog.cellsOf 2 = 1 := by kernel_rfl
  rw [hc] at hlen
  match cs, hlen with
  | [k0, k1, k2], _ =>
    match ys, hyl with
    | [y0, y1, y2], _ =>
      have g0 : DataW.trod enc Tryz.prog w base spare held n 4 (List.take (Tryz.prog.cellsOf 4) [k0, k1, k2]) = some y0 := hf 0 _ rfl
      rw [q_bool] at g0
      have g1 : DataW.trod enc Tryz.prog w base spare held n 2 (List.take (Tryz.prog.cellsOf 2) [k1, k2]) = some y1 := hf 1 _ rfl
      rw [q_int64] at g1
      have g2 : DataW.trod enc Tryz.prog w base spare held n 2 (List.take (Tryz.prog.cellsOf 2) [k2]) = some y2 := hf 2 _ rfl
      rw [q_int64] at g2
      simp only [List.take_succ_cons, List.take_zero] at g0 g1 g2
      have hb0 : Rows.uptoBulk y0.1 < Rows.uptoBulk (DataW.agg ([y0, y1, y2].map (·.1))) := by simp [Rows.uptoBulk, Rows.uptoBulkAll]; omega
      have hb1 : Rows.uptoBulk y1.1 < Rows.uptoBulk (DataW.agg ([y0, y1, y2].map (·.1))) := by simp [Rows.uptoBulk, Rows.uptoBulkAll]; omega
      have hb2 : Rows.uptoBulk y2.1 < Rows.uptoBulk (DataW.agg ([y0, y1, y2].map (·.1))) := by simp [Rows.uptoBulk, Rows.uptoBulkAll]; omega
      obtain ⟨p0, e0, _⟩ := DataW.trod_bool Tryz.underlying4 g0
      injection e0 with e0
      obtain ⟨p1, e1, _, w1⟩ := DataW.trod_int Tryz.underlying2 g1
      injection e1 with e1
      obtain ⟨p2, e2, _, w2⟩ := DataW.trod_int Tryz.underlying2 g2
      injection e2 with e2
      subst e0 e1 e2
      exact ⟨p0, p1, p2, rfl, by simp [Lit.wf] at w1; exact w1, by simp [Lit.wf] at w2; exact w2⟩
theorem trod_tx : ∀ (N fuel : Nat) (cs : List Value) (x : DataW H × List MemPlace), Rows.uptoBulk x.1 ≤ N → DataW.trod enc Tryz.prog w base spare held fuel 33 cs = some x →
    ∃ z : TxH × TxT, cs = encTx z.1 ∧ TxAt w (· < w.heap.size) z.1 z.2 ∧ TxOk (Rows.uptoBulk x.1) z.2 := by
  intro N
  induction N with
  | zero => intro fuel cs x hN _; have := bulk_pos x.1; omega
  | succ N ih =>
    intro fuel cs x hN h
    obtain ⟨ys, n, _, rfl, hlen, hyl, hf⟩ := DataW.trod_struct Tryz.underlying33 h
    have hc : Tryz.prog.cellsOf 33 = 16 := by kernel_rfl
    have q_Code : Tryz.prog.cellsOf 30 = 1 := by kernel_rfl
    have q_acl : Tryz.prog.cellsOf 23 = 1 := by kernel_rfl
    have q_bytes : Tryz.prog.cellsOf 22 = 1 := by kernel_rfl
    have q_int32 : Tryz.prog.cellsOf 21 = 1 := by kernel_rfl
    have q_int64 : Tryz.prog.cellsOf 2 = 1 := by kernel_rfl
    have q_quota : Tryz.prog.cellsOf 25 = 3 := by kernel_rfl
    have q_ses : Tryz.prog.cellsOf 28 = 3 := by kernel_rfl
    have q_string : Tryz.prog.cellsOf 9 = 1 := by kernel_rfl
    have q_strs : Tryz.prog.cellsOf 29 = 1 := by kernel_rfl
    have q_txns : Tryz.prog.cellsOf 31 = 1 := by kernel_rfl
    rw [hc] at hlen
    match cs, hlen with
    | [k0, k1, k2, k3, k4, k5, k6, k7, k8, k9, k10, k11, k12, k13, k14, k15], _ =>
      match ys, hyl with
      | [y0, y1, y2, y3, y4, y5, y6, y7, y8, y9, y10, y11], _ =>
        have g0 : DataW.trod enc Tryz.prog w base spare held n 21 (List.take (Tryz.prog.cellsOf 21) [k0, k1, k2, k3, k4, k5, k6, k7, k8, k9, k10, k11, k12, k13, k14, k15]) = some y0 := hf 0 _ rfl
        rw [q_int32] at g0
        have g1 : DataW.trod enc Tryz.prog w base spare held n 9 (List.take (Tryz.prog.cellsOf 9) [k1, k2, k3, k4, k5, k6, k7, k8, k9, k10, k11, k12, k13, k14, k15]) = some y1 := hf 1 _ rfl
        rw [q_string] at g1
        have g2 : DataW.trod enc Tryz.prog w base spare held n 22 (List.take (Tryz.prog.cellsOf 22) [k2, k3, k4, k5, k6, k7, k8, k9, k10, k11, k12, k13, k14, k15]) = some y2 := hf 2 _ rfl
        rw [q_bytes] at g2
        have g3 : DataW.trod enc Tryz.prog w base spare held n 23 (List.take (Tryz.prog.cellsOf 23) [k3, k4, k5, k6, k7, k8, k9, k10, k11, k12, k13, k14, k15]) = some y3 := hf 3 _ rfl
        rw [q_acl] at g3
        have g4 : DataW.trod enc Tryz.prog w base spare held n 2 (List.take (Tryz.prog.cellsOf 2) [k4, k5, k6, k7, k8, k9, k10, k11, k12, k13, k14, k15]) = some y4 := hf 4 _ rfl
        rw [q_int64] at g4
        have g5 : DataW.trod enc Tryz.prog w base spare held n 21 (List.take (Tryz.prog.cellsOf 21) [k5, k6, k7, k8, k9, k10, k11, k12, k13, k14, k15]) = some y5 := hf 5 _ rfl
        rw [q_int32] at g5
        have g6 : DataW.trod enc Tryz.prog w base spare held n 21 (List.take (Tryz.prog.cellsOf 21) [k6, k7, k8, k9, k10, k11, k12, k13, k14, k15]) = some y6 := hf 6 _ rfl
        rw [q_int32] at g6
        have g7 : DataW.trod enc Tryz.prog w base spare held n 25 (List.take (Tryz.prog.cellsOf 25) [k7, k8, k9, k10, k11, k12, k13, k14, k15]) = some y7 := hf 7 _ rfl
        rw [q_quota] at g7
        have g8 : DataW.trod enc Tryz.prog w base spare held n 28 (List.take (Tryz.prog.cellsOf 28) [k10, k11, k12, k13, k14, k15]) = some y8 := hf 8 _ rfl
        rw [q_ses] at g8
        have g9 : DataW.trod enc Tryz.prog w base spare held n 29 (List.take (Tryz.prog.cellsOf 29) [k13, k14, k15]) = some y9 := hf 9 _ rfl
        rw [q_strs] at g9
        have g10 : DataW.trod enc Tryz.prog w base spare held n 30 (List.take (Tryz.prog.cellsOf 30) [k14, k15]) = some y10 := hf 10 _ rfl
        rw [q_Code] at g10
        have g11 : DataW.trod enc Tryz.prog w base spare held n 31 (List.take (Tryz.prog.cellsOf 31) [k15]) = some y11 := hf 11 _ rfl
        rw [q_txns] at g11
        simp only [List.take_succ_cons, List.take_zero] at g0 g1 g2 g3 g4 g5 g6 g7 g8 g9 g10 g11
        have hb0 : Rows.uptoBulk y0.1 < Rows.uptoBulk (DataW.agg ([y0, y1, y2, y3, y4, y5, y6, y7, y8, y9, y10, y11].map (·.1))) := by simp [Rows.uptoBulk, Rows.uptoBulkAll]; omega
        have hb1 : Rows.uptoBulk y1.1 < Rows.uptoBulk (DataW.agg ([y0, y1, y2, y3, y4, y5, y6, y7, y8, y9, y10, y11].map (·.1))) := by simp [Rows.uptoBulk, Rows.uptoBulkAll]; omega
        have hb2 : Rows.uptoBulk y2.1 < Rows.uptoBulk (DataW.agg ([y0, y1, y2, y3, y4, y5, y6, y7, y8, y9, y10, y11].map (·.1))) := by simp [Rows.uptoBulk, Rows.uptoBulkAll]; omega
        have hb3 : Rows.uptoBulk y3.1 < Rows.uptoBulk (DataW.agg ([y0, y1, y2, y3, y4, y5, y6, y7, y8, y9, y10, y11].map (·.1))) := by simp [Rows.uptoBulk, Rows.uptoBulkAll]; omega
        have hb4 : Rows.uptoBulk y4.1 < Rows.uptoBulk (DataW.agg ([y0, y1, y2, y3, y4, y5, y6, y7, y8, y9, y10, y11].map (·.1))) := by simp [Rows.uptoBulk, Rows.uptoBulkAll]; omega
        have hb5 : Rows.uptoBulk y5.1 < Rows.uptoBulk (DataW.agg ([y0, y1, y2, y3, y4, y5, y6, y7, y8, y9, y10, y11].map (·.1))) := by simp [Rows.uptoBulk, Rows.uptoBulkAll]; omega
        have hb6 : Rows.uptoBulk y6.1 < Rows.uptoBulk (DataW.agg ([y0, y1, y2, y3, y4, y5, y6, y7, y8, y9, y10, y11].map (·.1))) := by simp [Rows.uptoBulk, Rows.uptoBulkAll]; omega
        have hb7 : Rows.uptoBulk y7.1 < Rows.uptoBulk (DataW.agg ([y0, y1, y2, y3, y4, y5, y6, y7, y8, y9, y10, y11].map (·.1))) := by simp [Rows.uptoBulk, Rows.uptoBulkAll]; omega
        have hb8 : Rows.uptoBulk y8.1 < Rows.uptoBulk (DataW.agg ([y0, y1, y2, y3, y4, y5, y6, y7, y8, y9, y10, y11].map (·.1))) := by simp [Rows.uptoBulk, Rows.uptoBulkAll]; omega
        have hb9 : Rows.uptoBulk y9.1 < Rows.uptoBulk (DataW.agg ([y0, y1, y2, y3, y4, y5, y6, y7, y8, y9, y10, y11].map (·.1))) := by simp [Rows.uptoBulk, Rows.uptoBulkAll]; omega
        have hb10 : Rows.uptoBulk y10.1 < Rows.uptoBulk (DataW.agg ([y0, y1, y2, y3, y4, y5, y6, y7, y8, y9, y10, y11].map (·.1))) := by simp [Rows.uptoBulk, Rows.uptoBulkAll]; omega
        have hb11 : Rows.uptoBulk y11.1 < Rows.uptoBulk (DataW.agg ([y0, y1, y2, y3, y4, y5, y6, y7, y8, y9, y10, y11].map (·.1))) := by simp [Rows.uptoBulk, Rows.uptoBulkAll]; omega
        dsimp only at hN ⊢
        obtain ⟨ty, e0, _, w0⟩ := DataW.trod_int Tryz.underlying21 g0
        injection e0 with e0
        obtain ⟨path, e1, hs1⟩ := trod_str g1
        injection e1 with e1
        obtain ⟨A2, n2, c2, l2, e2, r2, m2, s2, t2⟩ := openD8 g2
        injection e2 with e2
        obtain ⟨A3, n3, c3, l3, e3, r3, m3, s3, t3⟩ := openDAcl g3
        injection e3 with e3
        obtain ⟨ow, e4, _, w4⟩ := DataW.trod_int Tryz.underlying2 g4
        injection e4 with e4
        obtain ⟨ve, e5, _, w5⟩ := DataW.trod_int Tryz.underlying21 g5
        injection e5 with e5
        obtain ⟨cr, e6, _, w6⟩ := DataW.trod_int Tryz.underlying21 g6
        injection e6 with e6
        obtain ⟨qh, qc, qb, e7, w7, w7'⟩ := trod_quota g7
        injection e7 with e7 e7'; injection e7' with e7' e7''; injection e7'' with e7''
        obtain ⟨⟨si, st, A8, n8, c8⟩, e8, l8, hz8⟩ := trod_sess g8
        injection e8 with e8 e8'; injection e8' with e8' e8''; injection e8'' with e8''
        obtain ⟨A9, n9, c9, l9, e9, r9, m9, s9, t9⟩ := openDStr g9
        injection e9 with e9
        obtain ⟨co, e10, _, w10⟩ := DataW.trod_int Tryz.underlying30 g10
        injection e10 with e10
        obtain ⟨A11, n11, c11, l11, e11, r11, m11, s11, t11⟩ := open_rowsB (enc0 := fun z : TxH × TxT => encTx z.1) (k := 16) Tryz.underlying31 (by kernel_rfl) (by decide) (fun (z : TxH × TxT) m => TxAt w (· < w.heap.size) z.1 z.2 ∧ TxOk m z.2) N (fun fu cs' x' hx' hh => ih fu cs' x' hx' hh) (fun _ _ _ hab hz => ⟨hz.1, hz.2.mono fun _ _ h => h.mono hab⟩) (by omega) g11
        injection e11 with e11
        subst e0 e1 e2 e3 e4 e5 e6 e7 e7' e7'' e8 e8' e8'' e9 e10 e11
        have hlen11 : l11.length = n11 := r11.len
        have g1' : ∀ j, j < n11 → (l11.map (·.1))[j]! = l11[j]!.1 := fun j hj => by rw [getElem!_pos _ j (by simpa [hlen11] using hj), getElem!_pos l11 j (by omega)]; simp
        have g2' : ∀ j, j < n11 → (l11.map (·.2))[j]! = l11[j]!.2 := fun j hj => by rw [getElem!_pos _ j (by simpa [hlen11] using hj), getElem!_pos l11 j (by omega)]; simp
        refine ⟨(⟨⟨ty, path, ow, ve, cr, qh, qc, qb, si, st, co⟩, (A2, n2, c2), (A3, n3, c3), (A8, n8, c8), (A9, n9, c9), (A11, n11, c11)⟩, .mk ⟨⟨ty, path, ow, ve, cr, qh, qc, qb, si, st, co⟩, l2, l3, l8, l9⟩ (l11.map (·.2))), rfl, ?_, ?_⟩
        · refine TrAt.of_subs (L := l11.map (·.1)) ⟨rfl, SlR.of_sl r2 m2, SlR.of_sl r3 m3, SlR.of_sl hz8.2.2.1 hz8.2.2.2.1, SlR.of_sl r9 m9⟩ (by simp [hlen11]) ⟨by simp [hlen11], m11, fun h0 => ?_⟩ (fun j hj => ?_)
          · obtain ⟨b, off, eA, hb, hc⟩ := r11.2 h0
            exact ⟨b, off, eA, hb, fun j hj i u hu => hc j hj i u (by rw [g1' j hj] at hu; exact hu)⟩
          · rw [g1' j hj, g2' j hj]; exact (t11 j hj).1
        · refine .mk _ _ ⟨⟨by simp [Lit.wf] at w0; exact w0, by simp [Lit.wf] at w4; exact w4, by simp [Lit.wf] at w5; exact w5, by simp [Lit.wf] at w6; exact w6, w7, w7', hz8.1, hz8.2.1, by simp [Lit.wf] at w10; exact w10⟩, by show path.size ≤ _; omega, by show l2.length ≤ _; rw [r2.len]; omega, by show l3.length ≤ _; rw [r3.len]; omega, Nat.le_trans (Nat.le_of_eq hz8.2.2.1.len) (Nat.le_trans hz8.2.2.2.2.1 (Nat.le_of_lt hb8)), by show l9.length ≤ _; rw [r9.len]; omega, by rw [List.length_map, hlen11]; omega, fun j hj => ?_, fun j hj => ?_, fun j hj => ?_⟩ (fun j hj => ?_)
          · have := t3 j (by rw [← r3.len]; exact hj); exact ⟨this.1, Nat.le_trans this.2.1 (Nat.le_of_lt hb3), Nat.le_trans this.2.2 (Nat.le_of_lt hb3)⟩
          · have := hz8.2.2.2.2.2 j (by rw [← hz8.2.2.1.len]; exact hj); exact ⟨Nat.le_trans this.1 (Nat.le_of_lt hb8), Nat.le_trans this.2 (Nat.le_of_lt hb8)⟩
          · exact Nat.le_trans (t9 j (by rw [← r9.len]; exact hj)) (Nat.le_of_lt hb9)
          · have hj' : j < n11 := by simpa [hlen11] using hj
            rw [g2' j hj']
            exact (t11 j hj').2.mono fun _ _ h => h.mono (by omega)
theorem DlSm.mono {m m' : Nat} {d : DlT} (h : DlSm m d) (hm : m ≤ m') : DlSm m' d := ⟨h.1, h.2.mono fun _ _ h => h.mono hm⟩
theorem trod_dl {fuel : Nat} {cs : List Value} {x : DataW H × List MemPlace} (h : DataW.trod enc Tryz.prog w base spare held fuel 35 cs = some x) : ∃ z : DlH × DlT, cs = encDl z.1 ∧ DlAt w (· < w.heap.size) z.1 z.2 ∧ DlSm (Rows.uptoBulk x.1) z.2 := by
  obtain ⟨ys, n, _, rfl, hlen, hyl, hf⟩ := DataW.trod_struct Tryz.underlying35 h
  have hc : Tryz.prog.cellsOf 35 = 20 := by kernel_rfl
  have q_Txn : Tryz.prog.cellsOf 33 = 16 := by kernel_rfl
  have q_int32 : Tryz.prog.cellsOf 21 = 1 := by kernel_rfl
  have q_int64 : Tryz.prog.cellsOf 2 = 1 := by kernel_rfl
  rw [hc] at hlen
  match cs, hlen with
  | [k0, k1, k2, k3, k4, k5, k6, k7, k8, k9, k10, k11, k12, k13, k14, k15, k16, k17, k18, k19], _ =>
    match ys, hyl with
    | [y0, y1, y2, y3, y4], _ =>
      have g0 : DataW.trod enc Tryz.prog w base spare held n 2 (List.take (Tryz.prog.cellsOf 2) [k0, k1, k2, k3, k4, k5, k6, k7, k8, k9, k10, k11, k12, k13, k14, k15, k16, k17, k18, k19]) = some y0 := hf 0 _ rfl
      rw [q_int64] at g0
      have g1 : DataW.trod enc Tryz.prog w base spare held n 21 (List.take (Tryz.prog.cellsOf 21) [k1, k2, k3, k4, k5, k6, k7, k8, k9, k10, k11, k12, k13, k14, k15, k16, k17, k18, k19]) = some y1 := hf 1 _ rfl
      rw [q_int32] at g1
      have g2 : DataW.trod enc Tryz.prog w base spare held n 2 (List.take (Tryz.prog.cellsOf 2) [k2, k3, k4, k5, k6, k7, k8, k9, k10, k11, k12, k13, k14, k15, k16, k17, k18, k19]) = some y2 := hf 2 _ rfl
      rw [q_int64] at g2
      have g3 : DataW.trod enc Tryz.prog w base spare held n 2 (List.take (Tryz.prog.cellsOf 2) [k3, k4, k5, k6, k7, k8, k9, k10, k11, k12, k13, k14, k15, k16, k17, k18, k19]) = some y3 := hf 3 _ rfl
      rw [q_int64] at g3
      have g4 : DataW.trod enc Tryz.prog w base spare held n 33 (List.take (Tryz.prog.cellsOf 33) [k4, k5, k6, k7, k8, k9, k10, k11, k12, k13, k14, k15, k16, k17, k18, k19]) = some y4 := hf 4 _ rfl
      rw [q_Txn] at g4
      simp only [List.take_succ_cons, List.take_zero] at g0 g1 g2 g3 g4
      have hb0 : Rows.uptoBulk y0.1 < Rows.uptoBulk (DataW.agg ([y0, y1, y2, y3, y4].map (·.1))) := by simp [Rows.uptoBulk, Rows.uptoBulkAll]; omega
      have hb1 : Rows.uptoBulk y1.1 < Rows.uptoBulk (DataW.agg ([y0, y1, y2, y3, y4].map (·.1))) := by simp [Rows.uptoBulk, Rows.uptoBulkAll]; omega
      have hb2 : Rows.uptoBulk y2.1 < Rows.uptoBulk (DataW.agg ([y0, y1, y2, y3, y4].map (·.1))) := by simp [Rows.uptoBulk, Rows.uptoBulkAll]; omega
      have hb3 : Rows.uptoBulk y3.1 < Rows.uptoBulk (DataW.agg ([y0, y1, y2, y3, y4].map (·.1))) := by simp [Rows.uptoBulk, Rows.uptoBulkAll]; omega
      have hb4 : Rows.uptoBulk y4.1 < Rows.uptoBulk (DataW.agg ([y0, y1, y2, y3, y4].map (·.1))) := by simp [Rows.uptoBulk, Rows.uptoBulkAll]; omega
      dsimp only
      obtain ⟨se, e0, _, w0⟩ := DataW.trod_int Tryz.underlying2 g0
      injection e0 with e0
      obtain ⟨xi, e1, _, w1⟩ := DataW.trod_int Tryz.underlying21 g1
      injection e1 with e1
      obtain ⟨zx, e2, _, w2⟩ := DataW.trod_int Tryz.underlying2 g2
      injection e2 with e2
      obtain ⟨ti, e3, _, w3⟩ := DataW.trod_int Tryz.underlying2 g3
      injection e3 with e3
      obtain ⟨⟨hh, tt⟩, e4, r4, s4⟩ := trod_tx _ _ _ _ (Nat.le_refl _) g4
      subst e0 e1 e2 e3
      refine ⟨(⟨se, xi, zx, ti, hh⟩, ⟨se, xi, zx, ti, tt⟩), ?_, ⟨⟨rfl, rfl, rfl, rfl⟩, r4⟩, ⟨by simp [Lit.wf] at w0; exact w0, by simp [Lit.wf] at w1; exact w1, by simp [Lit.wf] at w2; exact w2, by simp [Lit.wf] at w3; exact w3⟩, s4.mono fun _ _ h => h.mono (Nat.le_of_lt hb4)⟩
      show _ = [Value.int .i64 se, .int .i32 xi, .int .i64 zx, .int .i64 ti] ++ encTx hh
      rw [← e4]; rfl
theorem open_dl {v : Value} {d : DataW H} {ps : List MemPlace} {b0 : Nat} (hval : Value.okWide Tryz.prog w .any b0 35 v) (h : DataW.Trod enc Tryz.prog w base spare held 35 v d ps) (hb : Rows.uptoBulk d ≤ 1048576) :
    ∃ z : DlH × DlT, v = dlV z.1 ∧ DlAt w (· < w.heap.size) z.1 z.2 ∧ DlSm 1048576 z.2 := by
  obtain ⟨cs, rfl, _⟩ := okWide_struct Tryz.underlying35 hval
  obtain ⟨_, h⟩ := h
  obtain ⟨z, e, hz, hs⟩ := trod_dl h
  refine ⟨z, ?_, hz, hs.mono hb⟩
  have e' : cs.toList = encDl z.1 := e
  show Value.agg cs = .agg (encDl z.1).toArray
  rw [← e']
end
end Go.Proofs.YthpjneobmmpbnaaGreatDoor
