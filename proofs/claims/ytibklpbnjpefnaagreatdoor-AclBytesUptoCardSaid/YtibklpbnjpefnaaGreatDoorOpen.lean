/- Arguments that are lists of entries or of identities, an entry, an identity: opened to plain data. No condition. -/
import Derived.Test.YtibklpbnjpefnaaGreatDoorAclB
import Derived.Test.YtibklpbnjpefnaaGreatDoorFrame
import Derived.Deep.Slices
import Derived.ChangeArms
import Derived.WideShapes
namespace Go.Proofs.YtibklpbnjpefnaaGreatDoor
open Go.RowKit Go.WideShapes
set_option maxRecDepth 100000

theorem bulkAll_map {H : Type} (f : Nat → DataW H) : ∀ (l : List Nat) (i : Nat), i ∈ l → Rows.uptoBulk (f i) ≤ Rows.uptoBulkAll (l.map f) := fun _ _ h => bulk_part (List.mem_map_of_mem h)
theorem bulk_pos {H : Type} (d : DataW H) : 1 ≤ Rows.uptoBulk d := by
  cases d with
  | lit x => cases x <;> simp [Rows.uptoBulk]
  | _ => simp [Rows.uptoBulk]
theorem bulkAll_len {H : Type} : ∀ l : List (DataW H), l.length ≤ Rows.uptoBulkAll l
  | [] => by simp [Rows.uptoBulkAll]
  | d :: r => by have := bulkAll_len r; have := bulk_pos d; simp only [Rows.uptoBulkAll, List.length_cons]; omega
theorem bulk_text {H : Type} (s : ByteArray) : Rows.uptoBulk (DataW.lit (H := H) (.string s.data.toList)) = s.size + 1 := by
  have h4 : s.data.toList.length = s.size := by simp
  simp [Rows.uptoBulk, h4]

section
variable {H : Type} {enc : TypeId × Value → H} {w : World} {base : Nat} {spare : Nat → Bool} {held : Bool}
theorem trod_id {fuel : Nat} {cs : List Value} {x : DataW H × List MemPlace} (h : DataW.trod enc Tryz.prog w base spare held fuel 69 cs = some x) :
    ∃ z : IdV, cs = encId z ∧ z.1.size ≤ Rows.uptoBulk x.1 ∧ z.2.size ≤ Rows.uptoBulk x.1 := by
  obtain ⟨ys, n, _, rfl, hlen, hyl, hf⟩ := DataW.trod_struct Tryz.underlying69 h
  have hc : Tryz.prog.cellsOf 69 = 2 := by kernel_rfl
  have hs : Tryz.prog.cellsOf 9 = 1 := by kernel_rfl
  rw [hc] at hlen
  match cs, hlen with
  | [a, b], _ =>
    match ys, hyl with
    | [y0, y1], _ =>
      have g0 : DataW.trod enc Tryz.prog w base spare held n 9 (List.take (Tryz.prog.cellsOf 9) [a, b]) = some y0 := hf 0 _ rfl
      have g1 : DataW.trod enc Tryz.prog w base spare held n 9 (List.take (Tryz.prog.cellsOf 9) [b]) = some y1 := hf 1 _ rfl
      rw [hs] at g0 g1
      simp only [List.take_succ_cons, List.take_zero] at g0 g1
      obtain ⟨s, e0, rfl, _⟩ := DataW.trod_string Tryz.underlying9 g0
      obtain ⟨t, e1, rfl, _⟩ := DataW.trod_string Tryz.underlying9 g1
      injection e0 with e0
      injection e1 with e1
      subst e0 e1
      refine ⟨(s, t), rfl, ?_, ?_⟩ <;> simp [Rows.uptoBulk, Rows.uptoBulkAll] <;> omega
theorem trod_acl {fuel : Nat} {cs : List Value} {x : DataW H × List MemPlace} (h : DataW.trod enc Tryz.prog w base spare held fuel 71 cs = some x) :
    ∃ z : AclV, cs = encAcl z ∧ z.2.1.size ≤ Rows.uptoBulk x.1 ∧ z.2.2.size ≤ Rows.uptoBulk x.1 ∧ -2147483648 ≤ z.1 ∧ z.1 ≤ 2147483647 := by
  obtain ⟨ys, n, _, rfl, hlen, hyl, hf⟩ := DataW.trod_struct Tryz.underlying71 h
  have hc : Tryz.prog.cellsOf 71 = 3 := by kernel_rfl
  have hc2 : Tryz.prog.cellsOf 69 = 2 := by kernel_rfl
  have hs : Tryz.prog.cellsOf 21 = 1 := by kernel_rfl
  rw [hc] at hlen
  match cs, hlen with
  | [a, b, c], _ =>
    match ys, hyl with
    | [y0, y1], _ =>
      have g0 : DataW.trod enc Tryz.prog w base spare held n 21 (List.take (Tryz.prog.cellsOf 21) [a, b, c]) = some y0 := hf 0 _ rfl
      have g1 : DataW.trod enc Tryz.prog w base spare held n 69 (List.take (Tryz.prog.cellsOf 69) [b, c]) = some y1 := hf 1 _ rfl
      rw [hs] at g0
      rw [hc2] at g1
      simp only [List.take_succ_cons, List.take_zero] at g0 g1
      obtain ⟨p, e0, rfl, hp⟩ := DataW.trod_int Tryz.underlying21 g0
      obtain ⟨z, e1, h1, h2⟩ := trod_id g1
      injection e0 with e0
      subst e0
      have hb : Rows.uptoBulk y1.1 ≤ Rows.uptoBulk (DataW.agg ([(DataW.lit (.int .i32 p), []), y1].map (·.1))) := by simp [Rows.uptoBulk, Rows.uptoBulkAll]; omega
      refine ⟨(p, z), ?_, Nat.le_trans h1 hb, Nat.le_trans h2 hb, ?_, ?_⟩
      · rw [e1]; rfl
      all_goals (simp [Lit.wf] at hp; first | exact hp.1 | exact hp.2)

theorem add_two6 {a : Addr} (hs : a.spot = none) (i u : Nat) : (a.add i).add u = ⟨a.block, a.off + i + u, none⟩ := by
  obtain ⟨b, o, s⟩ := a
  simp only at hs
  subst hs
  simp only [Addr.add]
  by_cases h : i = 0 <;> by_cases h' : u = 0 <;> simp [h, h']
theorem add_nil_ (a : Addr) : a.add 0 = a := by simp [Addr.add]
theorem open_rows {α : Type} [Inhabited α] {enc0 : α → List Value} {k : Nat} {t e : TypeId} (ht : Tryz.prog.underlying t = some (.slice e)) (hC : Tryz.prog.cellsOf e = k) (hk0 : 0 < k) (small : α → Nat → Prop)
    (hel : ∀ (fuel : Nat) cs' (x : DataW H × List MemPlace), DataW.trod enc Tryz.prog w base spare held fuel e cs' = some x → ∃ z : α, cs' = enc0 z ∧ small z (Rows.uptoBulk x.1)) (hmono : ∀ z a b, a ≤ b → small z a → small z b)
    {v : Value} {d : DataW H} {ps : List MemPlace} {b0 : Nat} (hval : Value.okWide Tryz.prog w .any b0 t v) (h : DataW.Trod enc Tryz.prog w base spare held t v d ps) :
    ∃ A n c l, v = .slice A n c ∧ Sl w w.heap.size enc0 k A n l ∧ (A = none → n = 0 ∧ c = 0) ∧ n ≤ Rows.uptoBulk d ∧ ∀ j, j < n → small l[j]! (Rows.uptoBulk d) := by
  obtain ⟨A, n, c, rfl⟩ := okWide_slice ht hval
  obtain ⟨fuel, h⟩ := h
  rcases Deep.open_slice ht h with ⟨e1, e2⟩ | ⟨a, len, cap, m, n', D, Pl, e1, _, hlc, _, hm, e2, hx⟩
  · injection e1 with e1 _
    injection e1 with e1 e3 e4
    subst e1 e3 e4
    exact ⟨none, 0, 0, [], rfl, Sl.nil_, fun _ => ⟨rfl, rfl⟩, Nat.zero_le _, fun j hj => absurd hj (by omega)⟩
  · injection e1 with e1 _
    injection e1 with e1 e3 e4
    subst e1 e3 e4
    have hd : d = .slice ((List.range n).map D) ((List.range (m - n)).map fun j => D (n + j)) := congrArg Prod.fst e2
    have hnm : n ≤ m := by rw [hm]; split <;> omega
    have hspot : 0 < n → a.spot = none := fun h0 => by
      obtain ⟨cs', h1, h2⟩ := hx 0 (by omega)
      rw [hC, Nat.zero_mul, add_nil_] at h1
      obtain ⟨_, hlen, hcell⟩ := World.cells?_some h1
      have hg := hcell 0 hk0
      rw [add_nil_, List.getElem?_eq_getElem (by omega)] at hg
      exact World.cell?_spot hg
    have key : ∀ i, i < n → ∃ z : α, (∀ u y, (enc0 z)[u]? = some y → a.spot = none ∧ w.cell? ⟨a.block, a.off + i * k + u, none⟩ = some y ∧ a.block < w.heap.size) ∧ small z (Rows.uptoBulk d) ∧ (enc0 z).length = k := by
      intro i hi
      obtain ⟨cs', h1, h2⟩ := hx i (by omega)
      rw [hC] at h1
      obtain ⟨z, e3, hz⟩ := hel _ _ _ h2
      subst e3
      obtain ⟨_, hlen, hcell⟩ := World.cells?_some h1
      refine ⟨z, fun u y hu => ?_, hmono z _ _ ?_ hz, hlen⟩
      · have hul : u < k := by rw [← hlen]; exact (List.getElem?_eq_some_iff.1 hu).1
        have hg := (hcell u hul).trans hu
        have hg' : w.cell? ⟨a.block, a.off + i * k + u, none⟩ = some y := by
          rw [← hg, add_two6 (hspot (by omega))]
        exact ⟨hspot (by omega), hg', (by have := World.block_lt_of_cell? _ _ hg'; exact this)⟩
      · rw [hd]
        have := bulkAll_map D (List.range n) i (by simp [hi])
        simp only [Rows.uptoBulk]
        omega
    obtain ⟨Z, hZ⟩ : ∃ Z : Nat → α, ∀ i, i < n → (∀ u y, (enc0 (Z i))[u]? = some y → a.spot = none ∧ w.cell? ⟨a.block, a.off + i * k + u, none⟩ = some y ∧ a.block < w.heap.size) ∧ small (Z i) (Rows.uptoBulk d) ∧ (enc0 (Z i)).length = k := by
      classical
      refine ⟨fun i => if h : i < n then (key i h).choose else default, fun i hi => ?_⟩
      simp only [dif_pos hi]
      exact (key i hi).choose_spec
    have hget : ∀ j, j < n → ((List.range n).map Z)[j]! = Z j := fun j hj => by
      rw [getElem!_pos _ _ (by simpa using hj)]; simp
    refine ⟨some a, n, c, (List.range n).map Z, rfl, ⟨by simp, fun h0 => ?_⟩, (fun hh => by cases hh), ?_, fun j hj => by rw [hget j hj]; exact (hZ j hj).2.1⟩
    · obtain ⟨h1, _, h3⟩ := hZ 0 h0
      obtain ⟨y, hy⟩ : ∃ y, (enc0 (Z 0))[0]? = some y := ⟨_, List.getElem?_eq_getElem (by omega)⟩
      obtain ⟨hs, _, hb⟩ := h1 0 y hy
      refine ⟨a.block, a.off, ?_, hb, fun j hj i u hu => ?_⟩
      · obtain ⟨b, o, s⟩ := a
        simp only at hs
        subst hs; rfl
      · rw [hget j hj] at hu
        exact ((hZ j hj).1 i u hu).2.1
    · rw [hd]
      have := bulkAll_len ((List.range n).map D)
      simp only [Rows.uptoBulk]
      simp at this
      omega

/-- what an argument that is a list of entries is -/
theorem open_acls {v : Value} {d : DataW H} {ps : List MemPlace} {b0 : Nat} (hval : Value.okWide Tryz.prog w .any b0 22 v) (h : DataW.Trod enc Tryz.prog w base spare held 22 v d ps) (hb : Rows.uptoBulk d ≤ 1048576) :
    ∃ A n c l, v = .slice A n c ∧ Sl w w.heap.size encAcl 3 A n l ∧ (A = none → n = 0 ∧ c = 0) ∧ n ≤ 1048576 ∧ ∀ j, j < n → (l[j]!.2.1.size ≤ 1048576 ∧ l[j]!.2.2.size ≤ 1048576) ∧ -2147483648 ≤ l[j]!.1 ∧ l[j]!.1 ≤ 2147483647 := by
  obtain ⟨A, n, c, l, e, h1, h2, h3, h4⟩ := open_rows (k := 3) Tryz.underlying22 (by kernel_rfl) (by decide) (fun (z : AclV) b => (z.2.1.size ≤ b ∧ z.2.2.size ≤ b) ∧ -2147483648 ≤ z.1 ∧ z.1 ≤ 2147483647)
    (fun _ _ _ hx => by obtain ⟨z, e, a1, a2, a3, a4⟩ := trod_acl hx; exact ⟨z, e, ⟨a1, a2⟩, a3, a4⟩) (fun _ _ _ hab hz => ⟨⟨Nat.le_trans hz.1.1 hab, Nat.le_trans hz.1.2 hab⟩, hz.2⟩) hval h
  exact ⟨A, n, c, l, e, h1, h2, Nat.le_trans h3 hb, fun j hj => ⟨⟨Nat.le_trans (h4 j hj).1.1 hb, Nat.le_trans (h4 j hj).1.2 hb⟩, (h4 j hj).2⟩⟩
theorem open_ids {v : Value} {d : DataW H} {ps : List MemPlace} {b0 : Nat} (hval : Value.okWide Tryz.prog w .any b0 23 v) (h : DataW.Trod enc Tryz.prog w base spare held 23 v d ps) (hb : Rows.uptoBulk d ≤ 1048576) :
    ∃ A n c l, v = .slice A n c ∧ Sl w w.heap.size encId 2 A n l ∧ (A = none → n = 0 ∧ c = 0) ∧ n ≤ 1048576 ∧ ∀ j, j < n → l[j]!.1.size ≤ 1048576 ∧ l[j]!.2.size ≤ 1048576 := by
  obtain ⟨A, n, c, l, e, h1, h2, h3, h4⟩ := open_rows (k := 2) Tryz.underlying23 (by kernel_rfl) (by decide) (fun (z : IdV) b => z.1.size ≤ b ∧ z.2.size ≤ b)
    (fun _ _ _ hx => trod_id hx) (fun _ _ _ hab hz => ⟨Nat.le_trans hz.1 hab, Nat.le_trans hz.2 hab⟩) hval h
  exact ⟨A, n, c, l, e, h1, h2, Nat.le_trans h3 hb, fun j hj => ⟨Nat.le_trans (h4 j hj).1 hb, Nat.le_trans (h4 j hj).2 hb⟩⟩
/-- an argument that is an entry, or an identity -/
theorem open_acl {v : Value} {d : DataW H} {ps : List MemPlace} {b0 : Nat} (hval : Value.okWide Tryz.prog w .any b0 71 v) (h : DataW.Trod enc Tryz.prog w base spare held 71 v d ps) (hb : Rows.uptoBulk d ≤ 1048576) :
    ∃ z : AclV, v = .agg #[.int .i32 z.1, .string z.2.1, .string z.2.2] ∧ (z.2.1.size ≤ 1048576 ∧ z.2.2.size ≤ 1048576) ∧ -2147483648 ≤ z.1 ∧ z.1 ≤ 2147483647 := by
  obtain ⟨cs, rfl, _⟩ := okWide_struct Tryz.underlying71 hval
  obtain ⟨_, h⟩ := h
  obtain ⟨z, e, a1, a2, a3, a4⟩ := trod_acl h
  refine ⟨z, ?_, ⟨Nat.le_trans a1 hb, Nat.le_trans a2 hb⟩, a3, a4⟩
  have e' : cs.toList = encAcl z := e
  rw [show cs = (encAcl z).toArray from by rw [← e']]; rfl
theorem open_id {v : Value} {d : DataW H} {ps : List MemPlace} {b0 : Nat} (hval : Value.okWide Tryz.prog w .any b0 69 v) (h : DataW.Trod enc Tryz.prog w base spare held 69 v d ps) (hb : Rows.uptoBulk d ≤ 1048576) :
    ∃ z : IdV, v = .agg #[.string z.1, .string z.2] ∧ z.1.size ≤ 1048576 ∧ z.2.size ≤ 1048576 := by
  obtain ⟨cs, rfl, _⟩ := okWide_struct Tryz.underlying69 hval
  obtain ⟨_, h⟩ := h
  obtain ⟨z, e, a1, a2⟩ := trod_id h
  refine ⟨z, ?_, Nat.le_trans a1 hb, Nat.le_trans a2 hb⟩
  have e' : cs.toList = encId z := e
  rw [show cs = (encId z).toArray from by rw [← e']]; rfl
end
end Go.Proofs.YtibklpbnjpefnaaGreatDoor
