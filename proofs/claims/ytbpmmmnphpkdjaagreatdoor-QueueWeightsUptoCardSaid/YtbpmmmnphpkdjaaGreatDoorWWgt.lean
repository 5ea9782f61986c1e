/- A queue whose voters have one group and one weight, above 0, is as one without weights: all it answers is the same. -/
import Derived.Test.YtbpmmmnphpkdjaaGreatDoorWRqA
import Derived.Test.YtbpmmmnphpkdjaaGreatDoorWRplI
import Derived.Deep.RegionWith
import Derived.Test.YtbpmmmnphpkdjaaGreatDoorWQuoG
namespace Go.Proofs.YtbpmmmnphpkdjaaGreatDoor
set_option linter.unusedSimpArgs false
set_option maxRecDepth 100000
set_option maxHeartbeats 20000000
open Go.RowKit Go.MapKept Go.Maps
/-- a new queue with these voters -/
def newW (bound : Int) (l : List VtV) : QuT := ⟨[], bound, l, List.replicate l.length 0, 0, 0⟩
open Go.RowKit Go.MapKept Go.Maps
/-- a queue whose parts are laid -/
theorem QuW.laid {w : World} {bq ga B E k cv : Nat} {Av : Option Addr} {l : List VtV} {bound : Int} (hl : l.length = k)
  (hbx : w.heap[bq]? = some (.cells #[.slice none 0 0, .int .i64 0, .int .i64 0, .int .i64 bound, .slice Av k cv, .slice (some ⟨ga, 0, none⟩) k k, .int .i64 0, .int .i64 0] 135 (0, 0)))
  (hvs : SlR w (fun b => B ≤ b ∧ b < E) encVt 2 (Av, k, cv) l) (hga : w.heap[ga]? = some (.cells (madeCells #[.int .i64 0] k) 2 (0, 0))) (h1 : ga < B ∨ E ≤ ga) (h2 : E ≤ bq) (h3 : ga ≠ bq) :
  QuW w bq ⟨bq, 0, 0, none, (Av, k, cv), ga, k, some ⟨ga, 0, none⟩⟩ (fun b => B ≤ b ∧ b < E) (newW bound l) := by
 have hbl := (Array.getElem?_eq_some_iff.1 hbx).1
 have hal := (Array.getElem?_eq_some_iff.1 hga).1
 have hrz : ∀ j, j < k → (List.replicate k (0 : Int))[j]! = 0 := fun j hj => by rw [getElem!_pos _ j (by simpa using hj)]; simp
 have hmi : ∀ j, j < k → (madeCells #[.int .i64 0] k)[j]? = some (.int .i64 0) := fun j hj => by have := qke k j hj; rwa [Nat.mul_one] at this
 refine ⟨⟨?_, ?_, ?_, ?_, ?_, ?_, ?_, ?_, ?_⟩, ?_, ?_, ?_, ?_⟩
 ·rw [hbx]; simp [newW, hl]
 ·exact ⟨Nat.le_refl _, .inr ⟨rfl, rfl⟩, .inl ⟨rfl, rfl⟩, .inr rfl, fun j hj => absurd hj (by simp [newW])⟩
 ·exact hvs
 ·refine .inr ⟨rfl, fun j hj => ?_, fun j hj => ?_⟩
  ·have hj' : j < k := by simpa [newW, hl] using hj
   exact ⟨by rw [Nat.zero_add, qaf hga, hmi j hj']; rfl, by simp [World.frozen?, hga]⟩
  ·have hj' : j < k := by simpa [newW, hl] using hj
   rw [qaf hga, hmi j hj', show (newW bound l).acked = List.replicate k 0 from by simp [newW, hl], hrz j hj']
 ·simp [newW, hl]
 ·rintro b ⟨_, hb⟩; omega
 ·rintro ⟨_, hb⟩; omega
 ·intro h; exact absurd h (by simp)
 ·intro _; exact ⟨h3, by rintro ⟨(_ : B ≤ ga), (_ : ga < E)⟩; omega, hal, fun h => absurd h (by simp)⟩
 ·exact hbl
 ·exact hal
 ·rintro ⟨(_ : B ≤ ga), (_ : ga < E)⟩; omega
 ·show 0 ≤ 8192; omega
theorem qiq (bound : Int) (A : Option Addr) (n c : Nat) (l : List VtV) (w : World) (hz : Sl w w.heap.size encVt 2 A n l) (hg : ∀ v ∈ l, wfI v.1) (h : fitB l = false ∨ bound < 0 ∨ 4096 < bound) :
  Calls Tryz.prog 27 #[.int .i64 bound, .slice A n c] w (qnd w) := by
 have hgr := qdW A n c l w hz hg
 clear hz hg
 go_enter Tryz.func27, Tryz.ntmps27
 go_wp2_with fail
 refine hgr.mono ?_
 rintro e w1 ⟨⟨mv, rfl, -⟩, hb1⟩
 have HB1 := Lib.hid hb1; clear hb1
 cases hf : fitB l with
 | false =>
  go_wp2_with fail
  go_ret2
  exact ⟨rfl, HB1.out⟩
 | true =>
  by_cases h1 : bound < 0
  ·have b1 : decide (bound < 0) = true := decide_eq_true h1
   clear h h1
   go_wp2_with fail
   go_ret2
   exact ⟨rfl, HB1.out⟩
  ·have b1 : decide (bound < 0) = false := decide_eq_false h1
   have b2 : decide (4096 < bound) = true := decide_eq_true (by rw [hf] at h; simp at h; omega)
   clear h h1
   go_wp2_with fail
   go_ret2
   exact ⟨rfl, HB1.out⟩
theorem qiH (bound : Int) (A : Option Addr) (n c : Nat) (l : List VtV) (w : World) (hz : Sl w w.heap.size encVt 2 A n l) (hA : A = none → n = 0 ∧ c = 0) (hg : ∀ v ∈ l, wfI v.1) (hf : fitB l = true) (h1 : 0 ≤ bound) (h2 : bound ≤ 4096) :
  Calls Tryz.prog 27 #[.int .i64 bound, .slice A n c] w (qne (newW bound l) w) := by
 have hgr := qdW A n c l w hz hg
 rw [show GrpP l w = GrpP l w from rfl] at hgr
 have hn9 : n ≤ 9 := by have := qdP hf; rw [hz.len] at this; exact this
 have HLN := Lib.hid hz.len
 have b1 : decide (bound < 0) = false := decide_eq_false (by omega)
 have b2 : decide (4096 < bound) = false := decide_eq_false (by omega)
 have HZ := Lib.hid hz; have HA := Lib.hid hA; have HF := Lib.hid hf
 have HB := Lib.hid h2
 clear h1 h2 hg hz hA hf
 go_enter Tryz.func27, Tryz.ntmps27
 go_wp2_with fail
 refine hgr.mono ?_
 rintro e w1 ⟨⟨mv, rfl, -⟩, hb1⟩
 rw [HF.out]
 have HB1 := Lib.hid hb1; clear hb1
 have HCL := Lib.hid (fun W (hW : Below w.heap.size w W) => qiu A n c l W (HZ.out.belowMore hW hW.size) HA.out (by omega))
 have hmk := fun W => qfS Tryz.underlying75 qgr (by decide) n (by omega) W
 rw [Nat.mul_one] at hmk
 have HW1 := Lib.hid (HB1.out.trans ((qaj w1).mono HB1.out.size))
 have hbm : Below w1.heap.size w1 (w1.alloc (.cells (madeCells #[.int .i64 0] n) 2)) := (Below.refl _ w1).alloc (Nat.le_refl _) _
 have HW2 := Lib.hid (HB1.out.trans ((hbm.trans ((qaj _).mono hbm.size)).mono HB1.out.size))
 go_wp2_with fail
 go_region_with (go_at_call 71; refine (HCL.out _ ?_).mono ?_; (first | exact HW1.out | exact HW2.out); rintro e w2 ⟨⟨A2, c2, rfl, hown⟩, hb2⟩)
 ·have hs1 := HB1.out.size
  have hd : w1.drew.heap.size = w1.heap.size := rfl
  have hs2 := hb2.size
  have hvs : SlR w2 (fun b => w1.heap.size ≤ b ∧ b < w2.heap.size) encVt 2 (A2, n, c2) l := (qbD hown (fun _ => rfl) HLN.out).more (fun b hb h => ⟨by rw [← hd]; exact h, hb⟩) (fun _ => by simp [encVt])
  have hm : Below w2.heap.size w2 (w2.alloc (.cells (madeCells #[.int .i64 0] n) 2)) := (Below.refl _ w2).alloc (Nat.le_refl _) _
  have hg1 := qab w2 (.cells (madeCells #[.int .i64 0] n) 2)
  have hz1 := sz1 w2 (.cells (madeCells #[.int .i64 0] n) 2)
  have hvs2 : SlR (w2.alloc (.cells (madeCells #[.int .i64 0] n) 2)) (fun b => w1.heap.size ≤ b ∧ b < w2.heap.size) encVt 2 (A2, n, c2) l := hvs.fr (Fr.of_below (own := []) hm) (fun b _ h => ⟨by simp, h⟩) (fun _ => by simp [encVt])
  go_wp2_with fail
  go_ret2
  generalize w2.alloc (.cells (madeCells #[.int .i64 0] n) 2) = W2 at *
  have hm2 : Below W2.heap.size W2 (W2.alloc (.cells #[.slice none 0 0, .int .i64 0, .int .i64 0, .int .i64 bound, .slice A2 n c2, .slice (some ⟨w2.heap.size, 0, none⟩) n n, .int .i64 0, .int .i64 0] 135)) := (Below.refl _ W2).alloc (Nat.le_refl _) _
  have hbx : (W2.alloc (.cells #[.slice none 0 0, .int .i64 0, .int .i64 0, .int .i64 bound, .slice A2 n c2, .slice (some ⟨w2.heap.size, 0, none⟩) n n, .int .i64 0, .int .i64 0] 135)).heap[w2.heap.size + 1]? = _ := heap_top' hz1
  have hga := (hm2.block w2.heap.size (by omega)).trans hg1
  have hvs3 := hvs2.fr (R' := fun b => w1.heap.size ≤ b ∧ b < w2.heap.size) (Fr.of_below (own := []) hm2) (fun b _ h => ⟨by simp, h⟩) (fun _ => by simp [encVt])
  have hq := QuW.laid (bound := bound) HLN.out hbx hvs3 hga (.inr (Nat.le_refl _)) (by omega) (by omega)
  exact ⟨⟨_, _, _, rfl, hq, by omega, by show _ ≤ w2.heap.size + 1; omega, by show _ ≤ w2.heap.size; omega, fun b h => Nat.le_trans hs1 h.1⟩, HW1.out.trans ((hb2.trans ((hm.trans (hm2.mono hm.size)).mono hb2.size)).mono HW1.out.size)⟩
 ·have hs1 := HB1.out.size
  have hg0 := qab w1 (.cells (madeCells #[.int .i64 0] n) 2)
  have hz0 := sz1 w1 (.cells (madeCells #[.int .i64 0] n) 2)
  have hd : (w1.alloc (.cells (madeCells #[.int .i64 0] n) 2)).drew.heap.size = w1.heap.size + 1 := hz0
  have hs2 := hb2.size
  have hvs : SlR w2 (fun b => w1.heap.size + 1 ≤ b ∧ b < w2.heap.size) encVt 2 (A2, n, c2) l := (qbD hown (fun _ => rfl) HLN.out).more (fun b hb h => ⟨by rw [← hd]; exact h, hb⟩) (fun _ => by simp [encVt])
  have hga0 := (hb2.block w1.heap.size (by omega)).trans hg0
  have hm2 : Below w2.heap.size w2 (w2.alloc (.cells #[.slice none 0 0, .int .i64 0, .int .i64 0, .int .i64 bound, .slice A2 n c2, .slice (some ⟨w1.heap.size, 0, none⟩) n n, .int .i64 0, .int .i64 0] 135)) := (Below.refl _ w2).alloc (Nat.le_refl _) _
  have hbx := qab w2 (.cells #[.slice none 0 0, .int .i64 0, .int .i64 0, .int .i64 bound, .slice A2 n c2, .slice (some ⟨w1.heap.size, 0, none⟩) n n, .int .i64 0, .int .i64 0] 135)
  have hga := (hm2.block w1.heap.size (by omega)).trans hga0
  have hvs3 := hvs.fr (R' := fun b => w1.heap.size + 1 ≤ b ∧ b < w2.heap.size) (Fr.of_below (own := []) hm2) (fun b _ h => ⟨by simp, h⟩) (fun _ => by simp [encVt])
  have hq := QuW.laid (bound := bound) HLN.out hbx hvs3 hga (.inl (by omega)) (Nat.le_refl _) (by omega)
  go_wp2_with fail
  go_ret2
  exact ⟨⟨_, _, _, rfl, hq, by omega, by show _ ≤ w2.heap.size; omega, by show _ ≤ w1.heap.size; omega, fun b h => by have := h.1; omega⟩, HW2.out.trans ((hb2.trans (hm2.mono hb2.size)).mono HW2.out.size)⟩
open Go.RowKit Go.WideShapes
set_option maxRecDepth 100000
section
variable {H : Type} {enc : TypeId × Value → H} {w : World} {base : Nat} {spare : Nat → Bool} {held : Bool}
theorem qfy {fuel : Nat} {cs : List Value} {x : DataW H × List MemPlace} (h : DataW.trod enc Tryz.prog w base spare held fuel 9 cs = some x) : ∃ s : ByteArray, cs = [.string s] ∧ s.size ≤ Rows.uptoBulk x.1 := by
 obtain ⟨s, e, rfl, _⟩ := DataW.trod_string Tryz.underlying9 h
 exact ⟨s, e, by simp [Rows.uptoBulk]⟩
theorem qkG {fuel : Nat} {cs : List Value} {x : DataW H × List MemPlace} (h : DataW.trod enc Tryz.prog w base spare held fuel 246 cs = some x) :
  ∃ z : AclV, cs = qao z ∧ in32 z.1 ∧ z.2.1.size ≤ Rows.uptoBulk x.1 ∧ z.2.2.size ≤ Rows.uptoBulk x.1 := by
 obtain ⟨ys, n, _, rfl, hlen, hyl, hf⟩ := DataW.trod_struct Tryz.underlying246 h
 have hc : Tryz.prog.cellsOf 246 = 3 := by kernel_rfl
 have hc2 : Tryz.prog.cellsOf 155 = 2 := by kernel_rfl
 have hs : Tryz.prog.cellsOf 21 = 1 := by kernel_rfl
 rw [hc] at hlen
 match cs, hlen with
 | [a, b, c], _ =>
  match ys, hyl with
  | [y0, y1], _ =>
   have g0 : DataW.trod enc Tryz.prog w base spare held n 21 (List.take (Tryz.prog.cellsOf 21) [a, b, c]) = some y0 := hf 0 _ rfl
   have g1 : DataW.trod enc Tryz.prog w base spare held n 155 (List.take (Tryz.prog.cellsOf 155) [b, c]) = some y1 := hf 1 _ rfl
   rw [hs] at g0
   rw [hc2] at g1
   simp only [List.take_succ_cons, List.take_zero] at g0 g1
   obtain ⟨p, e0, rfl, hp⟩ := DataW.trod_int Tryz.underlying21 g0
   obtain ⟨z, e1, h1, h2⟩ := qjf g1
   injection e0 with e0
   subst e0
   have hb : Rows.uptoBulk y1.1 ≤ Rows.uptoBulk (DataW.agg ([(DataW.lit (.int .i32 p), []), y1].map (·.1))) := by simp [Rows.uptoBulk, Rows.uptoBulkAll]; omega
   refine ⟨(p, z), ?_, ?_, Nat.le_trans h1 hb, Nat.le_trans h2 hb⟩
   ·rw [e1]; rfl
   ·simp [Lit.wf] at hp; exact hp
theorem qkr {fuel : Nat} {cs : List Value} {x : DataW H × List MemPlace} (h : DataW.trod enc Tryz.prog w base spare held fuel 41 cs = some x) :
  ∃ A n c, ∃ l : Bs, cs = [.slice A n c] ∧ Sl w w.heap.size enc8 1 A n l ∧ hdOk (A, n, c) ∧ n ≤ Rows.uptoBulk x.1 ∧ True := by
 obtain ⟨A, n, c, l, e, h1, h2, h3, h4⟩ := qdp (enc0 := enc8) (k := 1) Tryz.underlying41 (by kernel_rfl) (by decide) (fun (_ : UInt8) _ => True)
  (fun _ _ x hx => by
   obtain ⟨z, e, _, hw⟩ := DataW.trod_int Tryz.underlying5 hx
   have hw2 : 0 ≤ z ∧ z ≤ 255 := by simp [Lit.wf] at hw; exact hw
   refine ⟨UInt8.ofNat z.toNat, ?_, trivial⟩
   rw [e]
   unfold enc8
   have h9 : (UInt8.ofNat z.toNat).toNat = z.toNat := UInt8.toNat_ofNat_of_lt (by show z.toNat < 256; omega)
   rw [h9, Int.toNat_of_nonneg hw2.1]) (fun _ _ _ _ hz => hz) h
 exact ⟨A, n, c, l, e, h1, h2, h3, trivial⟩
theorem qhO {fuel : Nat} {cs : List Value} {x : DataW H × List MemPlace} (h : DataW.trod enc Tryz.prog w base spare held fuel 42 cs = some x) :
  ∃ A n c, ∃ l : List AclV, cs = [.slice A n c] ∧ Sl w w.heap.size qao 3 A n l ∧ hdOk (A, n, c) ∧ n ≤ Rows.uptoBulk x.1 ∧ ∀ j, j < n → in32 l[j]!.1 ∧ l[j]!.2.1.size ≤ Rows.uptoBulk x.1 ∧ l[j]!.2.2.size ≤ Rows.uptoBulk x.1 :=
 qdp (enc0 := qao) (k := 3) Tryz.underlying42 (by kernel_rfl) (by decide) (fun (z : AclV) m => in32 z.1 ∧ z.2.1.size ≤ m ∧ z.2.2.size ≤ m) (fun _ _ x hx => qkG hx) (fun _ _ _ hab hz => ⟨hz.1, Nat.le_trans hz.2.1 hab, Nat.le_trans hz.2.2 hab⟩) h
theorem qhB {fuel : Nat} {cs : List Value} {x : DataW H × List MemPlace} (h : DataW.trod enc Tryz.prog w base spare held fuel 48 cs = some x) :
  ∃ A n c, ∃ l : List ByteArray, cs = [.slice A n c] ∧ Sl w w.heap.size qay 1 A n l ∧ hdOk (A, n, c) ∧ n ≤ Rows.uptoBulk x.1 ∧ ∀ j, j < n → l[j]!.size ≤ Rows.uptoBulk x.1 :=
 qdp (enc0 := qay) (k := 1) Tryz.underlying48 (by kernel_rfl) (by decide) (fun (z : ByteArray) m => z.size ≤ m) (fun _ _ x hx => qfy hx) (fun _ _ _ hab hz => Nat.le_trans hz hab) h
theorem qfE {α : Type} [Inhabited α] {enc0 : α → List Value} {k : Nat} {t e : TypeId} (ht : Tryz.prog.underlying t = some (.slice e)) (hC : Tryz.prog.cellsOf e = k) (hk0 : 0 < k) (small : α → Nat → Prop)
  (M : Nat) (hel : ∀ (fuel : Nat) cs' (x : DataW H × List MemPlace), Rows.uptoBulk x.1 ≤ M → DataW.trod enc Tryz.prog w base spare held fuel e cs' = some x → ∃ z : α, cs' = enc0 z ∧ small z (Rows.uptoBulk x.1)) (hmono : ∀ z a b, a ≤ b → small z a → small z b)
  {fuel0 : Nat} {cs : List Value} {x : DataW H × List MemPlace} (hM : Rows.uptoBulk x.1 ≤ M + 1) (h : DataW.trod enc Tryz.prog w base spare held fuel0 t cs = some x) :
  ∃ A n c l, cs = [.slice A n c] ∧ Sl w w.heap.size enc0 k A n l ∧ ((A = none → n = 0 ∧ c = 0) ∧ n ≤ c) ∧ n ≤ Rows.uptoBulk x.1 ∧ ∀ j, j < n → small l[j]! (Rows.uptoBulk x.1) := by
 obtain ⟨d, ps⟩ := x
 dsimp only at hM ⊢
 rcases Deep.open_slice ht h with ⟨e1, e2⟩ | ⟨a, n, c, m, n', D, Pl, e1, _, hlc, _, hm, e2, hx⟩
 ·subst e1
  exact ⟨none, 0, 0, [], rfl, Sl.nil_, ⟨fun _ => ⟨rfl, rfl⟩, Nat.le_refl _⟩, Nat.zero_le _, fun j hj => absurd hj (by omega)⟩
 ·subst e1
  have hd : d = .slice ((List.range n).map D) ((List.range (m - n)).map fun j => D (n + j)) := congrArg Prod.fst e2
  have hnm : n ≤ m := by rw [hm]; split <;> omega
  have hspot : 0 < n → a.spot = none := fun h0 => by
   obtain ⟨cs', h1, h2⟩ := hx 0 (by omega)
   rw [hC, Nat.zero_mul, qcU] at h1
   obtain ⟨_, hlen, hcell⟩ := World.cells?_some h1
   have hg := hcell 0 hk0
   rw [qcU, List.getElem?_eq_getElem (by omega)] at hg
   exact World.cell?_spot hg
  have key : ∀ i, i < n → ∃ z : α, (∀ u y, (enc0 z)[u]? = some y → a.spot = none ∧ w.cell? ⟨a.block, a.off + i * k + u, none⟩ = some y ∧ a.block < w.heap.size) ∧ small z (Rows.uptoBulk d) ∧ (enc0 z).length = k := by
   intro i hi
   obtain ⟨cs', h1, h2⟩ := hx i (by omega)
   rw [hC] at h1
   have hle : Rows.uptoBulk (D i) ≤ M := by
    have h7 := qcX D (List.range n) i (by simp [hi])
    rw [hd] at hM
    simp only [Rows.uptoBulk] at hM
    omega
   obtain ⟨z, e3, hz⟩ := hel _ _ _ hle h2
   subst e3
   obtain ⟨_, hlen, hcell⟩ := World.cells?_some h1
   refine ⟨z, fun u y hu => ?_, hmono z _ _ ?_ hz, hlen⟩
   ·have hul : u < k := by rw [← hlen]; exact (List.getElem?_eq_some_iff.1 hu).1
    have hg := (hcell u hul).trans hu
    have hg' : w.cell? ⟨a.block, a.off + i * k + u, none⟩ = some y := by
     rw [← hg, qgi (hspot (by omega))]
    exact ⟨hspot (by omega), hg', (by have := World.block_lt_of_cell? _ _ hg'; exact this)⟩
   ·rw [hd]
    have := qcX D (List.range n) i (by simp [hi])
    simp only [Rows.uptoBulk]
    omega
  obtain ⟨Z, hZ⟩ : ∃ Z : Nat → α, ∀ i, i < n → (∀ u y, (enc0 (Z i))[u]? = some y → a.spot = none ∧ w.cell? ⟨a.block, a.off + i * k + u, none⟩ = some y ∧ a.block < w.heap.size) ∧ small (Z i) (Rows.uptoBulk d) ∧ (enc0 (Z i)).length = k := by
   classical
   refine ⟨fun i => if h : i < n then (key i h).choose else default, fun i hi => ?_⟩
   simp only [dif_pos hi]
   exact (key i hi).choose_spec
  have hget : ∀ j, j < n → ((List.range n).map Z)[j]! = Z j := fun j hj => by
   rw [getElem!_pos _ _ (by simpa using hj)]; simp
  refine ⟨some a, n, c, (List.range n).map Z, rfl, ⟨by simp, fun h0 => ?_⟩, ⟨(fun hh => by cases hh), hlc⟩, ?_, fun j hj => by rw [hget j hj]; exact (hZ j hj).2.1⟩
  ·obtain ⟨h1, _, h3⟩ := hZ 0 h0
   obtain ⟨y, hy⟩ : ∃ y, (enc0 (Z 0))[0]? = some y := ⟨_, List.getElem?_eq_getElem (by omega)⟩
   obtain ⟨hs, _, hb⟩ := h1 0 y hy
   refine ⟨a.block, a.off, ?_, hb, fun j hj i u hu => ?_⟩
   ·obtain ⟨b, o, s⟩ := a
    simp only at hs
    subst hs; rfl
   ·rw [hget j hj] at hu
    exact ((hZ j hj).1 i u hu).2.1
  ·rw [hd]
   have := qcZ ((List.range n).map D)
   simp only [Rows.uptoBulk]
   simp at this
   omega

theorem qjS {fuel : Nat} {cs : List Value} {x : DataW H × List MemPlace} (h : DataW.trod enc Tryz.prog w base spare held fuel 44 cs = some x) : ∃ (q : Bool) (a b : Int), cs = [.bool q, .int .i64 a, .int .i64 b] ∧ in64 a ∧ in64 b := by
 obtain ⟨ys, n, _, rfl, hlen, hyl, hf⟩ := DataW.trod_struct Tryz.underlying44 h
 have hc : Tryz.prog.cellsOf 44 = 3 := by kernel_rfl
 have q_bool : Tryz.prog.cellsOf 4 = 1 := by kernel_rfl
 have q_int64 : Tryz.prog.cellsOf 2 = 1 := by kernel_rfl
 rw [hc] at hlen
 match cs, hlen with
 | [k0, k1, k2], _ =>
  match ys, hyl with
  | [y0, y1, y2], _ =>
   have g0 : DataW.trod enc Tryz.prog w base spare held n 4 (List.take (Tryz.prog.cellsOf 4) [k0, k1, k2]) = some y0 := hf 0 _ rfl
   rw [q_bool] at g0
   have g1 : DataW.trod enc Tryz.prog w base spare held n 2 (List.take (Tryz.prog.cellsOf 2) [k1, k2]) = some y1 := hf 1 _ rfl
   rw [q_int64] at g1
   have g2 : DataW.trod enc Tryz.prog w base spare held n 2 (List.take (Tryz.prog.cellsOf 2) [k2]) = some y2 := hf 2 _ rfl
   rw [q_int64] at g2
   simp only [List.take_succ_cons, List.take_zero] at g0 g1 g2
   have hb0 : Rows.uptoBulk y0.1 < Rows.uptoBulk (DataW.agg ([y0, y1, y2].map (·.1))) := by simp [Rows.uptoBulk, Rows.uptoBulkAll]; omega
   have hb1 : Rows.uptoBulk y1.1 < Rows.uptoBulk (DataW.agg ([y0, y1, y2].map (·.1))) := by simp [Rows.uptoBulk, Rows.uptoBulkAll]; omega
   have hb2 : Rows.uptoBulk y2.1 < Rows.uptoBulk (DataW.agg ([y0, y1, y2].map (·.1))) := by simp [Rows.uptoBulk, Rows.uptoBulkAll]; omega
   obtain ⟨p0, e0, _⟩ := DataW.trod_bool Tryz.underlying4 g0
   injection e0 with e0
   obtain ⟨p1, e1, _, w1⟩ := DataW.trod_int Tryz.underlying2 g1
   injection e1 with e1
   obtain ⟨p2, e2, _, w2⟩ := DataW.trod_int Tryz.underlying2 g2
   injection e2 with e2
   subst e0 e1 e2
   exact ⟨p0, p1, p2, rfl, by simp [Lit.wf] at w1; exact w1, by simp [Lit.wf] at w2; exact w2⟩
theorem qlt {fuel : Nat} {cs : List Value} {x : DataW H × List MemPlace} (h : DataW.trod enc Tryz.prog w base spare held fuel 56 cs = some x) : ∃ q : StN, cs = [.int .i64 q.a, .int .i64 q.b, .int .i64 q.c, .int .i64 q.d, .int .i32 q.e, .int .i32 q.f, .int .i32 q.g, .int .i64 q.h, .int .i32 q.i, .int .i32 q.j, .int .i64 q.k] := by
 obtain ⟨ys, n, _, rfl, hlen, hyl, hf⟩ := DataW.trod_struct Tryz.underlying56 h
 have hc : Tryz.prog.cellsOf 56 = 11 := by kernel_rfl
 have q_int32 : Tryz.prog.cellsOf 21 = 1 := by kernel_rfl
 have q_int64 : Tryz.prog.cellsOf 2 = 1 := by kernel_rfl
 rw [hc] at hlen
 match cs, hlen with
 | [k0, k1, k2, k3, k4, k5, k6, k7, k8, k9, k10], _ =>
  match ys, hyl with
  | [y0, y1, y2, y3, y4, y5, y6, y7, y8, y9, y10], _ =>
   have g0 : DataW.trod enc Tryz.prog w base spare held n 2 (List.take (Tryz.prog.cellsOf 2) [k0, k1, k2, k3, k4, k5, k6, k7, k8, k9, k10]) = some y0 := hf 0 _ rfl
   rw [q_int64] at g0
   have g1 : DataW.trod enc Tryz.prog w base spare held n 2 (List.take (Tryz.prog.cellsOf 2) [k1, k2, k3, k4, k5, k6, k7, k8, k9, k10]) = some y1 := hf 1 _ rfl
   rw [q_int64] at g1
   have g2 : DataW.trod enc Tryz.prog w base spare held n 2 (List.take (Tryz.prog.cellsOf 2) [k2, k3, k4, k5, k6, k7, k8, k9, k10]) = some y2 := hf 2 _ rfl
   rw [q_int64] at g2
   have g3 : DataW.trod enc Tryz.prog w base spare held n 2 (List.take (Tryz.prog.cellsOf 2) [k3, k4, k5, k6, k7, k8, k9, k10]) = some y3 := hf 3 _ rfl
   rw [q_int64] at g3
   have g4 : DataW.trod enc Tryz.prog w base spare held n 21 (List.take (Tryz.prog.cellsOf 21) [k4, k5, k6, k7, k8, k9, k10]) = some y4 := hf 4 _ rfl
   rw [q_int32] at g4
   have g5 : DataW.trod enc Tryz.prog w base spare held n 21 (List.take (Tryz.prog.cellsOf 21) [k5, k6, k7, k8, k9, k10]) = some y5 := hf 5 _ rfl
   rw [q_int32] at g5
   have g6 : DataW.trod enc Tryz.prog w base spare held n 21 (List.take (Tryz.prog.cellsOf 21) [k6, k7, k8, k9, k10]) = some y6 := hf 6 _ rfl
   rw [q_int32] at g6
   have g7 : DataW.trod enc Tryz.prog w base spare held n 2 (List.take (Tryz.prog.cellsOf 2) [k7, k8, k9, k10]) = some y7 := hf 7 _ rfl
   rw [q_int64] at g7
   have g8 : DataW.trod enc Tryz.prog w base spare held n 21 (List.take (Tryz.prog.cellsOf 21) [k8, k9, k10]) = some y8 := hf 8 _ rfl
   rw [q_int32] at g8
   have g9 : DataW.trod enc Tryz.prog w base spare held n 21 (List.take (Tryz.prog.cellsOf 21) [k9, k10]) = some y9 := hf 9 _ rfl
   rw [q_int32] at g9
   have g10 : DataW.trod enc Tryz.prog w base spare held n 2 (List.take (Tryz.prog.cellsOf 2) [k10]) = some y10 := hf 10 _ rfl
   rw [q_int64] at g10
   simp only [List.take_succ_cons, List.take_zero] at g0 g1 g2 g3 g4 g5 g6 g7 g8 g9 g10
   have hb0 : Rows.uptoBulk y0.1 < Rows.uptoBulk (DataW.agg ([y0, y1, y2, y3, y4, y5, y6, y7, y8, y9, y10].map (·.1))) := by simp [Rows.uptoBulk, Rows.uptoBulkAll]; omega
   have hb1 : Rows.uptoBulk y1.1 < Rows.uptoBulk (DataW.agg ([y0, y1, y2, y3, y4, y5, y6, y7, y8, y9, y10].map (·.1))) := by simp [Rows.uptoBulk, Rows.uptoBulkAll]; omega
   have hb2 : Rows.uptoBulk y2.1 < Rows.uptoBulk (DataW.agg ([y0, y1, y2, y3, y4, y5, y6, y7, y8, y9, y10].map (·.1))) := by simp [Rows.uptoBulk, Rows.uptoBulkAll]; omega
   have hb3 : Rows.uptoBulk y3.1 < Rows.uptoBulk (DataW.agg ([y0, y1, y2, y3, y4, y5, y6, y7, y8, y9, y10].map (·.1))) := by simp [Rows.uptoBulk, Rows.uptoBulkAll]; omega
   have hb4 : Rows.uptoBulk y4.1 < Rows.uptoBulk (DataW.agg ([y0, y1, y2, y3, y4, y5, y6, y7, y8, y9, y10].map (·.1))) := by simp [Rows.uptoBulk, Rows.uptoBulkAll]; omega
   have hb5 : Rows.uptoBulk y5.1 < Rows.uptoBulk (DataW.agg ([y0, y1, y2, y3, y4, y5, y6, y7, y8, y9, y10].map (·.1))) := by simp [Rows.uptoBulk, Rows.uptoBulkAll]; omega
   have hb6 : Rows.uptoBulk y6.1 < Rows.uptoBulk (DataW.agg ([y0, y1, y2, y3, y4, y5, y6, y7, y8, y9, y10].map (·.1))) := by simp [Rows.uptoBulk, Rows.uptoBulkAll]; omega
   have hb7 : Rows.uptoBulk y7.1 < Rows.uptoBulk (DataW.agg ([y0, y1, y2, y3, y4, y5, y6, y7, y8, y9, y10].map (·.1))) := by simp [Rows.uptoBulk, Rows.uptoBulkAll]; omega
   have hb8 : Rows.uptoBulk y8.1 < Rows.uptoBulk (DataW.agg ([y0, y1, y2, y3, y4, y5, y6, y7, y8, y9, y10].map (·.1))) := by simp [Rows.uptoBulk, Rows.uptoBulkAll]; omega
   have hb9 : Rows.uptoBulk y9.1 < Rows.uptoBulk (DataW.agg ([y0, y1, y2, y3, y4, y5, y6, y7, y8, y9, y10].map (·.1))) := by simp [Rows.uptoBulk, Rows.uptoBulkAll]; omega
   have hb10 : Rows.uptoBulk y10.1 < Rows.uptoBulk (DataW.agg ([y0, y1, y2, y3, y4, y5, y6, y7, y8, y9, y10].map (·.1))) := by simp [Rows.uptoBulk, Rows.uptoBulkAll]; omega
   obtain ⟨p0, e0, _, w0⟩ := DataW.trod_int Tryz.underlying2 g0
   injection e0 with e0
   obtain ⟨p1, e1, _, w1⟩ := DataW.trod_int Tryz.underlying2 g1
   injection e1 with e1
   obtain ⟨p2, e2, _, w2⟩ := DataW.trod_int Tryz.underlying2 g2
   injection e2 with e2
   obtain ⟨p3, e3, _, w3⟩ := DataW.trod_int Tryz.underlying2 g3
   injection e3 with e3
   obtain ⟨p4, e4, _, w4⟩ := DataW.trod_int Tryz.underlying21 g4
   injection e4 with e4
   obtain ⟨p5, e5, _, w5⟩ := DataW.trod_int Tryz.underlying21 g5
   injection e5 with e5
   obtain ⟨p6, e6, _, w6⟩ := DataW.trod_int Tryz.underlying21 g6
   injection e6 with e6
   obtain ⟨p7, e7, _, w7⟩ := DataW.trod_int Tryz.underlying2 g7
   injection e7 with e7
   obtain ⟨p8, e8, _, w8⟩ := DataW.trod_int Tryz.underlying21 g8
   injection e8 with e8
   obtain ⟨p9, e9, _, w9⟩ := DataW.trod_int Tryz.underlying21 g9
   injection e9 with e9
   obtain ⟨p10, e10, _, w10⟩ := DataW.trod_int Tryz.underlying2 g10
   injection e10 with e10
   subst e0 e1 e2 e3 e4 e5 e6 e7 e8 e9 e10
   exact ⟨⟨p0, p1, p2, p3, p4, p5, p6, p7, p8, p9, p10⟩, rfl⟩
theorem qnR : ∀ (N fuel : Nat) (cs : List Value) (x : DataW H × List MemPlace), Rows.uptoBulk x.1 ≤ N → DataW.trod enc Tryz.prog w base spare held fuel 52 cs = some x →
  ∃ z : TxH × TxT, cs = qar z.1 ∧ TxAt w (· < w.heap.size) z.1 z.2 ∧ TxOk (Rows.uptoBulk x.1) z.2 := by
 intro N
 induction N with
 | zero => intro fuel cs x hN _; have := qfo x.1; omega
 | succ N ih =>
  intro fuel cs x hN h
  obtain ⟨ys, n, _, rfl, hlen, hyl, hf⟩ := DataW.trod_struct Tryz.underlying52 h
  have hc : Tryz.prog.cellsOf 52 = 16 := by kernel_rfl
  have q_Code : Tryz.prog.cellsOf 49 = 1 := by kernel_rfl
  have q_acl : Tryz.prog.cellsOf 42 = 1 := by kernel_rfl
  have q_bytes : Tryz.prog.cellsOf 41 = 1 := by kernel_rfl
  have q_int32 : Tryz.prog.cellsOf 21 = 1 := by kernel_rfl
  have q_int64 : Tryz.prog.cellsOf 2 = 1 := by kernel_rfl
  have q_quota : Tryz.prog.cellsOf 44 = 3 := by kernel_rfl
  have q_ses : Tryz.prog.cellsOf 47 = 3 := by kernel_rfl
  have q_string : Tryz.prog.cellsOf 9 = 1 := by kernel_rfl
  have q_strs : Tryz.prog.cellsOf 48 = 1 := by kernel_rfl
  have q_txns : Tryz.prog.cellsOf 50 = 1 := by kernel_rfl
  rw [hc] at hlen
  match cs, hlen with
  | [k0, k1, k2, k3, k4, k5, k6, k7, k8, k9, k10, k11, k12, k13, k14, k15], _ =>
   match ys, hyl with
   | [y0, y1, y2, y3, y4, y5, y6, y7, y8, y9, y10, y11], _ =>
    have g0 : DataW.trod enc Tryz.prog w base spare held n 21 (List.take (Tryz.prog.cellsOf 21) [k0, k1, k2, k3, k4, k5, k6, k7, k8, k9, k10, k11, k12, k13, k14, k15]) = some y0 := hf 0 _ rfl
    rw [q_int32] at g0
    have g1 : DataW.trod enc Tryz.prog w base spare held n 9 (List.take (Tryz.prog.cellsOf 9) [k1, k2, k3, k4, k5, k6, k7, k8, k9, k10, k11, k12, k13, k14, k15]) = some y1 := hf 1 _ rfl
    rw [q_string] at g1
    have g2 : DataW.trod enc Tryz.prog w base spare held n 41 (List.take (Tryz.prog.cellsOf 41) [k2, k3, k4, k5, k6, k7, k8, k9, k10, k11, k12, k13, k14, k15]) = some y2 := hf 2 _ rfl
    rw [q_bytes] at g2
    have g3 : DataW.trod enc Tryz.prog w base spare held n 42 (List.take (Tryz.prog.cellsOf 42) [k3, k4, k5, k6, k7, k8, k9, k10, k11, k12, k13, k14, k15]) = some y3 := hf 3 _ rfl
    rw [q_acl] at g3
    have g4 : DataW.trod enc Tryz.prog w base spare held n 2 (List.take (Tryz.prog.cellsOf 2) [k4, k5, k6, k7, k8, k9, k10, k11, k12, k13, k14, k15]) = some y4 := hf 4 _ rfl
    rw [q_int64] at g4
    have g5 : DataW.trod enc Tryz.prog w base spare held n 21 (List.take (Tryz.prog.cellsOf 21) [k5, k6, k7, k8, k9, k10, k11, k12, k13, k14, k15]) = some y5 := hf 5 _ rfl
    rw [q_int32] at g5
    have g6 : DataW.trod enc Tryz.prog w base spare held n 21 (List.take (Tryz.prog.cellsOf 21) [k6, k7, k8, k9, k10, k11, k12, k13, k14, k15]) = some y6 := hf 6 _ rfl
    rw [q_int32] at g6
    have g7 : DataW.trod enc Tryz.prog w base spare held n 44 (List.take (Tryz.prog.cellsOf 44) [k7, k8, k9, k10, k11, k12, k13, k14, k15]) = some y7 := hf 7 _ rfl
    rw [q_quota] at g7
    have g8 : DataW.trod enc Tryz.prog w base spare held n 47 (List.take (Tryz.prog.cellsOf 47) [k10, k11, k12, k13, k14, k15]) = some y8 := hf 8 _ rfl
    rw [q_ses] at g8
    have g9 : DataW.trod enc Tryz.prog w base spare held n 48 (List.take (Tryz.prog.cellsOf 48) [k13, k14, k15]) = some y9 := hf 9 _ rfl
    rw [q_strs] at g9
    have g10 : DataW.trod enc Tryz.prog w base spare held n 49 (List.take (Tryz.prog.cellsOf 49) [k14, k15]) = some y10 := hf 10 _ rfl
    rw [q_Code] at g10
    have g11 : DataW.trod enc Tryz.prog w base spare held n 50 (List.take (Tryz.prog.cellsOf 50) [k15]) = some y11 := hf 11 _ rfl
    rw [q_txns] at g11
    simp only [List.take_succ_cons, List.take_zero] at g0 g1 g2 g3 g4 g5 g6 g7 g8 g9 g10 g11
    have hb0 : Rows.uptoBulk y0.1 < Rows.uptoBulk (DataW.agg ([y0, y1, y2, y3, y4, y5, y6, y7, y8, y9, y10, y11].map (·.1))) := by simp [Rows.uptoBulk, Rows.uptoBulkAll]; omega
    have hb1 : Rows.uptoBulk y1.1 < Rows.uptoBulk (DataW.agg ([y0, y1, y2, y3, y4, y5, y6, y7, y8, y9, y10, y11].map (·.1))) := by simp [Rows.uptoBulk, Rows.uptoBulkAll]; omega
    have hb2 : Rows.uptoBulk y2.1 < Rows.uptoBulk (DataW.agg ([y0, y1, y2, y3, y4, y5, y6, y7, y8, y9, y10, y11].map (·.1))) := by simp [Rows.uptoBulk, Rows.uptoBulkAll]; omega
    have hb3 : Rows.uptoBulk y3.1 < Rows.uptoBulk (DataW.agg ([y0, y1, y2, y3, y4, y5, y6, y7, y8, y9, y10, y11].map (·.1))) := by simp [Rows.uptoBulk, Rows.uptoBulkAll]; omega
    have hb4 : Rows.uptoBulk y4.1 < Rows.uptoBulk (DataW.agg ([y0, y1, y2, y3, y4, y5, y6, y7, y8, y9, y10, y11].map (·.1))) := by simp [Rows.uptoBulk, Rows.uptoBulkAll]; omega
    have hb5 : Rows.uptoBulk y5.1 < Rows.uptoBulk (DataW.agg ([y0, y1, y2, y3, y4, y5, y6, y7, y8, y9, y10, y11].map (·.1))) := by simp [Rows.uptoBulk, Rows.uptoBulkAll]; omega
    have hb6 : Rows.uptoBulk y6.1 < Rows.uptoBulk (DataW.agg ([y0, y1, y2, y3, y4, y5, y6, y7, y8, y9, y10, y11].map (·.1))) := by simp [Rows.uptoBulk, Rows.uptoBulkAll]; omega
    have hb7 : Rows.uptoBulk y7.1 < Rows.uptoBulk (DataW.agg ([y0, y1, y2, y3, y4, y5, y6, y7, y8, y9, y10, y11].map (·.1))) := by simp [Rows.uptoBulk, Rows.uptoBulkAll]; omega
    have hb8 : Rows.uptoBulk y8.1 < Rows.uptoBulk (DataW.agg ([y0, y1, y2, y3, y4, y5, y6, y7, y8, y9, y10, y11].map (·.1))) := by simp [Rows.uptoBulk, Rows.uptoBulkAll]; omega
    have hb9 : Rows.uptoBulk y9.1 < Rows.uptoBulk (DataW.agg ([y0, y1, y2, y3, y4, y5, y6, y7, y8, y9, y10, y11].map (·.1))) := by simp [Rows.uptoBulk, Rows.uptoBulkAll]; omega
    have hb10 : Rows.uptoBulk y10.1 < Rows.uptoBulk (DataW.agg ([y0, y1, y2, y3, y4, y5, y6, y7, y8, y9, y10, y11].map (·.1))) := by simp [Rows.uptoBulk, Rows.uptoBulkAll]; omega
    have hb11 : Rows.uptoBulk y11.1 < Rows.uptoBulk (DataW.agg ([y0, y1, y2, y3, y4, y5, y6, y7, y8, y9, y10, y11].map (·.1))) := by simp [Rows.uptoBulk, Rows.uptoBulkAll]; omega
    dsimp only at hN ⊢
    obtain ⟨ty, e0, _, w0⟩ := DataW.trod_int Tryz.underlying21 g0
    injection e0 with e0
    obtain ⟨path, e1, hs1⟩ := qfy g1
    injection e1 with e1
    obtain ⟨A2, n2, c2, l2, e2, r2, m2, s2, t2⟩ := qkr g2
    injection e2 with e2
    obtain ⟨A3, n3, c3, l3, e3, r3, m3, s3, t3⟩ := qhO g3
    injection e3 with e3
    obtain ⟨ow, e4, _, w4⟩ := DataW.trod_int Tryz.underlying2 g4
    injection e4 with e4
    obtain ⟨ve, e5, _, w5⟩ := DataW.trod_int Tryz.underlying21 g5
    injection e5 with e5
    obtain ⟨cr, e6, _, w6⟩ := DataW.trod_int Tryz.underlying21 g6
    injection e6 with e6
    obtain ⟨qh, qc, qb, e7, w7, w7'⟩ := qjS g7
    injection e7 with e7 e7'; injection e7' with e7' e7''; injection e7'' with e7''
    obtain ⟨⟨si, st, A8, n8, c8⟩, e8, l8, hz8⟩ := qgt g8
    injection e8 with e8 e8'; injection e8' with e8' e8''; injection e8'' with e8''
    obtain ⟨A9, n9, c9, l9, e9, r9, m9, s9, t9⟩ := qhB g9
    injection e9 with e9
    obtain ⟨co, e10, _, w10⟩ := DataW.trod_int Tryz.underlying49 g10
    injection e10 with e10
    obtain ⟨A11, n11, c11, l11, e11, r11, m11, s11, t11⟩ := qfE (enc0 := fun z : TxH × TxT => qar z.1) (k := 16) Tryz.underlying50 (by kernel_rfl) (by decide) (fun (z : TxH × TxT) m => TxAt w (· < w.heap.size) z.1 z.2 ∧ TxOk m z.2) N (fun fu cs' x' hx' hh => ih fu cs' x' hx' hh) (fun _ _ _ hab hz => ⟨hz.1, hz.2.mono fun _ _ h => h.mono hab⟩) (by omega) g11
    injection e11 with e11
    subst e0 e1 e2 e3 e4 e5 e6 e7 e7' e7'' e8 e8' e8'' e9 e10 e11
    have hlen11 : l11.length = n11 := r11.len
    have g1' : ∀ j, j < n11 → (l11.map (·.1))[j]! = l11[j]!.1 := fun j hj => by rw [getElem!_pos _ j (by simpa [hlen11] using hj), getElem!_pos l11 j (by omega)]; simp
    have g2' : ∀ j, j < n11 → (l11.map (·.2))[j]! = l11[j]!.2 := fun j hj => by rw [getElem!_pos _ j (by simpa [hlen11] using hj), getElem!_pos l11 j (by omega)]; simp
    refine ⟨(⟨⟨ty, path, ow, ve, cr, qh, qc, qb, si, st, co⟩, (A2, n2, c2), (A3, n3, c3), (A8, n8, c8), (A9, n9, c9), (A11, n11, c11)⟩, .mk ⟨⟨ty, path, ow, ve, cr, qh, qc, qb, si, st, co⟩, l2, l3, l8, l9⟩ (l11.map (·.2))), rfl, ?_, ?_⟩
    ·refine TrAt.of_subs (L := l11.map (·.1)) ⟨rfl, SlR.of_sl r2 m2, SlR.of_sl r3 m3, SlR.of_sl hz8.2.2.1 hz8.2.2.2.1, SlR.of_sl r9 m9⟩ (by simp [hlen11]) ⟨by simp [hlen11], m11, fun h0 => ?_⟩ (fun j hj => ?_)
     ·obtain ⟨b, off, eA, hb, hc⟩ := r11.2 h0
      exact ⟨b, off, eA, hb, fun j hj i u hu => hc j hj i u (by rw [g1' j hj] at hu; exact hu)⟩
     ·rw [g1' j hj, g2' j hj]; exact (t11 j hj).1
    ·refine .mk _ _ ⟨⟨by simp [Lit.wf] at w0; exact w0, by simp [Lit.wf] at w4; exact w4, by simp [Lit.wf] at w5; exact w5, by simp [Lit.wf] at w6; exact w6, w7, w7', hz8.1, hz8.2.1, by simp [Lit.wf] at w10; exact w10⟩, by show path.size ≤ _; omega, by show l2.length ≤ _; rw [r2.len]; omega, by show l3.length ≤ _; rw [r3.len]; omega, Nat.le_trans (Nat.le_of_eq hz8.2.2.1.len) (Nat.le_trans hz8.2.2.2.2.1 (Nat.le_of_lt hb8)), by show l9.length ≤ _; rw [r9.len]; omega, by rw [List.length_map, hlen11]; omega, fun j hj => ?_, fun j hj => ?_, fun j hj => ?_⟩ (fun j hj => ?_)
     ·have := t3 j (by rw [← r3.len]; exact hj); exact ⟨this.1, Nat.le_trans this.2.1 (Nat.le_of_lt hb3), Nat.le_trans this.2.2 (Nat.le_of_lt hb3)⟩
     ·have := hz8.2.2.2.2.2 j (by rw [← hz8.2.2.1.len]; exact hj); exact ⟨Nat.le_trans this.1 (Nat.le_of_lt hb8), Nat.le_trans this.2 (Nat.le_of_lt hb8)⟩
     ·exact Nat.le_trans (t9 j (by rw [← r9.len]; exact hj)) (Nat.le_of_lt hb9)
     ·have hj' : j < n11 := by simpa [hlen11] using hj
      rw [g2' j hj']
      exact (t11 j hj').2.mono fun _ _ h => h.mono (by omega)
theorem qob : ∀ (N fuel : Nat) (cs : List Value) (x : DataW H × List MemPlace), Rows.uptoBulk x.1 ≤ N → DataW.trod enc Tryz.prog w base spare held fuel 59 cs = some x →
  ∃ z : RsH × RsT, cs = qax z.1 ∧ RsAt w (· < w.heap.size) z.1 z.2 ∧ RsOk (Rows.uptoBulk x.1) z.2 := by
 intro N
 induction N with
 | zero => intro fuel cs x hN _; have := qfo x.1; omega
 | succ N ih =>
  intro fuel cs x hN h
  obtain ⟨ys, n, _, rfl, hlen, hyl, hf⟩ := DataW.trod_struct Tryz.underlying59 h
  have hc : Tryz.prog.cellsOf 59 = 22 := by kernel_rfl
  have q_Code : Tryz.prog.cellsOf 49 = 1 := by kernel_rfl
  have q_acl : Tryz.prog.cellsOf 42 = 1 := by kernel_rfl
  have q_bytes : Tryz.prog.cellsOf 41 = 1 := by kernel_rfl
  have q_int32 : Tryz.prog.cellsOf 21 = 1 := by kernel_rfl
  have q_ress : Tryz.prog.cellsOf 57 = 1 := by kernel_rfl
  have q_ses : Tryz.prog.cellsOf 47 = 3 := by kernel_rfl
  have q_stat : Tryz.prog.cellsOf 56 = 11 := by kernel_rfl
  have q_string : Tryz.prog.cellsOf 9 = 1 := by kernel_rfl
  have q_strs : Tryz.prog.cellsOf 48 = 1 := by kernel_rfl
  rw [hc] at hlen
  match cs, hlen with
  | [k0, k1, k2, k3, k4, k5, k6, k7, k8, k9, k10, k11, k12, k13, k14, k15, k16, k17, k18, k19, k20, k21], _ =>
   match ys, hyl with
   | [y0, y1, y2, y3, y4, y5, y6, y7, y8, y9], _ =>
    have g0 : DataW.trod enc Tryz.prog w base spare held n 21 (List.take (Tryz.prog.cellsOf 21) [k0, k1, k2, k3, k4, k5, k6, k7, k8, k9, k10, k11, k12, k13, k14, k15, k16, k17, k18, k19, k20, k21]) = some y0 := hf 0 _ rfl
    rw [q_int32] at g0
    have g1 : DataW.trod enc Tryz.prog w base spare held n 49 (List.take (Tryz.prog.cellsOf 49) [k1, k2, k3, k4, k5, k6, k7, k8, k9, k10, k11, k12, k13, k14, k15, k16, k17, k18, k19, k20, k21]) = some y1 := hf 1 _ rfl
    rw [q_Code] at g1
    have g2 : DataW.trod enc Tryz.prog w base spare held n 9 (List.take (Tryz.prog.cellsOf 9) [k2, k3, k4, k5, k6, k7, k8, k9, k10, k11, k12, k13, k14, k15, k16, k17, k18, k19, k20, k21]) = some y2 := hf 2 _ rfl
    rw [q_string] at g2
    have g3 : DataW.trod enc Tryz.prog w base spare held n 56 (List.take (Tryz.prog.cellsOf 56) [k3, k4, k5, k6, k7, k8, k9, k10, k11, k12, k13, k14, k15, k16, k17, k18, k19, k20, k21]) = some y3 := hf 3 _ rfl
    rw [q_stat] at g3
    have g4 : DataW.trod enc Tryz.prog w base spare held n 41 (List.take (Tryz.prog.cellsOf 41) [k14, k15, k16, k17, k18, k19, k20, k21]) = some y4 := hf 4 _ rfl
    rw [q_bytes] at g4
    have g5 : DataW.trod enc Tryz.prog w base spare held n 42 (List.take (Tryz.prog.cellsOf 42) [k15, k16, k17, k18, k19, k20, k21]) = some y5 := hf 5 _ rfl
    rw [q_acl] at g5
    have g6 : DataW.trod enc Tryz.prog w base spare held n 48 (List.take (Tryz.prog.cellsOf 48) [k16, k17, k18, k19, k20, k21]) = some y6 := hf 6 _ rfl
    rw [q_strs] at g6
    have g7 : DataW.trod enc Tryz.prog w base spare held n 21 (List.take (Tryz.prog.cellsOf 21) [k17, k18, k19, k20, k21]) = some y7 := hf 7 _ rfl
    rw [q_int32] at g7
    have g8 : DataW.trod enc Tryz.prog w base spare held n 47 (List.take (Tryz.prog.cellsOf 47) [k18, k19, k20, k21]) = some y8 := hf 8 _ rfl
    rw [q_ses] at g8
    have g9 : DataW.trod enc Tryz.prog w base spare held n 57 (List.take (Tryz.prog.cellsOf 57) [k21]) = some y9 := hf 9 _ rfl
    rw [q_ress] at g9
    simp only [List.take_succ_cons, List.take_zero] at g0 g1 g2 g3 g4 g5 g6 g7 g8 g9
    have hb0 : Rows.uptoBulk y0.1 < Rows.uptoBulk (DataW.agg ([y0, y1, y2, y3, y4, y5, y6, y7, y8, y9].map (·.1))) := by simp [Rows.uptoBulk, Rows.uptoBulkAll]; omega
    have hb1 : Rows.uptoBulk y1.1 < Rows.uptoBulk (DataW.agg ([y0, y1, y2, y3, y4, y5, y6, y7, y8, y9].map (·.1))) := by simp [Rows.uptoBulk, Rows.uptoBulkAll]; omega
    have hb2 : Rows.uptoBulk y2.1 < Rows.uptoBulk (DataW.agg ([y0, y1, y2, y3, y4, y5, y6, y7, y8, y9].map (·.1))) := by simp [Rows.uptoBulk, Rows.uptoBulkAll]; omega
    have hb3 : Rows.uptoBulk y3.1 < Rows.uptoBulk (DataW.agg ([y0, y1, y2, y3, y4, y5, y6, y7, y8, y9].map (·.1))) := by simp [Rows.uptoBulk, Rows.uptoBulkAll]; omega
    have hb4 : Rows.uptoBulk y4.1 < Rows.uptoBulk (DataW.agg ([y0, y1, y2, y3, y4, y5, y6, y7, y8, y9].map (·.1))) := by simp [Rows.uptoBulk, Rows.uptoBulkAll]; omega
    have hb5 : Rows.uptoBulk y5.1 < Rows.uptoBulk (DataW.agg ([y0, y1, y2, y3, y4, y5, y6, y7, y8, y9].map (·.1))) := by simp [Rows.uptoBulk, Rows.uptoBulkAll]; omega
    have hb6 : Rows.uptoBulk y6.1 < Rows.uptoBulk (DataW.agg ([y0, y1, y2, y3, y4, y5, y6, y7, y8, y9].map (·.1))) := by simp [Rows.uptoBulk, Rows.uptoBulkAll]; omega
    have hb7 : Rows.uptoBulk y7.1 < Rows.uptoBulk (DataW.agg ([y0, y1, y2, y3, y4, y5, y6, y7, y8, y9].map (·.1))) := by simp [Rows.uptoBulk, Rows.uptoBulkAll]; omega
    have hb8 : Rows.uptoBulk y8.1 < Rows.uptoBulk (DataW.agg ([y0, y1, y2, y3, y4, y5, y6, y7, y8, y9].map (·.1))) := by simp [Rows.uptoBulk, Rows.uptoBulkAll]; omega
    have hb9 : Rows.uptoBulk y9.1 < Rows.uptoBulk (DataW.agg ([y0, y1, y2, y3, y4, y5, y6, y7, y8, y9].map (·.1))) := by simp [Rows.uptoBulk, Rows.uptoBulkAll]; omega
    dsimp only at hN ⊢
    obtain ⟨ty, e0, _, w0⟩ := DataW.trod_int Tryz.underlying21 g0
    injection e0 with e0
    obtain ⟨co, e1, _, w1⟩ := DataW.trod_int Tryz.underlying49 g1
    injection e1 with e1
    obtain ⟨path, e2, hs2⟩ := qfy g2
    injection e2 with e2
    obtain ⟨q, e3⟩ := qlt g3
    obtain ⟨A4, n4, c4, l4, e4, r4, m4, s4, t4⟩ := qkr g4
    injection e4 with e4
    obtain ⟨A5, n5, c5, l5, e5, r5, m5, s5, t5⟩ := qhO g5
    injection e5 with e5
    obtain ⟨A6, n6, c6, l6, e6, r6, m6, s6, t6⟩ := qhB g6
    injection e6 with e6
    obtain ⟨ct, e7, _, w7⟩ := DataW.trod_int Tryz.underlying21 g7
    injection e7 with e7
    obtain ⟨⟨si, st, A8, n8, c8⟩, e8, l8, hz8⟩ := qgt g8
    injection e8 with e8 e8'; injection e8' with e8' e8''; injection e8'' with e8''
    obtain ⟨A9, n9, c9, l9, e9, r9, m9, s9, t9⟩ := qfE (enc0 := fun z : RsH × RsT => qax z.1) (k := 22) Tryz.underlying57 (by kernel_rfl) (by decide) (fun (z : RsH × RsT) m => RsAt w (· < w.heap.size) z.1 z.2 ∧ RsOk m z.2) N (fun fu cs' x' hx' hh => ih fu cs' x' hx' hh) (fun _ _ _ hab hz => ⟨hz.1, hz.2.mono fun _ _ h => h.mono hab⟩) (by omega) g9
    injection e9 with e9
    simp only [List.cons.injEq, and_true] at e3
    obtain ⟨e30, e31, e32, e33, e34, e35, e36, e37, e38, e39, e3a⟩ := e3
    subst e0 e1 e2 e30 e31 e32 e33 e34 e35 e36 e37 e38 e39 e3a e4 e5 e6 e7 e8 e8' e8'' e9
    have hlen11 : l9.length = n9 := r9.len
    have g1' : ∀ j, j < n9 → (l9.map (·.1))[j]! = l9[j]!.1 := fun j hj => by rw [getElem!_pos _ j (by simpa [hlen11] using hj), getElem!_pos l9 j (by omega)]; simp
    have g2' : ∀ j, j < n9 → (l9.map (·.2))[j]! = l9[j]!.2 := fun j hj => by rw [getElem!_pos _ j (by simpa [hlen11] using hj), getElem!_pos l9 j (by omega)]; simp
    refine ⟨(⟨⟨ty, co, path, q, ct, si, st⟩, (A4, n4, c4), (A5, n5, c5), (A6, n6, c6), (A8, n8, c8), (A9, n9, c9)⟩, .mk ⟨⟨ty, co, path, q, ct, si, st⟩, l4, l5, l6, l8⟩ (l9.map (·.2))), rfl, ?_, ?_⟩
    ·refine TrAt.of_subs (L := l9.map (·.1)) ⟨rfl, SlR.of_sl r4 m4, SlR.of_sl r5 m5, SlR.of_sl r6 m6, SlR.of_sl hz8.2.2.1 hz8.2.2.2.1⟩ (by simp [hlen11]) ⟨by simp [hlen11], m9, fun h0 => ?_⟩ (fun j hj => ?_)
     ·obtain ⟨b, off, eA, hb, hc⟩ := r9.2 h0
      exact ⟨b, off, eA, hb, fun j hj i u hu => hc j hj i u (by rw [g1' j hj] at hu; exact hu)⟩
     ·rw [g1' j hj, g2' j hj]; exact (t9 j hj).1
    ·refine .mk _ _ ⟨⟨by simp [Lit.wf] at w0; exact w0, by simp [Lit.wf] at w1; exact w1, by simp [Lit.wf] at w7; exact w7, hz8.1, hz8.2.1⟩, by show path.size ≤ _; omega, by show l4.length ≤ _; rw [r4.len]; omega, by show l5.length ≤ _; rw [r5.len]; omega, by show l6.length ≤ _; rw [r6.len]; omega, Nat.le_trans (Nat.le_of_eq hz8.2.2.1.len) (Nat.le_trans hz8.2.2.2.2.1 (Nat.le_of_lt hb8)), by rw [List.length_map, hlen11]; omega, fun j hj => ?_, fun j hj => ?_, fun j hj => ?_⟩ (fun j hj => ?_)
     ·have := t5 j (by rw [← r5.len]; exact hj); exact ⟨this.1, Nat.le_trans this.2.1 (Nat.le_of_lt hb5), Nat.le_trans this.2.2 (Nat.le_of_lt hb5)⟩
     ·have := hz8.2.2.2.2.2 j (by rw [← hz8.2.2.1.len]; exact hj); exact ⟨Nat.le_trans this.1 (Nat.le_of_lt hb8), Nat.le_trans this.2 (Nat.le_of_lt hb8)⟩
     ·exact Nat.le_trans (t6 j (by rw [← r6.len]; exact hj)) (Nat.le_of_lt hb6)
     ·have hj' : j < n9 := by simpa [hlen11] using hj
      rw [g2' j hj']
      exact (t9 j hj').2.mono fun _ _ h => h.mono (by omega)
theorem DlSm.mono {m m' : Nat} {d : DlT} (h : DlSm m d) (hm : m ≤ m') : DlSm m' d := ⟨h.1, h.2.mono fun _ _ h => h.mono hm⟩
theorem RpSm.mono {m m' : Nat} {d : RpT} (h : RpSm m d) (hm : m ≤ m') : RpSm m' d := ⟨h.1, h.2.mono fun _ _ h => h.mono hm⟩
theorem qnU {fuel : Nat} {cs : List Value} {x : DataW H × List MemPlace} (h : DataW.trod enc Tryz.prog w base spare held fuel 54 cs = some x) : ∃ z : DlH × DlT, cs = qaU z.1 ∧ DlAt w (· < w.heap.size) z.1 z.2 ∧ DlSm (Rows.uptoBulk x.1) z.2 := by
 obtain ⟨ys, n, _, rfl, hlen, hyl, hf⟩ := DataW.trod_struct Tryz.underlying54 h
 have hc : Tryz.prog.cellsOf 54 = 20 := by kernel_rfl
 have q_Txn : Tryz.prog.cellsOf 52 = 16 := by kernel_rfl
 have q_int32 : Tryz.prog.cellsOf 21 = 1 := by kernel_rfl
 have q_int64 : Tryz.prog.cellsOf 2 = 1 := by kernel_rfl
 rw [hc] at hlen
 match cs, hlen with
 | [k0, k1, k2, k3, k4, k5, k6, k7, k8, k9, k10, k11, k12, k13, k14, k15, k16, k17, k18, k19], _ =>
  match ys, hyl with
  | [y0, y1, y2, y3, y4], _ =>
   have g0 : DataW.trod enc Tryz.prog w base spare held n 2 (List.take (Tryz.prog.cellsOf 2) [k0, k1, k2, k3, k4, k5, k6, k7, k8, k9, k10, k11, k12, k13, k14, k15, k16, k17, k18, k19]) = some y0 := hf 0 _ rfl
   rw [q_int64] at g0
   have g1 : DataW.trod enc Tryz.prog w base spare held n 21 (List.take (Tryz.prog.cellsOf 21) [k1, k2, k3, k4, k5, k6, k7, k8, k9, k10, k11, k12, k13, k14, k15, k16, k17, k18, k19]) = some y1 := hf 1 _ rfl
   rw [q_int32] at g1
   have g2 : DataW.trod enc Tryz.prog w base spare held n 2 (List.take (Tryz.prog.cellsOf 2) [k2, k3, k4, k5, k6, k7, k8, k9, k10, k11, k12, k13, k14, k15, k16, k17, k18, k19]) = some y2 := hf 2 _ rfl
   rw [q_int64] at g2
   have g3 : DataW.trod enc Tryz.prog w base spare held n 2 (List.take (Tryz.prog.cellsOf 2) [k3, k4, k5, k6, k7, k8, k9, k10, k11, k12, k13, k14, k15, k16, k17, k18, k19]) = some y3 := hf 3 _ rfl
   rw [q_int64] at g3
   have g4 : DataW.trod enc Tryz.prog w base spare held n 52 (List.take (Tryz.prog.cellsOf 52) [k4, k5, k6, k7, k8, k9, k10, k11, k12, k13, k14, k15, k16, k17, k18, k19]) = some y4 := hf 4 _ rfl
   rw [q_Txn] at g4
   simp only [List.take_succ_cons, List.take_zero] at g0 g1 g2 g3 g4
   have hb0 : Rows.uptoBulk y0.1 < Rows.uptoBulk (DataW.agg ([y0, y1, y2, y3, y4].map (·.1))) := by simp [Rows.uptoBulk, Rows.uptoBulkAll]; omega
   have hb1 : Rows.uptoBulk y1.1 < Rows.uptoBulk (DataW.agg ([y0, y1, y2, y3, y4].map (·.1))) := by simp [Rows.uptoBulk, Rows.uptoBulkAll]; omega
   have hb2 : Rows.uptoBulk y2.1 < Rows.uptoBulk (DataW.agg ([y0, y1, y2, y3, y4].map (·.1))) := by simp [Rows.uptoBulk, Rows.uptoBulkAll]; omega
   have hb3 : Rows.uptoBulk y3.1 < Rows.uptoBulk (DataW.agg ([y0, y1, y2, y3, y4].map (·.1))) := by simp [Rows.uptoBulk, Rows.uptoBulkAll]; omega
   have hb4 : Rows.uptoBulk y4.1 < Rows.uptoBulk (DataW.agg ([y0, y1, y2, y3, y4].map (·.1))) := by simp [Rows.uptoBulk, Rows.uptoBulkAll]; omega
   dsimp only
   obtain ⟨se, e0, _, w0⟩ := DataW.trod_int Tryz.underlying2 g0
   injection e0 with e0
   obtain ⟨xi, e1, _, w1⟩ := DataW.trod_int Tryz.underlying21 g1
   injection e1 with e1
   obtain ⟨zx, e2, _, w2⟩ := DataW.trod_int Tryz.underlying2 g2
   injection e2 with e2
   obtain ⟨ti, e3, _, w3⟩ := DataW.trod_int Tryz.underlying2 g3
   injection e3 with e3
   obtain ⟨⟨hh, tt⟩, e4, r4, s4⟩ := qnR _ _ _ _ (Nat.le_refl _) g4
   subst e0 e1 e2 e3
   refine ⟨(⟨se, xi, zx, ti, hh⟩, ⟨se, xi, zx, ti, tt⟩), ?_, ⟨⟨rfl, rfl, rfl, rfl⟩, r4⟩, ⟨by simp [Lit.wf] at w0; exact w0, by simp [Lit.wf] at w1; exact w1, by simp [Lit.wf] at w2; exact w2, by simp [Lit.wf] at w3; exact w3⟩, s4.mono fun _ _ h => h.mono (Nat.le_of_lt hb4)⟩
   show _ = [Value.int .i64 se, .int .i32 xi, .int .i64 zx, .int .i64 ti] ++ qar hh
   rw [← e4]; rfl
theorem qny {fuel : Nat} {cs : List Value} {x : DataW H × List MemPlace} (h : DataW.trod enc Tryz.prog w base spare held fuel 61 cs = some x) : ∃ z : RpH × RpT, cs = qaX z.1 ∧ RpAt w (· < w.heap.size) z.1 z.2 ∧ RpSm (Rows.uptoBulk x.1) z.2 := by
 obtain ⟨ys, n, _, rfl, hlen, hyl, hf⟩ := DataW.trod_struct Tryz.underlying61 h
 have hc : Tryz.prog.cellsOf 61 = 25 := by kernel_rfl
 have q_Code : Tryz.prog.cellsOf 49 = 1 := by kernel_rfl
 have q_Result : Tryz.prog.cellsOf 59 = 22 := by kernel_rfl
 have q_int32 : Tryz.prog.cellsOf 21 = 1 := by kernel_rfl
 have q_int64 : Tryz.prog.cellsOf 2 = 1 := by kernel_rfl
 rw [hc] at hlen
 match cs, hlen with
 | [k0, k1, k2, k3, k4, k5, k6, k7, k8, k9, k10, k11, k12, k13, k14, k15, k16, k17, k18, k19, k20, k21, k22, k23, k24], _ =>
  match ys, hyl with
  | [y0, y1, y2, y3], _ =>
   have g0 : DataW.trod enc Tryz.prog w base spare held n 21 (List.take (Tryz.prog.cellsOf 21) [k0, k1, k2, k3, k4, k5, k6, k7, k8, k9, k10, k11, k12, k13, k14, k15, k16, k17, k18, k19, k20, k21, k22, k23, k24]) = some y0 := hf 0 _ rfl
   rw [q_int32] at g0
   have g1 : DataW.trod enc Tryz.prog w base spare held n 2 (List.take (Tryz.prog.cellsOf 2) [k1, k2, k3, k4, k5, k6, k7, k8, k9, k10, k11, k12, k13, k14, k15, k16, k17, k18, k19, k20, k21, k22, k23, k24]) = some y1 := hf 1 _ rfl
   rw [q_int64] at g1
   have g2 : DataW.trod enc Tryz.prog w base spare held n 49 (List.take (Tryz.prog.cellsOf 49) [k2, k3, k4, k5, k6, k7, k8, k9, k10, k11, k12, k13, k14, k15, k16, k17, k18, k19, k20, k21, k22, k23, k24]) = some y2 := hf 2 _ rfl
   rw [q_Code] at g2
   have g3 : DataW.trod enc Tryz.prog w base spare held n 59 (List.take (Tryz.prog.cellsOf 59) [k3, k4, k5, k6, k7, k8, k9, k10, k11, k12, k13, k14, k15, k16, k17, k18, k19, k20, k21, k22, k23, k24]) = some y3 := hf 3 _ rfl
   rw [q_Result] at g3
   simp only [List.take_succ_cons, List.take_zero] at g0 g1 g2 g3
   have hb0 : Rows.uptoBulk y0.1 < Rows.uptoBulk (DataW.agg ([y0, y1, y2, y3].map (·.1))) := by simp [Rows.uptoBulk, Rows.uptoBulkAll]; omega
   have hb1 : Rows.uptoBulk y1.1 < Rows.uptoBulk (DataW.agg ([y0, y1, y2, y3].map (·.1))) := by simp [Rows.uptoBulk, Rows.uptoBulkAll]; omega
   have hb2 : Rows.uptoBulk y2.1 < Rows.uptoBulk (DataW.agg ([y0, y1, y2, y3].map (·.1))) := by simp [Rows.uptoBulk, Rows.uptoBulkAll]; omega
   have hb3 : Rows.uptoBulk y3.1 < Rows.uptoBulk (DataW.agg ([y0, y1, y2, y3].map (·.1))) := by simp [Rows.uptoBulk, Rows.uptoBulkAll]; omega
   dsimp only
   obtain ⟨xi, e0, _, w0⟩ := DataW.trod_int Tryz.underlying21 g0
   injection e0 with e0
   obtain ⟨zx, e1, _, w1⟩ := DataW.trod_int Tryz.underlying2 g1
   injection e1 with e1
   obtain ⟨co, e2, _, w2⟩ := DataW.trod_int Tryz.underlying49 g2
   injection e2 with e2
   obtain ⟨⟨hh, tt⟩, e3, r3, s3⟩ := qob _ _ _ _ (Nat.le_refl _) g3
   subst e0 e1 e2
   refine ⟨(⟨xi, zx, co, hh⟩, ⟨xi, zx, co, tt⟩), ?_, ⟨⟨rfl, rfl, rfl⟩, r3⟩, ⟨by simp [Lit.wf] at w0; exact w0, by simp [Lit.wf] at w1; exact w1, by simp [Lit.wf] at w2; exact w2⟩, s3.mono fun _ _ h => h.mono (Nat.le_of_lt hb3)⟩
   show _ = [Value.int .i32 xi, .int .i64 zx, .int .i32 co] ++ qax hh
   rw [← e3]; rfl
/-- a call of a queue's script: its kind, two numbers, a delta and a reply -/
abbrev QoC := Int × Int × Int
abbrev QoV := QoC × PrH × PrT
theorem qmA (cs : List Value) (h : cs.length = 48) : cs = (cs.drop 0).take 1 ++ ((cs.drop 1).take 1 ++ (cs.drop 2).take 1) ++ ((cs.drop 3).take 20 ++ (cs.drop 23).take 25) := by
 have h1 := (List.take_append_drop 1 cs).symm
 have h2 := (List.take_append_drop 1 (cs.drop 1)).symm
 have h3 := (List.take_append_drop 1 (cs.drop 2)).symm
 have h4 := (List.take_append_drop 20 (cs.drop 3)).symm
 have h5 : (cs.drop 23).take 25 = cs.drop 23 := List.take_of_length_le (by simp; omega)
 rw [List.drop_drop] at h2 h3 h4
 rw [h5, List.drop_zero]
 conv => lhs; rw [h1, h2, h3, h4]
 simp only [List.append_assoc]
def encQo (z : QoC) (h : PrH) : List Value := [.int .i64 z.1, .int .i64 z.2.1, .int .i64 z.2.2] ++ qah h
def QoOk (w : World) (m : Nat) (z : QoV) : Prop := (wfI z.1.1 ∧ wfI z.1.2.1 ∧ wfI z.1.2.2) ∧ PrAt w (· < w.heap.size) z.2.1 z.2.2 ∧ DlSm m z.2.2.d ∧ RpSm m z.2.2.r
theorem QoOk.mono {w : World} {m m' : Nat} {z : QoV} (h : QoOk w m z) (hm : m ≤ m') : QoOk w m' z := ⟨h.1, h.2.1, h.2.2.1.mono hm, h.2.2.2.mono hm⟩
theorem qnE {fuel : Nat} {cs : List Value} {x : DataW H × List MemPlace} (h : DataW.trod enc Tryz.prog w base spare held fuel 77 cs = some x) : ∃ z : QoV, cs = encQo z.1 z.2.1 ∧ QoOk w (Rows.uptoBulk x.1) z := by
 obtain ⟨ys, n, _, rfl, hlen, hyl, hf⟩ := DataW.trod_struct Tryz.underlying77 h
 have hc : Tryz.prog.cellsOf 77 = 48 := by kernel_rfl
 have q_int : Tryz.prog.cellsOf 3 = 1 := by kernel_rfl
 have q_int64 : Tryz.prog.cellsOf 2 = 1 := by kernel_rfl
 have q_Delta : Tryz.prog.cellsOf 54 = 20 := by kernel_rfl
 have q_Reply : Tryz.prog.cellsOf 61 = 25 := by kernel_rfl
 rw [hc] at hlen
 match ys, hyl with
 | [y0, y1, y2, y3, y4], _ =>
   have g0 : DataW.trod enc Tryz.prog w base spare held n 3 (List.take (Tryz.prog.cellsOf 3) (List.drop 0 cs)) = some y0 := hf 0 _ rfl
   have g1 : DataW.trod enc Tryz.prog w base spare held n 3 (List.take (Tryz.prog.cellsOf 3) (List.drop 1 cs)) = some y1 := hf 1 _ rfl
   have g2 : DataW.trod enc Tryz.prog w base spare held n 2 (List.take (Tryz.prog.cellsOf 2) (List.drop 2 cs)) = some y2 := hf 2 _ rfl
   have g3 : DataW.trod enc Tryz.prog w base spare held n 54 (List.take (Tryz.prog.cellsOf 54) (List.drop 3 cs)) = some y3 := hf 3 _ rfl
   have g4 : DataW.trod enc Tryz.prog w base spare held n 61 (List.take (Tryz.prog.cellsOf 61) (List.drop 23 cs)) = some y4 := hf 4 _ rfl
   rw [q_int] at g0 g1
   rw [q_int64] at g2
   rw [q_Delta] at g3
   rw [q_Reply] at g4
   have hb3 : Rows.uptoBulk y3.1 < Rows.uptoBulk (DataW.agg ([y0, y1, y2, y3, y4].map (·.1))) := by simp [Rows.uptoBulk, Rows.uptoBulkAll]; omega
   have hb4 : Rows.uptoBulk y4.1 < Rows.uptoBulk (DataW.agg ([y0, y1, y2, y3, y4].map (·.1))) := by simp [Rows.uptoBulk, Rows.uptoBulkAll]; omega
   dsimp only
   obtain ⟨p0, e0, _, w0⟩ := DataW.trod_int Tryz.underlying3 g0
   obtain ⟨p1, e1, _, w1⟩ := DataW.trod_int Tryz.underlying3 g1
   obtain ⟨p2, e2, _, w2⟩ := DataW.trod_int Tryz.underlying2 g2
   obtain ⟨⟨dh, dt⟩, e3, r3, s3⟩ := qnU g3
   obtain ⟨⟨rh, rt⟩, e4, r4, s4⟩ := qny g4
   refine ⟨((p0, p1, p2), ⟨dh, rh⟩, ⟨dt, rt⟩), ?_, ⟨by simp [Lit.wf] at w0; exact w0, by simp [Lit.wf] at w1; exact w1, by simp [Lit.wf] at w2; exact w2⟩, ⟨r3, r4⟩, s3.mono (Nat.le_of_lt hb3), s4.mono (Nat.le_of_lt hb4)⟩
   show _ = [Value.int .i64 p0, .int .i64 p1, .int .i64 p2] ++ (qaU dh ++ qaX rh)
   dsimp only at e3 e4
   rw [← e3, ← e4]
   rw [show [Value.int .i64 p0, .int .i64 p1, .int .i64 p2] = [Value.int .i64 p0] ++ ([Value.int .i64 p1] ++ [Value.int .i64 p2]) from rfl, ← e0, ← e1, ← e2]
   exact qmA cs hlen
theorem open_qos {v : Value} {d : DataW H} {ps : List MemPlace} {b0 : Nat} (hval : Value.okWide Tryz.prog w .any b0 73 v) (h : DataW.Trod enc Tryz.prog w base spare held 73 v d ps) (hb : Rows.uptoBulk d ≤ 1048576) :
  ∃ A n c, ∃ L : List QoV, v = .slice A n c ∧ Sl w w.heap.size (fun z : QoV => encQo z.1 z.2.1) 48 A n L ∧ n ≤ 1048576 ∧ ∀ j, j < n → QoOk w 1048576 L[j]! := by
 obtain ⟨A, n, c, l, e, h1, h2, h3, h4⟩ := qgA (enc0 := fun z : QoV => encQo z.1 z.2.1) (k := 48) Tryz.underlying73 (by kernel_rfl) (by decide) (fun z m => QoOk w m z) (fun _ _ x hx => qnE hx) (fun _ _ _ hab hz => hz.mono hab) hval h
 exact ⟨A, n, c, l, e, h1, Nat.le_trans h3 hb, fun j hj => (h4 j hj).mono hb⟩
end
end Go.Proofs.YtbpmmmnphpkdjaaGreatDoor
