/- Lists and trees behind a call that turns only blocks of its own; a row of trees that is copied element by element. No program; no condition. Whole structs out of variables and into them, however many cells they have. No condition. One cell into the variable that was made last. No condition. -/
import Derived.Test.YtbpmmmnphpkdjaaGreatDoorZTxnP
import Derived.Test.YtbpmmmnphpkdjaaGreatDoorZSesR
import Derived.Deep.MidRow
import Derived.Deep.Upon
import Derived.Laws.Rows
import Derived.Laws.Tables
import Derived.Deep.WholeRow
import Derived.Laws.CopyOwn
namespace Go.Proofs.YtbpmmmnphpkdjaaGreatDoor
open Go.RowKit Go.MapKept
section
variable {α : Type} [Inhabited α] {w w' : World} {R R' : Nat → Prop} {k : Nat} {enc : α → List Value} {h : SlC} {zs : List α}
theorem SlR.fr {own : List Nat} (H : SlR w R enc k h zs) (hf : Fr own w w') (hR : ∀ b, b < w.heap.size → R b → b ∉ own ∧ R' b) (hk0 : ∀ x, 0 < (enc x).length) : SlR w' R' enc k h zs :=
  ⟨H.1, H.2.1, fun hn => by
    obtain ⟨b, off, e, hb, hc⟩ := H.2.2 hn
    have hlt : b < w.heap.size := by
      have := hc 0 hn 0 _ (List.getElem?_eq_getElem (hk0 zs[0]!))
      exact World.block_lt_of_cell? _ _ this
    exact ⟨b, off, e, (hR b hlt hb).2, fun j hj i u hu => (hf.cell (p := ⟨b, off + j * k + i, none⟩) hlt (hR b hlt hb).1).trans (hc j hj i u hu)⟩⟩
end
section
variable {α β : Type} [Inhabited β] {K : Kd α β} {w w' : World} {R R' : Nat → Prop} {h : α} {t : Tr β}
/-- what a kind of values must keep -/
structure KdOk {α β : Type} (K : Kd α β) : Prop where
  len : ∀ x, (K.enc x).length = K.k
  pos : 0 < K.k
  one : ∀ x u, u ∈ K.enc x → u.oneCell' = true
  loc : ∀ {own : List Nat} {w w' : World} {R R' : Nat → Prop} {h : α} {v : β}, K.loc w R h v → Fr own w w' → (∀ b, b < w.heap.size → R b → b ∉ own ∧ R' b) → K.loc w' R' h v
theorem TrAt.fr (hK : KdOk K) {own : List Nat} (H : TrAt K w R h t) (hf : Fr own w w') (hR : ∀ b, b < w.heap.size → R b → b ∉ own ∧ R' b) : TrAt K w' R' h t := by
  induction H with
  | mk h v subs H b off l ls hs at_ cells _ ih =>
    have hlt : ∀ j, j < (K.sub h).2.1 → b < w.heap.size := fun j hj =>
      World.block_lt_of_cell? _ _ (cells j hj 0 _ (List.getElem?_eq_getElem (by rw [hK.len]; exact hK.pos)))
    refine .mk h v subs H b off (hK.loc l hf hR) ls hs (fun h0 => ⟨(at_ h0).1, (hR b (hlt 0 h0) (at_ h0).2).2⟩) (fun j hj i u hu => ?_) ih
    exact (hf.cell (p := ⟨b, off + j * K.k + i, none⟩) (hlt j hj) (hR b (hlt j hj) (at_ (by omega)).2).1).trans (cells j hj i u hu)
end
theorem fr_setCells (w : World) (b o : Nat) (vs : List Value) : Fr [b] w (w.setCells b o vs) := by
  induction vs generalizing o w with
  | nil => exact Fr.refl _ _
  | cons v r ih =>
    rw [World.setCells]
    exact (fr_set w b o v).trans (ih _ _) (fun g hg => .inl hg)
theorem there_below {w w' : World} {b o n : Nat} (h : w.there b o n) (hb : Below w.heap.size w w') : w'.there b o n := fun j hj => by
  obtain ⟨h1, h2⟩ := h j hj
  obtain ⟨u, hu⟩ := Option.isSome_iff_exists.1 h1
  have hlt : b < w.heap.size := World.block_lt_of_cell? w _ hu
  exact ⟨by rw [hb.cell (p := ⟨b, o + j, none⟩) hlt]; exact h1, by rw [hb.frozen (p := ⟨b, o + j, none⟩) hlt]; exact h2⟩
theorem range_below {w w' : World} {b o : Nat} {cs : List Value} (h : w.rangeAt b o cs) (hb : Below w.heap.size w w') : w'.rangeAt b o cs := fun j v hv => by
  have hu := h j v hv
  rw [hb.cell (p := ⟨b, o + j, none⟩) (World.block_lt_of_cell? w _ hu)]; exact hu
/-- a row of n trees in block gs: the first k are new (blocks from hi on), the others are as they were (blocks below B) -/
structure ClSt {α β : Type} [Inhabited β] (K : Kd α β) (B hi gs n : Nat) (subs : List (Tr β)) (k : Nat) (w : World) : Prop where
  th : w.there gs 0 (n * K.k)
  old : ∀ j, k ≤ j → j < n → ∃ h, w.rangeAt gs (j * K.k) (K.enc h) ∧ TrAt K w (· < B) h subs[j]!
  new : ∀ j, j < k → ∃ h, w.rangeAt gs (j * K.k) (K.enc h) ∧ TrAt K w (hi ≤ ·) h subs[j]!
section
variable {α β : Type} [Inhabited β] {K : Kd α β} {B hi gs n k : Nat} {subs : List (Tr β)} {w w1 w' : World}
theorem ClSt.below (hK : KdOk K) (H : ClSt K B hi gs n subs k w) (hb : Below w.heap.size w w') : ClSt K B hi gs n subs k w' :=
  ⟨there_below H.th hb, fun j h1 h2 => by
    obtain ⟨h, hr, ht⟩ := H.old j h1 h2
    exact ⟨h, range_below hr hb, ht.fr hK (Fr.of_below (own := []) hb) (fun _ _ h => ⟨by simp, h⟩)⟩, fun j h1 => by
    obtain ⟨h, hr, ht⟩ := H.new j h1
    exact ⟨h, range_below hr hb, ht.fr hK (Fr.of_below (own := []) hb) (fun _ _ h => ⟨by simp, h⟩)⟩⟩
theorem ClSt.other (hK : KdOk K) (H : ClSt K B hi gs n subs k w) {own : List Nat} (hf : Fr own w w') (hth : w'.there gs 0 (n * K.k)) (hgs : gs ∉ own) (hB : ∀ g ∈ own, B ≤ g ∧ g < hi) : ClSt K B hi gs n subs k w' := by
  have hr : ∀ {o : Nat} {cs : List Value}, w.rangeAt gs o cs → w'.rangeAt gs o cs := fun h j v hv => by
    have hu := h j v hv
    rw [hf.cell (p := ⟨gs, _ + j, none⟩) (World.block_lt_of_cell? w _ hu) hgs]; exact hu
  refine ⟨hth, fun j h1 h2 => ?_, fun j h1 => ?_⟩
  · obtain ⟨h, h3, ht⟩ := H.old j h1 h2
    exact ⟨h, hr h3, ht.fr hK hf (fun b _ h => ⟨fun hm => by have := (hB b hm).1; omega, h⟩)⟩
  · obtain ⟨h, h3, ht⟩ := H.new j h1
    exact ⟨h, hr h3, ht.fr hK hf (fun b _ h => ⟨fun hm => by have := (hB b hm).2; omega, h⟩)⟩
theorem ClSt.there_row (H : ClSt K B hi gs n subs k w) (hk : k < n) : w.there gs (k * K.k) K.k := fun j hj => by
  have h1 := Nat.mul_le_mul_right K.k (show k + 1 ≤ n from hk)
  rw [Nat.add_mul, Nat.one_mul] at h1
  have := H.th (k * K.k + j) (by omega)
  rwa [Nat.zero_add] at this
/-- one element more is new -/
theorem ClSt.step (hK : KdOk K) (H : ClSt K B hi gs n subs k w1) (hb : Below w1.heap.size w1 w) {h' : α} (ht : TrAt K w (w1.heap.size ≤ ·) h' subs[k]!) (hk : k < n) (hgs : gs < hi) (hi1 : hi ≤ w1.heap.size) (hB : B ≤ gs) : ClSt K B hi gs n subs (k + 1) (w.setCells gs (k * K.k) (K.enc h')) := by
  have H := H.below hK hb
  have hthr := H.there_row hk
  refine ⟨World.there_setCells H.th _ _ _, fun j h1 h2 => ?_, fun j h1 => ?_⟩
  · obtain ⟨h, h3, ht⟩ := H.old j (by omega) h2
    have hm := Nat.mul_le_mul_right K.k (show k + 1 ≤ j from h1)
    rw [Nat.add_mul, Nat.one_mul] at hm
    exact ⟨h, World.rangeAt_setCells_apart h3 _ _ _ (.inr (.inr (by rw [hK.len]; exact hm))), ht.fr hK (fr_setCells _ _ _ _) (fun b _ h => ⟨by simp; omega, h⟩)⟩
  · by_cases e : j = k
    · subst e
      exact ⟨h', World.rangeAt_setCells_same _ _ _ _ (by rw [hK.len]; exact hthr), ht.fr hK (fr_setCells _ _ _ _) (fun b _ h => ⟨by simp; omega, by omega⟩)⟩
    · obtain ⟨h, h3, ht⟩ := H.new j (by omega)
      have hm := Nat.mul_le_mul_right K.k (show j + 1 ≤ k by omega)
      rw [Nat.add_mul, Nat.one_mul] at hm
      exact ⟨h, World.rangeAt_setCells_apart h3 _ _ _ (.inr (.inl (by rw [hK.len]; exact hm))), ht.fr hK (fr_setCells _ _ _ _) (fun b _ h => ⟨by simp; omega, h⟩)⟩
/-- all are new: the tree -/
theorem ClSt.tree [Inhabited α] (H : ClSt K B hi gs n subs n w) {h : α} {v : β} {R : Nat → Prop} (hK : KdOk K) (hl : K.loc w R h v) (hlen : subs.length = n) (hs : (K.sub h).2.1 = n) (hd : hdOk (K.sub h)) (ha : 0 < n → (K.sub h).1 = some ⟨gs, 0, none⟩ ∧ R gs) (hR : ∀ b, hi ≤ b → R b) : TrAt K w R h (.mk v subs) := by
  refine .mk h v subs (fun j => if hj : j < n then (H.new j hj).choose else default) gs 0 hl (by omega) hd (fun h0 => ha (by omega)) (fun j hj i u hu => ?_) (fun j hj => ?_)
  · have hj' : j < n := by omega
    simp only [hj', dite_true] at hu
    have := (H.new j hj').choose_spec.1 i u hu
    rwa [Nat.zero_add]
  · have hj' : j < n := by omega
    simp only [hj', dite_true]
    exact (H.new j hj').choose_spec.2.fr hK (Fr.refl [] w) (fun b _ h => ⟨by simp, hR b h⟩)
/-- the row as slices.Clone gives it -/
theorem ClSt.start [Inhabited α] (hK : KdOk K) {base c : Nat} {T : TypeId} {A : Option Addr} {L : List α} (hr : w.ownsRow base T K.k (.slice A n c) n (L.flatMap K.enc)) (hl : L.length = n) (ht : ∀ j, j < n → TrAt K w (· < B) L[j]! subs[j]!) :
    (A = none → n = 0 ∧ c = 0) ∧ n ≤ c ∧ ∃ gs, base ≤ gs ∧ (0 < n → A = some ⟨gs, 0, none⟩ ∧ gs < w.heap.size) ∧ ClSt K B w.heap.size gs n subs 0 w := by
  rcases hr.2 with ⟨e, e2⟩ | ⟨g, cap, cur, e1, h2, h3, h4, h5, h6, h7⟩
  · injection e with e e3 e4
    subst e e2 e4
    exact ⟨fun _ => ⟨rfl, rfl⟩, Nat.le_refl _, base, Nat.le_refl _, fun h => absurd h (by omega), ⟨fun j hj => absurd hj (by omega), fun j _ hj => absurd hj (by omega), fun j hj => absurd hj (by omega)⟩⟩
  · injection e1 with e1 e3 e4
    subst e1 e4
    have hcs : n * K.k ≤ cur.size := by rw [h6]; exact Nat.mul_le_mul_right _ h4
    refine ⟨fun h => (by cases h), h4, g, h2, fun _ => ⟨rfl, (Array.getElem?_eq_some_iff.1 h3).1⟩, ⟨fun j hj => ?_, fun j _ hj => ?_, fun j hj => absurd hj (by omega)⟩⟩
    · rw [Nat.zero_add]
      have hj' : j < cur.size := by omega
      refine ⟨?_, by simp [World.frozen?, h3]⟩
      have : w.cell? ⟨g, j, none⟩ = cur[j]? := by simp [World.cell?, h3]
      rw [this, Array.getElem?_eq_getElem hj']; rfl
    · refine ⟨L[j]!, fun i u hu => ?_, ht j hj⟩
      have hf := flat_at hK.len L j i u (by omega) hu
      rw [← h7] at hf
      have hc : w.cell? ⟨g, j * K.k + i, none⟩ = cur[j * K.k + i]? := by simp [World.cell?, h3]
      rw [hc]
      rw [List.getElem?_take] at hf
      split at hf
      · simpa using hf
      · cases hf
end
end Go.Proofs.YtbpmmmnphpkdjaaGreatDoor
namespace Go.Proofs.YtbpmmmnphpkdjaaGreatDoor
open Go.RowKit Go.MapKept
section
variable {P : Program} {o : Oper} {a : Act} {w w0 : World} {K : Act → World → Prop} {Q : Exit → Act → World → Prop}
/-- into the variable that was made last -/
theorem wp_storeTop (ty t : TypeId) {x y : Operand} {old cells : Array Value} {g : Nat} (ho : o.op = .store ty x y) (hx : a.eval x = .pointer (some ⟨g, 0, none⟩)) (hg : w0.heap.size = g) (hy : a.eval y = .agg cells)
    (hi : (P.info? ty).map (·.size) = some cells.size) (hold : old.size = cells.size) (h1 : cells.all (·.oneCell') = true) (h : K (a.put o.dst undef) (w0.alloc (.cells cells t))) : o.wp P a (w0.alloc (.cells old t)) K Q := by
  subst hg
  refine wp_store_row ty x y ho w0.heap.size cells hx hy t old (heap_alloc_last w0 _) hi hold h1 ?_
  rw [World.setRow_alloc_new]
  exact h
/-- into a variable -/
theorem wp_storeRow (ty t : TypeId) {x y : Operand} {old cells : Array Value} {g : Nat} (ho : o.op = .store ty x y) (hx : a.eval x = .pointer (some ⟨g, 0, none⟩)) (hy : a.eval y = .agg cells) (hg : w.heap[g]? = some (.cells old t (0, 0)))
    (hi : (P.info? ty).map (·.size) = some cells.size) (hold : old.size = cells.size) (h1 : cells.all (·.oneCell') = true) (h : K (a.put o.dst undef) (w.setRow g cells)) : o.wp P a w K Q :=
  wp_store_row ty x y ho g cells hx hy t old hg hi hold h1 h
/-- a whole struct out of a variable -/
theorem wp_loadRow (ty t : TypeId) {x : Operand} {g : Nat} {cs : Array Value} {d : TypeDesc} (ho : o.op = .load ty x) (hx : a.eval x = .pointer (some ⟨g, 0, none⟩)) (hg : w.heap[g]? = some (.cells cs t (0, 0)))
    (hu : P.underlying ty = some d) (hd : d.isRow = true) (hi : (P.info? ty).map (·.size) = some cs.size) (h : K (a.put o.dst (.agg cs)) w) : o.wp P a w K Q := by
  refine wp_load_row ty x ho g hx t cs (0, 0) d hg hu ?_ hi h
  cases d <;> simp_all [TypeDesc.isRow]
variable {ops : Array Oper} {rest : List Oper}
theorem wpList_storeTop (ty t : TypeId) {x y : Operand} {old cells : Array Value} {g : Nat} (hgd : o.guard = none) (ho : o.op = .store ty x y) (hx : a.eval x = .pointer (some ⟨g, 0, none⟩)) (hg : w0.heap.size = g) (hy : a.eval y = .agg cells)
    (hi : (P.info? ty).map (·.size) = some cells.size) (hold : old.size = cells.size) (h1 : cells.all (·.oneCell') = true) (h : wpList P ops Q rest (a.put o.dst undef) (w0.alloc (.cells cells t))) : wpList P ops Q (o :: rest) a (w0.alloc (.cells old t)) :=
  wpList_plain hgd fun _ hK => wp_storeTop ty t ho hx hg hy hi hold h1 (hK _ _ h)
theorem wpList_storeRow (ty t : TypeId) {x y : Operand} {old cells : Array Value} {g : Nat} (hgd : o.guard = none) (ho : o.op = .store ty x y) (hx : a.eval x = .pointer (some ⟨g, 0, none⟩)) (hy : a.eval y = .agg cells) (hg : w.heap[g]? = some (.cells old t (0, 0)))
    (hi : (P.info? ty).map (·.size) = some cells.size) (hold : old.size = cells.size) (h1 : cells.all (·.oneCell') = true) (h : wpList P ops Q rest (a.put o.dst undef) (w.setRow g cells)) : wpList P ops Q (o :: rest) a w :=
  wpList_plain hgd fun _ hK => wp_storeRow ty t ho hx hy hg hi hold h1 (hK _ _ h)
theorem wpList_loadRow (ty t : TypeId) {x : Operand} {g : Nat} {cs : Array Value} {d : TypeDesc} (hgd : o.guard = none) (ho : o.op = .load ty x) (hx : a.eval x = .pointer (some ⟨g, 0, none⟩)) (hg : w.heap[g]? = some (.cells cs t (0, 0)))
    (hu : P.underlying ty = some d) (hd : d.isRow = true) (hi : (P.info? ty).map (·.size) = some cs.size) (h : wpList P ops Q rest (a.put o.dst (.agg cs)) w) : wpList P ops Q (o :: rest) a w :=
  wpList_plain hgd fun _ hK => wp_loadRow ty t ho hx hg hu hd hi (hK _ _ h)
/-- a whole struct out of the middle of a block -/
theorem wpList_loadMid (ty : TypeId) {x : Operand} {b q : Nat} {cs : List Value} {d : TypeDesc} (hgd : o.guard = none) (ho : o.op = .load ty x) (hx : a.eval x = .pointer (some ⟨b, q, none⟩)) (hc : w.rangeAt b q cs)
    (hu : P.underlying ty = some d) (hd : d.isRow = true) (hi : (P.info? ty).map (·.size) = some cs.length) (h : wpList P ops Q rest (a.put o.dst (.agg cs.toArray)) w) : wpList P ops Q (o :: rest) a w :=
  wpList_load_mid hgd ty x ho b q hx cs d hc hu hd hi h
theorem wpList_storeMid (ty : TypeId) {x y : Operand} {b q : Nat} {cells : Array Value} (hgd : o.guard = none) (ho : o.op = .store ty x y) (hx : a.eval x = .pointer (some ⟨b, q, none⟩)) (hy : a.eval y = .agg cells) (ht : w.there b q cells.size)
    (hi : (P.info? ty).map (·.size) = some cells.size) (h1 : cells.all (·.oneCell') = true) (h : wpList P ops Q rest (a.put o.dst undef) (w.setCells b q cells.toList)) : wpList P ops Q (o :: rest) a w :=
  wpList_store_mid hgd ty x y ho b q cells hx hy ht hi h1 h
end
theorem results_cellK {fn : Func} {p : Tmp} {ty : TypeId} (h : fn.results = #[.cell p ty]) (tmps : Array Value) (P : Program) (w : World) :
    (results fn tmps).run P w = ((asAddr (tmps.getD p undef)).run P w).andThen fun a w₁ => (loadVar ty a).run P w₁ := by
  simp only [results, h]
  simp [Sem.run_bind]
theorem res_cell {P : Program} {w : World} {x : Value} {g : Nat} {ty t : TypeId} {cs : Array Value} {d : TypeDesc} (hx : x = .pointer (some ⟨g, 0, none⟩)) (hg : w.heap[g]? = some (.cells cs t (0, 0))) (hu : P.underlying ty = some d) (hd : d.isRow = true)
    (hi : (P.info? ty).map (·.size) = some cs.size) : (((asAddr x).run P w).andThen fun a w₁ => (loadVar ty a).run P w₁) = .ok (.agg cs) w := by
  subst hx
  show (loadVar ty ⟨g, 0, none⟩).run P w = _
  refine run_loadVar_row w g t ty cs (0, 0) d hg hu ?_ hi
  cases d <;> simp_all [TypeDesc.isRow]
/-- a function's end whose result is a struct in a variable -/
theorem bodyPost_cell {P : Program} {fn : Func} {Q : Ending → World → Prop} {a : Act} {w : World} {p : Tmp} {ty t : TypeId} {g : Nat} {cs : Array Value} {d : TypeDesc} (h : fn.results = #[.cell p ty]) (hx : a.tmps.getD p undef = .pointer (some ⟨g, 0, none⟩))
    (hg : w.heap[g]? = some (.cells cs t (0, 0))) (hu : P.underlying ty = some d) (hd : d.isRow = true) (hi : (P.info? ty).map (·.size) = some cs.size) (hdf : a.defers = []) (hq : Q (.returned (.agg cs)) w) : bodyPost P fn Q .ret a w :=
  bodyPost_ret ((results_cellK h _ _ _).trans (res_cell hx hg hu hd hi)) hdf hq
theorem heap_under {w : World} {o : Obj} {g : Nat} {x : Obj} (h : w.heap[g]? = some x) : (w.alloc o).heap[g]? = some x := by
  rw [Below.heap_alloc _ _ g (Array.getElem?_eq_some_iff.1 h).1]; exact h
theorem heap_top (w : World) (o : Obj) : (w.alloc o).heap[w.heap.size]? = some o := heap_alloc_last w o
theorem heap_top' {w : World} {o : Obj} {g : Nat} (h : w.heap.size = g) : (w.alloc o).heap[g]? = some o := by subst h; exact heap_alloc_last w o
theorem sz1 (w : World) (a : Obj) : (w.alloc a).heap.size = w.heap.size + 1 := by simp
theorem sz2 (w : World) (a b : Obj) : ((w.alloc a).alloc b).heap.size = w.heap.size + 1 + 1 := by simp
theorem sz3 (w : World) (a b c : Obj) : (((w.alloc a).alloc b).alloc c).heap.size = w.heap.size + 1 + 1 + 1 := by simp
theorem heap_s0 (w : World) (a : Obj) : (w.alloc a).heap[w.heap.size]? = some a := heap_alloc_last w a
theorem heap_s1 (w : World) (a b : Obj) : ((w.alloc a).alloc b).heap[w.heap.size + 1]? = some b := heap_top' (sz1 w a)
theorem heap_s2 (w : World) (a b c : Obj) : (((w.alloc a).alloc b).alloc c).heap[w.heap.size + 1 + 1]? = some c := heap_top' (sz2 w a b)
theorem heap_s3 (w : World) (a b c d : Obj) : ((((w.alloc a).alloc b).alloc c).alloc d).heap[w.heap.size + 1 + 1 + 1]? = some d := heap_top' (sz3 w a b c)
theorem undTx : Tryz.prog.underlying 52 = some (.struct (Tryz.prog.fieldsOf 52)) := by kernel_rfl
theorem infTx : (Tryz.prog.info? 52).map (·.size) = some 16 := by kernel_rfl
theorem undDl : Tryz.prog.underlying 54 = some (.struct (Tryz.prog.fieldsOf 54)) := by kernel_rfl
theorem infDl : (Tryz.prog.info? 54).map (·.size) = some 20 := by kernel_rfl
theorem oneTx (h : TxH) : (encTx h).toArray.all (·.oneCell') = true := by simp [encTx, Value.oneCell']
end Go.Proofs.YtbpmmmnphpkdjaaGreatDoor
namespace Go.Proofs.YtbpmmmnphpkdjaaGreatDoor
open Go.RowKit Go.MapKept
theorem store_new1 {P : Program} (w0 : World) (t : TypeId) (old v : Value) (hv : v.oneCell' = true) {g : Nat} (hg : w0.heap.size = g) (m : Mode) : (store ⟨g, 0, none⟩ v m).run P (w0.alloc (.cells #[old] t)) = .ok () (w0.alloc (.cells #[v] t)) := by
  subst hg
  rw [run_store P _ _ _ _ hv]
  have h1 : (w0.alloc (.cells #[old] t)).cell? ⟨w0.heap.size, 0, none⟩ = some old := by simp
  have h2 : (w0.alloc (.cells #[old] t)).frozen? ⟨w0.heap.size, 0, none⟩ = false := by simp
  rw [h1]
  simp only [h2]
  have h3 : (w0.alloc (.cells #[old] t)).setCell ⟨w0.heap.size, 0, none⟩ v = w0.alloc (.cells #[v] t) := by
    rw [setCell_eq_setRow _ _ 0 #[old] t (0, 0) v (heap_alloc_last w0 _), World.setRow_alloc_new]; rfl
  rw [h3]
  rfl
end Go.Proofs.YtbpmmmnphpkdjaaGreatDoor
