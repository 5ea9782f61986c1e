/- Whole structs out of variables and into them, however many cells they have. No condition. The walks of delta.part, known, kept. No condition. -/
import Derived.Test.YthpjneobmmpbnaaGreatDoorGTxnP
import Derived.Laws.Rows
import Derived.Laws.Tables
import Derived.Deep.WholeRow
import Derived.Deep.MidRow
import Derived.Laws.CopyOwn
import Derived.WalkKit
import Derived.Deep.Light
import Derived.Deep.Cut
import Derived.Deep.CutBlock
namespace Go.Proofs.YthpjneobmmpbnaaGreatDoor
open Go.RowKit Go.MapKept
section
variable {P : Program} {o : Oper} {a : Act} {w w0 : World} {K : Act → World → Prop} {Q : Exit → Act → World → Prop}
/-- into the variable that was made last -/
theorem wp_storeTop (ty t : TypeId) {x y : Operand} {old cells : Array Value} {g : Nat} (ho : o.op = .store ty x y) (hx : a.eval x = .pointer (some ⟨g, 0, none⟩)) (hg : w0.heap.size = g) (hy : a.eval y = .agg cells)
    (hi : (P.info? ty).map (·.size) = some cells.size) (hold : old.size = cells.size) (h1 : cells.all (·.oneCell') = true) (h : K (a.put o.dst undef) (w0.alloc (.cells cells t))) : o.wp P a (w0.alloc (.cells old t)) K Q := by
  subst hg
  refine wp_store_row ty x y ho w0.heap.size cells hx hy t old (heap_alloc_last w0 _) hi hold h1 ?_
  rw [World.setRow_alloc_new]
  exact h
/-- into a variable -/
theorem wp_storeRow (ty t : TypeId) {x y : Operand} {old cells : Array Value} {g : Nat} (ho : o.op = .store ty x y) (hx : a.eval x = .pointer (some ⟨g, 0, none⟩)) (hy : a.eval y = .agg cells) (hg : w.heap[g]? = some (.cells old t (0, 0)))
    (hi : (P.info? ty).map (·.size) = some cells.size) (hold : old.size = cells.size) (h1 : cells.all (·.oneCell') = true) (h : K (a.put o.dst undef) (w.setRow g cells)) : o.wp P a w K Q :=
  wp_store_row ty x y ho g cells hx hy t old hg hi hold h1 h
/-- a whole struct out of a variable -/
theorem wp_loadRow (ty t : TypeId) {x : Operand} {g : Nat} {cs : Array Value} {d : TypeDesc} (ho : o.op = .load ty x) (hx : a.eval x = .pointer (some ⟨g, 0, none⟩)) (hg : w.heap[g]? = some (.cells cs t (0, 0)))
    (hu : P.underlying ty = some d) (hd : d.isRow = true) (hi : (P.info? ty).map (·.size) = some cs.size) (h : K (a.put o.dst (.agg cs)) w) : o.wp P a w K Q := by
  refine wp_load_row ty x ho g hx t cs (0, 0) d hg hu ?_ hi h
  cases d <;> simp_all [TypeDesc.isRow]
variable {ops : Array Oper} {rest : List Oper}
theorem wpList_storeTop (ty t : TypeId) {x y : Operand} {old cells : Array Value} {g : Nat} (hgd : o.guard = none) (ho : o.op = .store ty x y) (hx : a.eval x = .pointer (some ⟨g, 0, none⟩)) (hg : w0.heap.size = g) (hy : a.eval y = .agg cells)
    (hi : (P.info? ty).map (·.size) = some cells.size) (hold : old.size = cells.size) (h1 : cells.all (·.oneCell') = true) (h : wpList P ops Q rest (a.put o.dst undef) (w0.alloc (.cells cells t))) : wpList P ops Q (o :: rest) a (w0.alloc (.cells old t)) :=
  wpList_plain hgd fun _ hK => wp_storeTop ty t ho hx hg hy hi hold h1 (hK _ _ h)
theorem wpList_storeRow (ty t : TypeId) {x y : Operand} {old cells : Array Value} {g : Nat} (hgd : o.guard = none) (ho : o.op = .store ty x y) (hx : a.eval x = .pointer (some ⟨g, 0, none⟩)) (hy : a.eval y = .agg cells) (hg : w.heap[g]? = some (.cells old t (0, 0)))
    (hi : (P.info? ty).map (·.size) = some cells.size) (hold : old.size = cells.size) (h1 : cells.all (·.oneCell') = true) (h : wpList P ops Q rest (a.put o.dst undef) (w.setRow g cells)) : wpList P ops Q (o :: rest) a w :=
  wpList_plain hgd fun _ hK => wp_storeRow ty t ho hx hy hg hi hold h1 (hK _ _ h)
theorem wpList_loadRow (ty t : TypeId) {x : Operand} {g : Nat} {cs : Array Value} {d : TypeDesc} (hgd : o.guard = none) (ho : o.op = .load ty x) (hx : a.eval x = .pointer (some ⟨g, 0, none⟩)) (hg : w.heap[g]? = some (.cells cs t (0, 0)))
    (hu : P.underlying ty = some d) (hd : d.isRow = true) (hi : (P.info? ty).map (·.size) = some cs.size) (h : wpList P ops Q rest (a.put o.dst (.agg cs)) w) : wpList P ops Q (o :: rest) a w :=
  wpList_plain hgd fun _ hK => wp_loadRow ty t ho hx hg hu hd hi (hK _ _ h)
/-- a whole struct out of the middle of a block -/
theorem wpList_loadMid (ty : TypeId) {x : Operand} {b q : Nat} {cs : List Value} {d : TypeDesc} (hgd : o.guard = none) (ho : o.op = .load ty x) (hx : a.eval x = .pointer (some ⟨b, q, none⟩)) (hc : w.rangeAt b q cs)
    (hu : P.underlying ty = some d) (hd : d.isRow = true) (hi : (P.info? ty).map (·.size) = some cs.length) (h : wpList P ops Q rest (a.put o.dst (.agg cs.toArray)) w) : wpList P ops Q (o :: rest) a w :=
  wpList_load_mid hgd ty x ho b q hx cs d hc hu hd hi h
theorem wpList_storeMid (ty : TypeId) {x y : Operand} {b q : Nat} {cells : Array Value} (hgd : o.guard = none) (ho : o.op = .store ty x y) (hx : a.eval x = .pointer (some ⟨b, q, none⟩)) (hy : a.eval y = .agg cells) (ht : w.there b q cells.size)
    (hi : (P.info? ty).map (·.size) = some cells.size) (h1 : cells.all (·.oneCell') = true) (h : wpList P ops Q rest (a.put o.dst undef) (w.setCells b q cells.toList)) : wpList P ops Q (o :: rest) a w :=
  wpList_store_mid hgd ty x y ho b q cells hx hy ht hi h1 h
end
theorem results_cellK {fn : Func} {p : Tmp} {ty : TypeId} (h : fn.results = #[.cell p ty]) (tmps : Array Value) (P : Program) (w : World) :
    (results fn tmps).run P w = ((asAddr (tmps.getD p undef)).run P w).andThen fun a w₁ => (loadVar ty a).run P w₁ := by
  simp only [results, h]
  simp [Sem.run_bind]
theorem res_cell {P : Program} {w : World} {x : Value} {g : Nat} {ty t : TypeId} {cs : Array Value} {d : TypeDesc} (hx : x = .pointer (some ⟨g, 0, none⟩)) (hg : w.heap[g]? = some (.cells cs t (0, 0))) (hu : P.underlying ty = some d) (hd : d.isRow = true)
    (hi : (P.info? ty).map (·.size) = some cs.size) : (((asAddr x).run P w).andThen fun a w₁ => (loadVar ty a).run P w₁) = .ok (.agg cs) w := by
  subst hx
  show (loadVar ty ⟨g, 0, none⟩).run P w = _
  refine run_loadVar_row w g t ty cs (0, 0) d hg hu ?_ hi
  cases d <;> simp_all [TypeDesc.isRow]
/-- a function's end whose result is a struct in a variable -/
theorem bodyPost_cell {P : Program} {fn : Func} {Q : Ending → World → Prop} {a : Act} {w : World} {p : Tmp} {ty t : TypeId} {g : Nat} {cs : Array Value} {d : TypeDesc} (h : fn.results = #[.cell p ty]) (hx : a.tmps.getD p undef = .pointer (some ⟨g, 0, none⟩))
    (hg : w.heap[g]? = some (.cells cs t (0, 0))) (hu : P.underlying ty = some d) (hd : d.isRow = true) (hi : (P.info? ty).map (·.size) = some cs.size) (hdf : a.defers = []) (hq : Q (.returned (.agg cs)) w) : bodyPost P fn Q .ret a w :=
  bodyPost_ret ((results_cellK h _ _ _).trans (res_cell hx hg hu hd hi)) hdf hq
theorem heap_under {w : World} {o : Obj} {g : Nat} {x : Obj} (h : w.heap[g]? = some x) : (w.alloc o).heap[g]? = some x := by
  rw [Below.heap_alloc _ _ g (Array.getElem?_eq_some_iff.1 h).1]; exact h
theorem heap_top' {w : World} {o : Obj} {g : Nat} (h : w.heap.size = g) : (w.alloc o).heap[g]? = some o := by subst h; exact heap_alloc_last w o
theorem sz1 (w : World) (a : Obj) : (w.alloc a).heap.size = w.heap.size + 1 := by simp
theorem sz2 (w : World) (a b : Obj) : ((w.alloc a).alloc b).heap.size = w.heap.size + 1 + 1 := by simp
theorem sz3 (w : World) (a b c : Obj) : (((w.alloc a).alloc b).alloc c).heap.size = w.heap.size + 1 + 1 + 1 := by simp
theorem heap_s0 (w : World) (a : Obj) : (w.alloc a).heap[w.heap.size]? = some a := heap_alloc_last w a
theorem heap_s1 (w : World) (a b : Obj) : ((w.alloc a).alloc b).heap[w.heap.size + 1]? = some b := heap_top' (sz1 w a)
theorem heap_s2 (w : World) (a b c : Obj) : (((w.alloc a).alloc b).alloc c).heap[w.heap.size + 1 + 1]? = some c := heap_top' (sz2 w a b)
theorem heap_s3 (w : World) (a b c d : Obj) : ((((w.alloc a).alloc b).alloc c).alloc d).heap[w.heap.size + 1 + 1 + 1]? = some d := heap_top' (sz3 w a b c)
theorem undTx : Tryz.prog.underlying 33 = some (.struct (Tryz.prog.fieldsOf 33)) := by kernel_rfl
theorem infTx : (Tryz.prog.info? 33).map (·.size) = some 16 := by kernel_rfl
theorem undDl : Tryz.prog.underlying 35 = some (.struct (Tryz.prog.fieldsOf 35)) := by kernel_rfl
theorem infDl : (Tryz.prog.info? 35).map (·.size) = some 20 := by kernel_rfl
theorem oneTx (h : TxH) : (encTx h).toArray.all (·.oneCell') = true := by simp [encTx, Value.oneCell']
end Go.Proofs.YthpjneobmmpbnaaGreatDoor
namespace Go.Proofs.YthpjneobmmpbnaaGreatDoor
open Go.RowKit Go.MapKept
def partB (t : Int) : Bool := decide (t = 1 ∨ t = 2 ∨ t = 5 ∨ t = 7 ∨ t = 13 ∨ t = 120 ∨ t = 121)
def knownB (t : Int) : Bool := partB t || decide (t = 14 ∨ t = -10 ∨ t = -11 ∨ t = -1)
def RetBw (w : World) (b : Bool) (e : Ending) (w' : World) : Prop := e = .returned (.bool b) ∧ w' = w
theorem RetBw.mk {w : World} {a b : Bool} (e : b = a) : RetBw w a (.returned (.bool b)) w := ⟨by rw [e], rfl⟩
theorem part_any (t : Int) (w : World) : Calls Tryz.prog 52 #[.int .i32 t] w (RetBw w (partB t)) := by
  by_cases h : t = 1 ∨ t = 2 ∨ t = 5 ∨ t = 7 ∨ t = 13 ∨ t = 120 ∨ t = 121
  · rcases h with rfl | rfl | rfl | rfl | rfl | rfl | rfl
    all_goals
      go_enter Tryz.func52, Tryz.ntmps52
      go_wp2_with fail
      go_ret
      exact RetBw.mk rfl
  · have H := Lib.hid (show partB t = false from decide_eq_false h)
    have h1 : (t == 1) = false := beq_eq_false_iff_ne.2 fun e => h (by simp [e])
    have h2 : (t == 2) = false := beq_eq_false_iff_ne.2 fun e => h (by simp [e])
    have h3 : (t == 5) = false := beq_eq_false_iff_ne.2 fun e => h (by simp [e])
    have h4 : (t == 7) = false := beq_eq_false_iff_ne.2 fun e => h (by simp [e])
    have h5 : (t == 13) = false := beq_eq_false_iff_ne.2 fun e => h (by simp [e])
    have h6 : (t == 120) = false := beq_eq_false_iff_ne.2 fun e => h (by simp [e])
    have h7 : (t == 121) = false := beq_eq_false_iff_ne.2 fun e => h (by simp [e])
    clear h
    go_enter Tryz.func52, Tryz.ntmps52
    go_wp2_with fail
    go_ret
    exact RetBw.mk H.out.symm
theorem known_any (t : Int) (w : World) : Calls Tryz.prog 50 #[.int .i32 t] w (RetBw w (knownB t)) := by
  have hp := part_any t w
  cases hb : partB t with
  | true =>
    have H := Lib.hid (show knownB t = true by unfold knownB; rw [hb]; rfl)
    rw [hb] at hp
    clear hb
    go_enter Tryz.func50, Tryz.ntmps50
    go_wp2_with (go_at_call 52; refine hp.mono ?_; rintro e w' ⟨rfl, rfl⟩)
    go_ret
    exact RetBw.mk H.out.symm
  | false =>
    rw [hb] at hp
    by_cases h : t = 14 ∨ t = -10 ∨ t = -11 ∨ t = -1
    · have H := Lib.hid (show knownB t = true by unfold knownB; rw [hb, decide_eq_true h]; rfl)
      clear hb
      rcases h with rfl | rfl | rfl | rfl
      all_goals
        go_enter Tryz.func50, Tryz.ntmps50
        go_wp2_with (go_at_call 52; refine hp.mono ?_; rintro e w' ⟨rfl, rfl⟩)
        go_ret
        exact RetBw.mk H.out.symm
    · have H := Lib.hid (show knownB t = false by unfold knownB; rw [hb, decide_eq_false h]; rfl)
      have h1 : (t == 14) = false := beq_eq_false_iff_ne.2 fun e => h (by simp [e])
      have h2 : (t == -10) = false := beq_eq_false_iff_ne.2 fun e => h (by simp [e])
      have h3 : (t == -11) = false := beq_eq_false_iff_ne.2 fun e => h (by simp [e])
      have h4 : (t == -1) = false := beq_eq_false_iff_ne.2 fun e => h (by simp [e])
      clear h hb
      go_enter Tryz.func50, Tryz.ntmps50
      go_wp2_with (go_at_call 52; refine hp.mono ?_; rintro e w' ⟨rfl, rfl⟩)
      go_ret
      exact RetBw.mk H.out.symm
def nilS : SlC := (none, 0, 0)
/-- a transaction with those of its fields that its type has -/
def keptH (h : TxH) : TxH :=
  ⟨⟨h.n.ty, if h.n.ty = 14 ∨ h.n.ty = -10 ∨ h.n.ty = -11 ∨ h.n.ty = -1 then ⟨#[]⟩ else h.n.path, if h.n.ty = 1 then h.n.ow else 0, if h.n.ty = 5 ∨ h.n.ty = 7 ∨ h.n.ty = 13 then h.n.ve else 0, if h.n.ty = 1 then h.n.cr else 0,
    if h.n.ty = 120 then h.n.qh else false, if h.n.ty = 120 then h.n.qc else 0, if h.n.ty = 120 then h.n.qb else 0, if h.n.ty = -10 then h.n.si else 0, if h.n.ty = -10 then h.n.st else 0, if h.n.ty = -1 then h.n.co else 0⟩,
    if h.n.ty = 1 ∨ h.n.ty = 5 then h.d else nilS, if h.n.ty = 1 ∨ h.n.ty = 7 then h.a else nilS, if h.n.ty = -10 then h.i else nilS, if h.n.ty = -11 then h.p else nilS, if h.n.ty = 14 then h.s else nilS⟩
def KeptP (h : TxH) (w : World) (e : Ending) (w' : World) : Prop := e = .returned (txV (keptH h)) ∧ Below w.heap.size w w'
theorem KeptP.mk {h h' : TxH} {w w' : World} (e : keptH h = h') (hb : Below w.heap.size w w') : KeptP h w (.returned (txV h')) w' := ⟨by rw [e], hb⟩
theorem three_below (w : World) (a b c : Obj) : Below w.heap.size w (((w.alloc a).alloc b).alloc c) := (((Below.refl _ w).alloc (Nat.le_refl _) _).alloc (by simp) _).alloc (by simp; omega) _
set_option maxRecDepth 100000 in
theorem kept_14 (h : TxH) (w : World) (ht : h.n.ty = 14) : Calls Tryz.prog 161 #[txV h] w (KeptP h w) := by
  have e0 : (h.n.ty == 14) = true := by rw [ht]; rfl
  have e1 : (h.n.ty == -10) = false := by rw [ht]; rfl
  have e2 : (h.n.ty == -11) = false := by rw [ht]; rfl
  have e3 : (h.n.ty == -1) = false := by rw [ht]; rfl
  have e4 : (h.n.ty == 1) = false := by rw [ht]; rfl
  have e5 : (h.n.ty == 5) = false := by rw [ht]; rfl
  have e6 : (h.n.ty == 7) = false := by rw [ht]; rfl
  have e7 : (h.n.ty == 13) = false := by rw [ht]; rfl
  have e8 : (h.n.ty == 120) = false := by rw [ht]; rfl
  have HK := Lib.hid (show keptH h = ⟨⟨h.n.ty, ⟨#[]⟩, 0, 0, 0, false, 0, 0, 0, 0, 0⟩, nilS, nilS, nilS, nilS, h.s⟩ by simp [keptH, ht])
  clear ht
  unfold txV
  go_enter Tryz.func161, Tryz.ntmps161
  go_wp2_with (first
    | (apply wpList_storeTop 33 33; exact rfl; exact rfl; exact rfl; (first | (with_reducible rfl) | (exact sz1 _ _) | (exact sz2 _ _ _) | (exact sz3 _ _ _ _)); exact rfl; exact infTx; exact rfl; simp [Value.oneCell'])
    | (apply wpList_loadRow 33 33; exact rfl; exact rfl; exact rfl; (first | assumption | (exact heap_s0 _ _) | (exact heap_s1 _ _ _) | (exact heap_s2 _ _ _ _) | (exact heap_s3 _ _ _ _ _) | (exact heap_under (heap_s0 _ _)) | (exact heap_under (heap_s1 _ _ _)) | (exact heap_under (heap_s2 _ _ _ _)) | (exact heap_under (heap_under (heap_s0 _ _))) | (exact heap_under (heap_under (heap_s1 _ _ _))) | (exact heap_under (heap_under (heap_under (heap_s0 _ _))))); exact undTx; exact rfl; exact infTx)
    | (apply wpList_storeRow 33 33; exact rfl; exact rfl; exact rfl; exact rfl; (first | assumption | (exact heap_s0 _ _) | (exact heap_s1 _ _ _) | (exact heap_s2 _ _ _ _) | (exact heap_s3 _ _ _ _ _) | (exact heap_under (heap_s0 _ _)) | (exact heap_under (heap_s1 _ _ _)) | (exact heap_under (heap_s2 _ _ _ _)) | (exact heap_under (heap_under (heap_s0 _ _))) | (exact heap_under (heap_under (heap_s1 _ _ _))) | (exact heap_under (heap_under (heap_under (heap_s0 _ _))))); exact infTx; exact rfl; simp [Value.oneCell'])
    | fail)
  all_goals
    (try simp only [Exit.inBlock, Exit.then])
    exact bodyPost_cell rfl rfl (setRow_heap _ _ _ _ _ _ (by first | assumption | (exact heap_under (heap_s1 _ _ _)))) undTx rfl infTx rfl (KeptP.mk HK.out (below_setRow (three_below w _ _ _) (by omega) _))
set_option maxRecDepth 100000 in
theorem kept_m10 (h : TxH) (w : World) (ht : h.n.ty = -10) : Calls Tryz.prog 161 #[txV h] w (KeptP h w) := by
  have e0 : (h.n.ty == 14) = false := by rw [ht]; rfl
  have e1 : (h.n.ty == -10) = true := by rw [ht]; rfl
  have e2 : (h.n.ty == -11) = false := by rw [ht]; rfl
  have e3 : (h.n.ty == -1) = false := by rw [ht]; rfl
  have e4 : (h.n.ty == 1) = false := by rw [ht]; rfl
  have e5 : (h.n.ty == 5) = false := by rw [ht]; rfl
  have e6 : (h.n.ty == 7) = false := by rw [ht]; rfl
  have e7 : (h.n.ty == 13) = false := by rw [ht]; rfl
  have e8 : (h.n.ty == 120) = false := by rw [ht]; rfl
  have HK := Lib.hid (show keptH h = ⟨⟨h.n.ty, ⟨#[]⟩, 0, 0, 0, false, 0, 0, h.n.si, h.n.st, 0⟩, nilS, nilS, h.i, nilS, nilS⟩ by simp [keptH, ht])
  clear ht
  unfold txV
  go_enter Tryz.func161, Tryz.ntmps161
  go_wp2_with (first
    | (apply wpList_storeTop 33 33; exact rfl; exact rfl; exact rfl; (first | (with_reducible rfl) | (exact sz1 _ _) | (exact sz2 _ _ _) | (exact sz3 _ _ _ _)); exact rfl; exact infTx; exact rfl; simp [Value.oneCell'])
    | (apply wpList_loadRow 33 33; exact rfl; exact rfl; exact rfl; (first | assumption | (exact heap_s0 _ _) | (exact heap_s1 _ _ _) | (exact heap_s2 _ _ _ _) | (exact heap_s3 _ _ _ _ _) | (exact heap_under (heap_s0 _ _)) | (exact heap_under (heap_s1 _ _ _)) | (exact heap_under (heap_s2 _ _ _ _)) | (exact heap_under (heap_under (heap_s0 _ _))) | (exact heap_under (heap_under (heap_s1 _ _ _))) | (exact heap_under (heap_under (heap_under (heap_s0 _ _))))); exact undTx; exact rfl; exact infTx)
    | (apply wpList_storeRow 33 33; exact rfl; exact rfl; exact rfl; exact rfl; (first | assumption | (exact heap_s0 _ _) | (exact heap_s1 _ _ _) | (exact heap_s2 _ _ _ _) | (exact heap_s3 _ _ _ _ _) | (exact heap_under (heap_s0 _ _)) | (exact heap_under (heap_s1 _ _ _)) | (exact heap_under (heap_s2 _ _ _ _)) | (exact heap_under (heap_under (heap_s0 _ _))) | (exact heap_under (heap_under (heap_s1 _ _ _))) | (exact heap_under (heap_under (heap_under (heap_s0 _ _))))); exact infTx; exact rfl; simp [Value.oneCell'])
    | fail)
  all_goals
    (try simp only [Exit.inBlock, Exit.then])
    exact bodyPost_cell rfl rfl (setRow_heap _ _ _ _ _ _ (by first | assumption | (exact heap_under (heap_s1 _ _ _)))) undTx rfl infTx rfl (KeptP.mk HK.out (below_setRow (three_below w _ _ _) (by omega) _))
set_option maxRecDepth 100000 in
theorem kept_m11 (h : TxH) (w : World) (ht : h.n.ty = -11) : Calls Tryz.prog 161 #[txV h] w (KeptP h w) := by
  have e0 : (h.n.ty == 14) = false := by rw [ht]; rfl
  have e1 : (h.n.ty == -10) = false := by rw [ht]; rfl
  have e2 : (h.n.ty == -11) = true := by rw [ht]; rfl
  have e3 : (h.n.ty == -1) = false := by rw [ht]; rfl
  have e4 : (h.n.ty == 1) = false := by rw [ht]; rfl
  have e5 : (h.n.ty == 5) = false := by rw [ht]; rfl
  have e6 : (h.n.ty == 7) = false := by rw [ht]; rfl
  have e7 : (h.n.ty == 13) = false := by rw [ht]; rfl
  have e8 : (h.n.ty == 120) = false := by rw [ht]; rfl
  have HK := Lib.hid (show keptH h = ⟨⟨h.n.ty, ⟨#[]⟩, 0, 0, 0, false, 0, 0, 0, 0, 0⟩, nilS, nilS, nilS, h.p, nilS⟩ by simp [keptH, ht])
  clear ht
  unfold txV
  go_enter Tryz.func161, Tryz.ntmps161
  go_wp2_with (first
    | (apply wpList_storeTop 33 33; exact rfl; exact rfl; exact rfl; (first | (with_reducible rfl) | (exact sz1 _ _) | (exact sz2 _ _ _) | (exact sz3 _ _ _ _)); exact rfl; exact infTx; exact rfl; simp [Value.oneCell'])
    | (apply wpList_loadRow 33 33; exact rfl; exact rfl; exact rfl; (first | assumption | (exact heap_s0 _ _) | (exact heap_s1 _ _ _) | (exact heap_s2 _ _ _ _) | (exact heap_s3 _ _ _ _ _) | (exact heap_under (heap_s0 _ _)) | (exact heap_under (heap_s1 _ _ _)) | (exact heap_under (heap_s2 _ _ _ _)) | (exact heap_under (heap_under (heap_s0 _ _))) | (exact heap_under (heap_under (heap_s1 _ _ _))) | (exact heap_under (heap_under (heap_under (heap_s0 _ _))))); exact undTx; exact rfl; exact infTx)
    | (apply wpList_storeRow 33 33; exact rfl; exact rfl; exact rfl; exact rfl; (first | assumption | (exact heap_s0 _ _) | (exact heap_s1 _ _ _) | (exact heap_s2 _ _ _ _) | (exact heap_s3 _ _ _ _ _) | (exact heap_under (heap_s0 _ _)) | (exact heap_under (heap_s1 _ _ _)) | (exact heap_under (heap_s2 _ _ _ _)) | (exact heap_under (heap_under (heap_s0 _ _))) | (exact heap_under (heap_under (heap_s1 _ _ _))) | (exact heap_under (heap_under (heap_under (heap_s0 _ _))))); exact infTx; exact rfl; simp [Value.oneCell'])
    | fail)
  all_goals
    (try simp only [Exit.inBlock, Exit.then])
    exact bodyPost_cell rfl rfl (setRow_heap _ _ _ _ _ _ (by first | assumption | (exact heap_under (heap_s1 _ _ _)))) undTx rfl infTx rfl (KeptP.mk HK.out (below_setRow (three_below w _ _ _) (by omega) _))
set_option maxRecDepth 100000 in
theorem kept_m1 (h : TxH) (w : World) (ht : h.n.ty = -1) : Calls Tryz.prog 161 #[txV h] w (KeptP h w) := by
  have e0 : (h.n.ty == 14) = false := by rw [ht]; rfl
  have e1 : (h.n.ty == -10) = false := by rw [ht]; rfl
  have e2 : (h.n.ty == -11) = false := by rw [ht]; rfl
  have e3 : (h.n.ty == -1) = true := by rw [ht]; rfl
  have e4 : (h.n.ty == 1) = false := by rw [ht]; rfl
  have e5 : (h.n.ty == 5) = false := by rw [ht]; rfl
  have e6 : (h.n.ty == 7) = false := by rw [ht]; rfl
  have e7 : (h.n.ty == 13) = false := by rw [ht]; rfl
  have e8 : (h.n.ty == 120) = false := by rw [ht]; rfl
  have HK := Lib.hid (show keptH h = ⟨⟨h.n.ty, ⟨#[]⟩, 0, 0, 0, false, 0, 0, 0, 0, h.n.co⟩, nilS, nilS, nilS, nilS, nilS⟩ by simp [keptH, ht])
  clear ht
  unfold txV
  go_enter Tryz.func161, Tryz.ntmps161
  go_wp2_with (first
    | (apply wpList_storeTop 33 33; exact rfl; exact rfl; exact rfl; (first | (with_reducible rfl) | (exact sz1 _ _) | (exact sz2 _ _ _) | (exact sz3 _ _ _ _)); exact rfl; exact infTx; exact rfl; simp [Value.oneCell'])
    | (apply wpList_loadRow 33 33; exact rfl; exact rfl; exact rfl; (first | assumption | (exact heap_s0 _ _) | (exact heap_s1 _ _ _) | (exact heap_s2 _ _ _ _) | (exact heap_s3 _ _ _ _ _) | (exact heap_under (heap_s0 _ _)) | (exact heap_under (heap_s1 _ _ _)) | (exact heap_under (heap_s2 _ _ _ _)) | (exact heap_under (heap_under (heap_s0 _ _))) | (exact heap_under (heap_under (heap_s1 _ _ _))) | (exact heap_under (heap_under (heap_under (heap_s0 _ _))))); exact undTx; exact rfl; exact infTx)
    | (apply wpList_storeRow 33 33; exact rfl; exact rfl; exact rfl; exact rfl; (first | assumption | (exact heap_s0 _ _) | (exact heap_s1 _ _ _) | (exact heap_s2 _ _ _ _) | (exact heap_s3 _ _ _ _ _) | (exact heap_under (heap_s0 _ _)) | (exact heap_under (heap_s1 _ _ _)) | (exact heap_under (heap_s2 _ _ _ _)) | (exact heap_under (heap_under (heap_s0 _ _))) | (exact heap_under (heap_under (heap_s1 _ _ _))) | (exact heap_under (heap_under (heap_under (heap_s0 _ _))))); exact infTx; exact rfl; simp [Value.oneCell'])
    | fail)
  all_goals
    (try simp only [Exit.inBlock, Exit.then])
    exact bodyPost_cell rfl rfl (setRow_heap _ _ _ _ _ _ (by first | assumption | (exact heap_under (heap_s1 _ _ _)))) undTx rfl infTx rfl (KeptP.mk HK.out (below_setRow (three_below w _ _ _) (by omega) _))
set_option maxRecDepth 100000 in
set_option maxHeartbeats 4000000 in
theorem kept_1 (h : TxH) (w : World) (ht : h.n.ty = 1) : Calls Tryz.prog 161 #[txV h] w (KeptP h w) := by
  have e0 : (h.n.ty == 14) = false := by rw [ht]; rfl
  have e1 : (h.n.ty == -10) = false := by rw [ht]; rfl
  have e2 : (h.n.ty == -11) = false := by rw [ht]; rfl
  have e3 : (h.n.ty == -1) = false := by rw [ht]; rfl
  have e4 : (h.n.ty == 1) = true := by rw [ht]; rfl
  have e5 : (h.n.ty == 5) = false := by rw [ht]; rfl
  have e6 : (h.n.ty == 7) = false := by rw [ht]; rfl
  have e7 : (h.n.ty == 13) = false := by rw [ht]; rfl
  have e8 : (h.n.ty == 120) = false := by rw [ht]; rfl
  have HK := Lib.hid (show keptH h = ⟨⟨h.n.ty, h.n.path, h.n.ow, 0, h.n.cr, false, 0, 0, 0, 0, 0⟩, h.d, h.a, nilS, nilS, nilS⟩ by simp [keptH, ht])
  clear ht
  unfold txV
  go_enter Tryz.func161, Tryz.ntmps161
  go_upto_block 1 with (first | (apply wpList_storeTop 33 33; exact rfl; exact rfl; exact rfl; (first | (with_reducible rfl) | (exact sz1 _ _) | (exact sz2 _ _ _) | (exact sz3 _ _ _ _)); exact rfl; exact infTx; exact rfl; simp [Value.oneCell']) | fail)
  go_cut [38] from 39 to 77 (fun _ wx => ∃ q, wx = (((w.alloc (.cells #[.int .i32 h.n.ty, .string h.n.path, slV h.d, slV h.a, .int .i64 h.n.ow, .int .i32 h.n.ve, .int .i32 h.n.cr, .bool h.n.qh, .int .i64 h.n.qc, .int .i64 h.n.qb, .int .i64 h.n.si, .int .i32 h.n.st, slV h.i, slV h.p, .int .i32 h.n.co, slV h.s] 33)).alloc (.cells #[.int .i32 0, .string ⟨#[]⟩, .slice none 0 0, .slice none 0 0, .int .i64 0, .int .i32 0, .int .i32 0, .bool false, .int .i64 0, .int .i64 0, .int .i64 0, .int .i32 0, .slice none 0 0, .slice none 0 0, .int .i32 0, .slice none 0 0] 33)).alloc (.cells #[.int .i32 h.n.ty, .string h.n.path, .slice h.d.1 h.d.2.1 h.d.2.2, .slice h.a.1 h.a.2.1 h.a.2.2, .int .i64 h.n.ow, .int .i32 0, .int .i32 h.n.cr, .bool false, .int .i64 0, .int .i64 0, .int .i64 0, .int .i32 0, .slice none 0 0, .slice none 0 0, .int .i32 0, .slice none 0 0] 33)).drewN q)
  case first =>
    go_wp2_with fail
    go_region
    all_goals go_wp2_with fail
    all_goals go_meet
    all_goals exact ⟨_, rfl⟩
  case rest =>
  obtain ⟨q, rfl⟩ := hcut
  have g1 : ((((w.alloc (.cells #[.int .i32 h.n.ty, .string h.n.path, slV h.d, slV h.a, .int .i64 h.n.ow, .int .i32 h.n.ve, .int .i32 h.n.cr, .bool h.n.qh, .int .i64 h.n.qc, .int .i64 h.n.qb, .int .i64 h.n.si, .int .i32 h.n.st, slV h.i, slV h.p, .int .i32 h.n.co, slV h.s] 33)).alloc (.cells #[.int .i32 0, .string ⟨#[]⟩, .slice none 0 0, .slice none 0 0, .int .i64 0, .int .i32 0, .int .i32 0, .bool false, .int .i64 0, .int .i64 0, .int .i64 0, .int .i32 0, .slice none 0 0, .slice none 0 0, .int .i32 0, .slice none 0 0] 33)).alloc (.cells #[.int .i32 h.n.ty, .string h.n.path, .slice h.d.1 h.d.2.1 h.d.2.2, .slice h.a.1 h.a.2.1 h.a.2.2, .int .i64 h.n.ow, .int .i32 0, .int .i32 h.n.cr, .bool false, .int .i64 0, .int .i64 0, .int .i64 0, .int .i32 0, .slice none 0 0, .slice none 0 0, .int .i32 0, .slice none 0 0] 33)).drewN q).heap[w.heap.size + 1]? = some (.cells #[.int .i32 0, .string ⟨#[]⟩, .slice none 0 0, .slice none 0 0, .int .i64 0, .int .i32 0, .int .i32 0, .bool false, .int .i64 0, .int .i64 0, .int .i64 0, .int .i32 0, .slice none 0 0, .slice none 0 0, .int .i32 0, .slice none 0 0] 33) := heap_under (heap_s1 w _ _)
  have g2 : ((((w.alloc (.cells #[.int .i32 h.n.ty, .string h.n.path, slV h.d, slV h.a, .int .i64 h.n.ow, .int .i32 h.n.ve, .int .i32 h.n.cr, .bool h.n.qh, .int .i64 h.n.qc, .int .i64 h.n.qb, .int .i64 h.n.si, .int .i32 h.n.st, slV h.i, slV h.p, .int .i32 h.n.co, slV h.s] 33)).alloc (.cells #[.int .i32 0, .string ⟨#[]⟩, .slice none 0 0, .slice none 0 0, .int .i64 0, .int .i32 0, .int .i32 0, .bool false, .int .i64 0, .int .i64 0, .int .i64 0, .int .i32 0, .slice none 0 0, .slice none 0 0, .int .i32 0, .slice none 0 0] 33)).alloc (.cells #[.int .i32 h.n.ty, .string h.n.path, .slice h.d.1 h.d.2.1 h.d.2.2, .slice h.a.1 h.a.2.1 h.a.2.2, .int .i64 h.n.ow, .int .i32 0, .int .i32 h.n.cr, .bool false, .int .i64 0, .int .i64 0, .int .i64 0, .int .i32 0, .slice none 0 0, .slice none 0 0, .int .i32 0, .slice none 0 0] 33)).drewN q).heap[w.heap.size + 1 + 1]? = some (.cells #[.int .i32 h.n.ty, .string h.n.path, .slice h.d.1 h.d.2.1 h.d.2.2, .slice h.a.1 h.a.2.1 h.a.2.2, .int .i64 h.n.ow, .int .i32 0, .int .i32 h.n.cr, .bool false, .int .i64 0, .int .i64 0, .int .i64 0, .int .i32 0, .slice none 0 0, .slice none 0 0, .int .i32 0, .slice none 0 0] 33) := heap_s2 w _ _ _
  have HB := Lib.hid (show Below w.heap.size w ((((w.alloc (.cells #[.int .i32 h.n.ty, .string h.n.path, slV h.d, slV h.a, .int .i64 h.n.ow, .int .i32 h.n.ve, .int .i32 h.n.cr, .bool h.n.qh, .int .i64 h.n.qc, .int .i64 h.n.qb, .int .i64 h.n.si, .int .i32 h.n.st, slV h.i, slV h.p, .int .i32 h.n.co, slV h.s] 33)).alloc (.cells #[.int .i32 0, .string ⟨#[]⟩, .slice none 0 0, .slice none 0 0, .int .i64 0, .int .i32 0, .int .i32 0, .bool false, .int .i64 0, .int .i64 0, .int .i64 0, .int .i32 0, .slice none 0 0, .slice none 0 0, .int .i32 0, .slice none 0 0] 33)).alloc (.cells #[.int .i32 h.n.ty, .string h.n.path, .slice h.d.1 h.d.2.1 h.d.2.2, .slice h.a.1 h.a.2.1 h.a.2.2, .int .i64 h.n.ow, .int .i32 0, .int .i32 h.n.cr, .bool false, .int .i64 0, .int .i64 0, .int .i64 0, .int .i32 0, .slice none 0 0, .slice none 0 0, .int .i32 0, .slice none 0 0] 33)).drewN q) from drewN_below (three_below w _ _ _) q)
  generalize (((w.alloc (.cells #[.int .i32 h.n.ty, .string h.n.path, slV h.d, slV h.a, .int .i64 h.n.ow, .int .i32 h.n.ve, .int .i32 h.n.cr, .bool h.n.qh, .int .i64 h.n.qc, .int .i64 h.n.qb, .int .i64 h.n.si, .int .i32 h.n.st, slV h.i, slV h.p, .int .i32 h.n.co, slV h.s] 33)).alloc (.cells #[.int .i32 0, .string ⟨#[]⟩, .slice none 0 0, .slice none 0 0, .int .i64 0, .int .i32 0, .int .i32 0, .bool false, .int .i64 0, .int .i64 0, .int .i64 0, .int .i32 0, .slice none 0 0, .slice none 0 0, .int .i32 0, .slice none 0 0] 33)).alloc (.cells #[.int .i32 h.n.ty, .string h.n.path, .slice h.d.1 h.d.2.1 h.d.2.2, .slice h.a.1 h.a.2.1 h.a.2.2, .int .i64 h.n.ow, .int .i32 0, .int .i32 h.n.cr, .bool false, .int .i64 0, .int .i64 0, .int .i64 0, .int .i32 0, .slice none 0 0, .slice none 0 0, .int .i32 0, .slice none 0 0] 33)).drewN q = V at *
  go_wp2_with (first
    | (apply wpList_storeTop 33 33; exact rfl; exact rfl; exact rfl; (first | (with_reducible rfl) | (exact sz1 _ _) | (exact sz2 _ _ _) | (exact sz3 _ _ _ _)); exact rfl; exact infTx; exact rfl; simp [Value.oneCell'])
    | (apply wpList_loadRow 33 33; exact rfl; exact rfl; exact rfl; (first | assumption | (exact heap_s0 _ _) | (exact heap_s1 _ _ _) | (exact heap_s2 _ _ _ _) | (exact heap_s3 _ _ _ _ _) | (exact heap_under (heap_s0 _ _)) | (exact heap_under (heap_s1 _ _ _)) | (exact heap_under (heap_s2 _ _ _ _)) | (exact heap_under (heap_under (heap_s0 _ _))) | (exact heap_under (heap_under (heap_s1 _ _ _))) | (exact heap_under (heap_under (heap_under (heap_s0 _ _))))); exact undTx; exact rfl; exact infTx)
    | (apply wpList_storeRow 33 33; exact rfl; exact rfl; exact rfl; exact rfl; (first | assumption | (exact heap_s0 _ _) | (exact heap_s1 _ _ _) | (exact heap_s2 _ _ _ _) | (exact heap_s3 _ _ _ _ _) | (exact heap_under (heap_s0 _ _)) | (exact heap_under (heap_s1 _ _ _)) | (exact heap_under (heap_s2 _ _ _ _)) | (exact heap_under (heap_under (heap_s0 _ _))) | (exact heap_under (heap_under (heap_s1 _ _ _))) | (exact heap_under (heap_under (heap_under (heap_s0 _ _))))); exact infTx; exact rfl; simp [Value.oneCell'])
    | fail)
  all_goals
    (try simp only [Exit.inBlock, Exit.then])
    exact bodyPost_cell rfl rfl (setRow_heap _ _ _ _ _ _ (by first | assumption | (exact heap_under (heap_s1 _ _ _)))) undTx rfl infTx rfl (KeptP.mk HK.out (below_setRow HB.out (by omega) _))
set_option maxRecDepth 100000 in
theorem kept_5 (h : TxH) (w : World) (ht : h.n.ty = 5) : Calls Tryz.prog 161 #[txV h] w (KeptP h w) := by
  have e0 : (h.n.ty == 14) = false := by rw [ht]; rfl
  have e1 : (h.n.ty == -10) = false := by rw [ht]; rfl
  have e2 : (h.n.ty == -11) = false := by rw [ht]; rfl
  have e3 : (h.n.ty == -1) = false := by rw [ht]; rfl
  have e4 : (h.n.ty == 1) = false := by rw [ht]; rfl
  have e5 : (h.n.ty == 5) = true := by rw [ht]; rfl
  have e6 : (h.n.ty == 7) = false := by rw [ht]; rfl
  have e7 : (h.n.ty == 13) = false := by rw [ht]; rfl
  have e8 : (h.n.ty == 120) = false := by rw [ht]; rfl
  have HK := Lib.hid (show keptH h = ⟨⟨h.n.ty, h.n.path, 0, h.n.ve, 0, false, 0, 0, 0, 0, 0⟩, h.d, nilS, nilS, nilS, nilS⟩ by simp [keptH, ht])
  clear ht
  unfold txV
  go_enter Tryz.func161, Tryz.ntmps161
  go_upto_block 1 with (first | (apply wpList_storeTop 33 33; exact rfl; exact rfl; exact rfl; (first | (with_reducible rfl) | (exact sz1 _ _) | (exact sz2 _ _ _) | (exact sz3 _ _ _ _)); exact rfl; exact infTx; exact rfl; simp [Value.oneCell']) | fail)
  go_cut [38] from 39 to 77 (fun _ wx => ∃ q, wx = (((w.alloc (.cells #[.int .i32 h.n.ty, .string h.n.path, slV h.d, slV h.a, .int .i64 h.n.ow, .int .i32 h.n.ve, .int .i32 h.n.cr, .bool h.n.qh, .int .i64 h.n.qc, .int .i64 h.n.qb, .int .i64 h.n.si, .int .i32 h.n.st, slV h.i, slV h.p, .int .i32 h.n.co, slV h.s] 33)).alloc (.cells #[.int .i32 0, .string ⟨#[]⟩, .slice none 0 0, .slice none 0 0, .int .i64 0, .int .i32 0, .int .i32 0, .bool false, .int .i64 0, .int .i64 0, .int .i64 0, .int .i32 0, .slice none 0 0, .slice none 0 0, .int .i32 0, .slice none 0 0] 33)).alloc (.cells #[.int .i32 h.n.ty, .string h.n.path, .slice h.d.1 h.d.2.1 h.d.2.2, .slice none 0 0, .int .i64 0, .int .i32 h.n.ve, .int .i32 0, .bool false, .int .i64 0, .int .i64 0, .int .i64 0, .int .i32 0, .slice none 0 0, .slice none 0 0, .int .i32 0, .slice none 0 0] 33)).drewN q)
  case first =>
    go_wp2_with fail
    go_region
    all_goals go_wp2_with fail
    all_goals go_meet
    all_goals exact ⟨_, rfl⟩
  case rest =>
  obtain ⟨q, rfl⟩ := hcut
  have g1 : ((((w.alloc (.cells #[.int .i32 h.n.ty, .string h.n.path, slV h.d, slV h.a, .int .i64 h.n.ow, .int .i32 h.n.ve, .int .i32 h.n.cr, .bool h.n.qh, .int .i64 h.n.qc, .int .i64 h.n.qb, .int .i64 h.n.si, .int .i32 h.n.st, slV h.i, slV h.p, .int .i32 h.n.co, slV h.s] 33)).alloc (.cells #[.int .i32 0, .string ⟨#[]⟩, .slice none 0 0, .slice none 0 0, .int .i64 0, .int .i32 0, .int .i32 0, .bool false, .int .i64 0, .int .i64 0, .int .i64 0, .int .i32 0, .slice none 0 0, .slice none 0 0, .int .i32 0, .slice none 0 0] 33)).alloc (.cells #[.int .i32 h.n.ty, .string h.n.path, .slice h.d.1 h.d.2.1 h.d.2.2, .slice none 0 0, .int .i64 0, .int .i32 h.n.ve, .int .i32 0, .bool false, .int .i64 0, .int .i64 0, .int .i64 0, .int .i32 0, .slice none 0 0, .slice none 0 0, .int .i32 0, .slice none 0 0] 33)).drewN q).heap[w.heap.size + 1]? = some (.cells #[.int .i32 0, .string ⟨#[]⟩, .slice none 0 0, .slice none 0 0, .int .i64 0, .int .i32 0, .int .i32 0, .bool false, .int .i64 0, .int .i64 0, .int .i64 0, .int .i32 0, .slice none 0 0, .slice none 0 0, .int .i32 0, .slice none 0 0] 33) := heap_under (heap_s1 w _ _)
  have g2 : ((((w.alloc (.cells #[.int .i32 h.n.ty, .string h.n.path, slV h.d, slV h.a, .int .i64 h.n.ow, .int .i32 h.n.ve, .int .i32 h.n.cr, .bool h.n.qh, .int .i64 h.n.qc, .int .i64 h.n.qb, .int .i64 h.n.si, .int .i32 h.n.st, slV h.i, slV h.p, .int .i32 h.n.co, slV h.s] 33)).alloc (.cells #[.int .i32 0, .string ⟨#[]⟩, .slice none 0 0, .slice none 0 0, .int .i64 0, .int .i32 0, .int .i32 0, .bool false, .int .i64 0, .int .i64 0, .int .i64 0, .int .i32 0, .slice none 0 0, .slice none 0 0, .int .i32 0, .slice none 0 0] 33)).alloc (.cells #[.int .i32 h.n.ty, .string h.n.path, .slice h.d.1 h.d.2.1 h.d.2.2, .slice none 0 0, .int .i64 0, .int .i32 h.n.ve, .int .i32 0, .bool false, .int .i64 0, .int .i64 0, .int .i64 0, .int .i32 0, .slice none 0 0, .slice none 0 0, .int .i32 0, .slice none 0 0] 33)).drewN q).heap[w.heap.size + 1 + 1]? = some (.cells #[.int .i32 h.n.ty, .string h.n.path, .slice h.d.1 h.d.2.1 h.d.2.2, .slice none 0 0, .int .i64 0, .int .i32 h.n.ve, .int .i32 0, .bool false, .int .i64 0, .int .i64 0, .int .i64 0, .int .i32 0, .slice none 0 0, .slice none 0 0, .int .i32 0, .slice none 0 0] 33) := heap_s2 w _ _ _
  have HB := Lib.hid (show Below w.heap.size w ((((w.alloc (.cells #[.int .i32 h.n.ty, .string h.n.path, slV h.d, slV h.a, .int .i64 h.n.ow, .int .i32 h.n.ve, .int .i32 h.n.cr, .bool h.n.qh, .int .i64 h.n.qc, .int .i64 h.n.qb, .int .i64 h.n.si, .int .i32 h.n.st, slV h.i, slV h.p, .int .i32 h.n.co, slV h.s] 33)).alloc (.cells #[.int .i32 0, .string ⟨#[]⟩, .slice none 0 0, .slice none 0 0, .int .i64 0, .int .i32 0, .int .i32 0, .bool false, .int .i64 0, .int .i64 0, .int .i64 0, .int .i32 0, .slice none 0 0, .slice none 0 0, .int .i32 0, .slice none 0 0] 33)).alloc (.cells #[.int .i32 h.n.ty, .string h.n.path, .slice h.d.1 h.d.2.1 h.d.2.2, .slice none 0 0, .int .i64 0, .int .i32 h.n.ve, .int .i32 0, .bool false, .int .i64 0, .int .i64 0, .int .i64 0, .int .i32 0, .slice none 0 0, .slice none 0 0, .int .i32 0, .slice none 0 0] 33)).drewN q) from drewN_below (three_below w _ _ _) q)
  generalize (((w.alloc (.cells #[.int .i32 h.n.ty, .string h.n.path, slV h.d, slV h.a, .int .i64 h.n.ow, .int .i32 h.n.ve, .int .i32 h.n.cr, .bool h.n.qh, .int .i64 h.n.qc, .int .i64 h.n.qb, .int .i64 h.n.si, .int .i32 h.n.st, slV h.i, slV h.p, .int .i32 h.n.co, slV h.s] 33)).alloc (.cells #[.int .i32 0, .string ⟨#[]⟩, .slice none 0 0, .slice none 0 0, .int .i64 0, .int .i32 0, .int .i32 0, .bool false, .int .i64 0, .int .i64 0, .int .i64 0, .int .i32 0, .slice none 0 0, .slice none 0 0, .int .i32 0, .slice none 0 0] 33)).alloc (.cells #[.int .i32 h.n.ty, .string h.n.path, .slice h.d.1 h.d.2.1 h.d.2.2, .slice none 0 0, .int .i64 0, .int .i32 h.n.ve, .int .i32 0, .bool false, .int .i64 0, .int .i64 0, .int .i64 0, .int .i32 0, .slice none 0 0, .slice none 0 0, .int .i32 0, .slice none 0 0] 33)).drewN q = V at *
  go_wp2_with (first
    | (apply wpList_storeTop 33 33; exact rfl; exact rfl; exact rfl; (first | (with_reducible rfl) | (exact sz1 _ _) | (exact sz2 _ _ _) | (exact sz3 _ _ _ _)); exact rfl; exact infTx; exact rfl; simp [Value.oneCell'])
    | (apply wpList_loadRow 33 33; exact rfl; exact rfl; exact rfl; (first | assumption | (exact heap_s0 _ _) | (exact heap_s1 _ _ _) | (exact heap_s2 _ _ _ _) | (exact heap_s3 _ _ _ _ _) | (exact heap_under (heap_s0 _ _)) | (exact heap_under (heap_s1 _ _ _)) | (exact heap_under (heap_s2 _ _ _ _)) | (exact heap_under (heap_under (heap_s0 _ _))) | (exact heap_under (heap_under (heap_s1 _ _ _))) | (exact heap_under (heap_under (heap_under (heap_s0 _ _))))); exact undTx; exact rfl; exact infTx)
    | (apply wpList_storeRow 33 33; exact rfl; exact rfl; exact rfl; exact rfl; (first | assumption | (exact heap_s0 _ _) | (exact heap_s1 _ _ _) | (exact heap_s2 _ _ _ _) | (exact heap_s3 _ _ _ _ _) | (exact heap_under (heap_s0 _ _)) | (exact heap_under (heap_s1 _ _ _)) | (exact heap_under (heap_s2 _ _ _ _)) | (exact heap_under (heap_under (heap_s0 _ _))) | (exact heap_under (heap_under (heap_s1 _ _ _))) | (exact heap_under (heap_under (heap_under (heap_s0 _ _))))); exact infTx; exact rfl; simp [Value.oneCell'])
    | fail)
  all_goals
    (try simp only [Exit.inBlock, Exit.then])
    exact bodyPost_cell rfl rfl (setRow_heap _ _ _ _ _ _ (by first | assumption | (exact heap_under (heap_s1 _ _ _)))) undTx rfl infTx rfl (KeptP.mk HK.out (below_setRow HB.out (by omega) _))
set_option maxRecDepth 100000 in
theorem kept_7 (h : TxH) (w : World) (ht : h.n.ty = 7) : Calls Tryz.prog 161 #[txV h] w (KeptP h w) := by
  have e0 : (h.n.ty == 14) = false := by rw [ht]; rfl
  have e1 : (h.n.ty == -10) = false := by rw [ht]; rfl
  have e2 : (h.n.ty == -11) = false := by rw [ht]; rfl
  have e3 : (h.n.ty == -1) = false := by rw [ht]; rfl
  have e4 : (h.n.ty == 1) = false := by rw [ht]; rfl
  have e5 : (h.n.ty == 5) = false := by rw [ht]; rfl
  have e6 : (h.n.ty == 7) = true := by rw [ht]; rfl
  have e7 : (h.n.ty == 13) = false := by rw [ht]; rfl
  have e8 : (h.n.ty == 120) = false := by rw [ht]; rfl
  have HK := Lib.hid (show keptH h = ⟨⟨h.n.ty, h.n.path, 0, h.n.ve, 0, false, 0, 0, 0, 0, 0⟩, nilS, h.a, nilS, nilS, nilS⟩ by simp [keptH, ht])
  clear ht
  unfold txV
  go_enter Tryz.func161, Tryz.ntmps161
  go_upto_block 1 with (first | (apply wpList_storeTop 33 33; exact rfl; exact rfl; exact rfl; (first | (with_reducible rfl) | (exact sz1 _ _) | (exact sz2 _ _ _) | (exact sz3 _ _ _ _)); exact rfl; exact infTx; exact rfl; simp [Value.oneCell']) | fail)
  go_cut [38] from 39 to 77 (fun _ wx => ∃ q, wx = (((w.alloc (.cells #[.int .i32 h.n.ty, .string h.n.path, slV h.d, slV h.a, .int .i64 h.n.ow, .int .i32 h.n.ve, .int .i32 h.n.cr, .bool h.n.qh, .int .i64 h.n.qc, .int .i64 h.n.qb, .int .i64 h.n.si, .int .i32 h.n.st, slV h.i, slV h.p, .int .i32 h.n.co, slV h.s] 33)).alloc (.cells #[.int .i32 0, .string ⟨#[]⟩, .slice none 0 0, .slice none 0 0, .int .i64 0, .int .i32 0, .int .i32 0, .bool false, .int .i64 0, .int .i64 0, .int .i64 0, .int .i32 0, .slice none 0 0, .slice none 0 0, .int .i32 0, .slice none 0 0] 33)).alloc (.cells #[.int .i32 h.n.ty, .string h.n.path, .slice none 0 0, .slice h.a.1 h.a.2.1 h.a.2.2, .int .i64 0, .int .i32 h.n.ve, .int .i32 0, .bool false, .int .i64 0, .int .i64 0, .int .i64 0, .int .i32 0, .slice none 0 0, .slice none 0 0, .int .i32 0, .slice none 0 0] 33)).drewN q)
  case first =>
    go_wp2_with fail
    go_region
    all_goals go_wp2_with fail
    all_goals go_meet
    all_goals exact ⟨_, rfl⟩
  case rest =>
  obtain ⟨q, rfl⟩ := hcut
  have g1 : ((((w.alloc (.cells #[.int .i32 h.n.ty, .string h.n.path, slV h.d, slV h.a, .int .i64 h.n.ow, .int .i32 h.n.ve, .int .i32 h.n.cr, .bool h.n.qh, .int .i64 h.n.qc, .int .i64 h.n.qb, .int .i64 h.n.si, .int .i32 h.n.st, slV h.i, slV h.p, .int .i32 h.n.co, slV h.s] 33)).alloc (.cells #[.int .i32 0, .string ⟨#[]⟩, .slice none 0 0, .slice none 0 0, .int .i64 0, .int .i32 0, .int .i32 0, .bool false, .int .i64 0, .int .i64 0, .int .i64 0, .int .i32 0, .slice none 0 0, .slice none 0 0, .int .i32 0, .slice none 0 0] 33)).alloc (.cells #[.int .i32 h.n.ty, .string h.n.path, .slice none 0 0, .slice h.a.1 h.a.2.1 h.a.2.2, .int .i64 0, .int .i32 h.n.ve, .int .i32 0, .bool false, .int .i64 0, .int .i64 0, .int .i64 0, .int .i32 0, .slice none 0 0, .slice none 0 0, .int .i32 0, .slice none 0 0] 33)).drewN q).heap[w.heap.size + 1]? = some (.cells #[.int .i32 0, .string ⟨#[]⟩, .slice none 0 0, .slice none 0 0, .int .i64 0, .int .i32 0, .int .i32 0, .bool false, .int .i64 0, .int .i64 0, .int .i64 0, .int .i32 0, .slice none 0 0, .slice none 0 0, .int .i32 0, .slice none 0 0] 33) := heap_under (heap_s1 w _ _)
  have g2 : ((((w.alloc (.cells #[.int .i32 h.n.ty, .string h.n.path, slV h.d, slV h.a, .int .i64 h.n.ow, .int .i32 h.n.ve, .int .i32 h.n.cr, .bool h.n.qh, .int .i64 h.n.qc, .int .i64 h.n.qb, .int .i64 h.n.si, .int .i32 h.n.st, slV h.i, slV h.p, .int .i32 h.n.co, slV h.s] 33)).alloc (.cells #[.int .i32 0, .string ⟨#[]⟩, .slice none 0 0, .slice none 0 0, .int .i64 0, .int .i32 0, .int .i32 0, .bool false, .int .i64 0, .int .i64 0, .int .i64 0, .int .i32 0, .slice none 0 0, .slice none 0 0, .int .i32 0, .slice none 0 0] 33)).alloc (.cells #[.int .i32 h.n.ty, .string h.n.path, .slice none 0 0, .slice h.a.1 h.a.2.1 h.a.2.2, .int .i64 0, .int .i32 h.n.ve, .int .i32 0, .bool false, .int .i64 0, .int .i64 0, .int .i64 0, .int .i32 0, .slice none 0 0, .slice none 0 0, .int .i32 0, .slice none 0 0] 33)).drewN q).heap[w.heap.size + 1 + 1]? = some (.cells #[.int .i32 h.n.ty, .string h.n.path, .slice none 0 0, .slice h.a.1 h.a.2.1 h.a.2.2, .int .i64 0, .int .i32 h.n.ve, .int .i32 0, .bool false, .int .i64 0, .int .i64 0, .int .i64 0, .int .i32 0, .slice none 0 0, .slice none 0 0, .int .i32 0, .slice none 0 0] 33) := heap_s2 w _ _ _
  have HB := Lib.hid (show Below w.heap.size w ((((w.alloc (.cells #[.int .i32 h.n.ty, .string h.n.path, slV h.d, slV h.a, .int .i64 h.n.ow, .int .i32 h.n.ve, .int .i32 h.n.cr, .bool h.n.qh, .int .i64 h.n.qc, .int .i64 h.n.qb, .int .i64 h.n.si, .int .i32 h.n.st, slV h.i, slV h.p, .int .i32 h.n.co, slV h.s] 33)).alloc (.cells #[.int .i32 0, .string ⟨#[]⟩, .slice none 0 0, .slice none 0 0, .int .i64 0, .int .i32 0, .int .i32 0, .bool false, .int .i64 0, .int .i64 0, .int .i64 0, .int .i32 0, .slice none 0 0, .slice none 0 0, .int .i32 0, .slice none 0 0] 33)).alloc (.cells #[.int .i32 h.n.ty, .string h.n.path, .slice none 0 0, .slice h.a.1 h.a.2.1 h.a.2.2, .int .i64 0, .int .i32 h.n.ve, .int .i32 0, .bool false, .int .i64 0, .int .i64 0, .int .i64 0, .int .i32 0, .slice none 0 0, .slice none 0 0, .int .i32 0, .slice none 0 0] 33)).drewN q) from drewN_below (three_below w _ _ _) q)
  generalize (((w.alloc (.cells #[.int .i32 h.n.ty, .string h.n.path, slV h.d, slV h.a, .int .i64 h.n.ow, .int .i32 h.n.ve, .int .i32 h.n.cr, .bool h.n.qh, .int .i64 h.n.qc, .int .i64 h.n.qb, .int .i64 h.n.si, .int .i32 h.n.st, slV h.i, slV h.p, .int .i32 h.n.co, slV h.s] 33)).alloc (.cells #[.int .i32 0, .string ⟨#[]⟩, .slice none 0 0, .slice none 0 0, .int .i64 0, .int .i32 0, .int .i32 0, .bool false, .int .i64 0, .int .i64 0, .int .i64 0, .int .i32 0, .slice none 0 0, .slice none 0 0, .int .i32 0, .slice none 0 0] 33)).alloc (.cells #[.int .i32 h.n.ty, .string h.n.path, .slice none 0 0, .slice h.a.1 h.a.2.1 h.a.2.2, .int .i64 0, .int .i32 h.n.ve, .int .i32 0, .bool false, .int .i64 0, .int .i64 0, .int .i64 0, .int .i32 0, .slice none 0 0, .slice none 0 0, .int .i32 0, .slice none 0 0] 33)).drewN q = V at *
  go_wp2_with (first
    | (apply wpList_storeTop 33 33; exact rfl; exact rfl; exact rfl; (first | (with_reducible rfl) | (exact sz1 _ _) | (exact sz2 _ _ _) | (exact sz3 _ _ _ _)); exact rfl; exact infTx; exact rfl; simp [Value.oneCell'])
    | (apply wpList_loadRow 33 33; exact rfl; exact rfl; exact rfl; (first | assumption | (exact heap_s0 _ _) | (exact heap_s1 _ _ _) | (exact heap_s2 _ _ _ _) | (exact heap_s3 _ _ _ _ _) | (exact heap_under (heap_s0 _ _)) | (exact heap_under (heap_s1 _ _ _)) | (exact heap_under (heap_s2 _ _ _ _)) | (exact heap_under (heap_under (heap_s0 _ _))) | (exact heap_under (heap_under (heap_s1 _ _ _))) | (exact heap_under (heap_under (heap_under (heap_s0 _ _))))); exact undTx; exact rfl; exact infTx)
    | (apply wpList_storeRow 33 33; exact rfl; exact rfl; exact rfl; exact rfl; (first | assumption | (exact heap_s0 _ _) | (exact heap_s1 _ _ _) | (exact heap_s2 _ _ _ _) | (exact heap_s3 _ _ _ _ _) | (exact heap_under (heap_s0 _ _)) | (exact heap_under (heap_s1 _ _ _)) | (exact heap_under (heap_s2 _ _ _ _)) | (exact heap_under (heap_under (heap_s0 _ _))) | (exact heap_under (heap_under (heap_s1 _ _ _))) | (exact heap_under (heap_under (heap_under (heap_s0 _ _))))); exact infTx; exact rfl; simp [Value.oneCell'])
    | fail)
  all_goals
    (try simp only [Exit.inBlock, Exit.then])
    exact bodyPost_cell rfl rfl (setRow_heap _ _ _ _ _ _ (by first | assumption | (exact heap_under (heap_s1 _ _ _)))) undTx rfl infTx rfl (KeptP.mk HK.out (below_setRow HB.out (by omega) _))
set_option maxRecDepth 100000 in
theorem kept_13 (h : TxH) (w : World) (ht : h.n.ty = 13) : Calls Tryz.prog 161 #[txV h] w (KeptP h w) := by
  have e0 : (h.n.ty == 14) = false := by rw [ht]; rfl
  have e1 : (h.n.ty == -10) = false := by rw [ht]; rfl
  have e2 : (h.n.ty == -11) = false := by rw [ht]; rfl
  have e3 : (h.n.ty == -1) = false := by rw [ht]; rfl
  have e4 : (h.n.ty == 1) = false := by rw [ht]; rfl
  have e5 : (h.n.ty == 5) = false := by rw [ht]; rfl
  have e6 : (h.n.ty == 7) = false := by rw [ht]; rfl
  have e7 : (h.n.ty == 13) = true := by rw [ht]; rfl
  have e8 : (h.n.ty == 120) = false := by rw [ht]; rfl
  have HK := Lib.hid (show keptH h = ⟨⟨h.n.ty, h.n.path, 0, h.n.ve, 0, false, 0, 0, 0, 0, 0⟩, nilS, nilS, nilS, nilS, nilS⟩ by simp [keptH, ht])
  clear ht
  unfold txV
  go_enter Tryz.func161, Tryz.ntmps161
  go_wp2_with (first
    | (apply wpList_storeTop 33 33; exact rfl; exact rfl; exact rfl; (first | (with_reducible rfl) | (exact sz1 _ _) | (exact sz2 _ _ _) | (exact sz3 _ _ _ _)); exact rfl; exact infTx; exact rfl; simp [Value.oneCell'])
    | (apply wpList_loadRow 33 33; exact rfl; exact rfl; exact rfl; (first | assumption | (exact heap_s0 _ _) | (exact heap_s1 _ _ _) | (exact heap_s2 _ _ _ _) | (exact heap_s3 _ _ _ _ _) | (exact heap_under (heap_s0 _ _)) | (exact heap_under (heap_s1 _ _ _)) | (exact heap_under (heap_s2 _ _ _ _)) | (exact heap_under (heap_under (heap_s0 _ _))) | (exact heap_under (heap_under (heap_s1 _ _ _))) | (exact heap_under (heap_under (heap_under (heap_s0 _ _))))); exact undTx; exact rfl; exact infTx)
    | (apply wpList_storeRow 33 33; exact rfl; exact rfl; exact rfl; exact rfl; (first | assumption | (exact heap_s0 _ _) | (exact heap_s1 _ _ _) | (exact heap_s2 _ _ _ _) | (exact heap_s3 _ _ _ _ _) | (exact heap_under (heap_s0 _ _)) | (exact heap_under (heap_s1 _ _ _)) | (exact heap_under (heap_s2 _ _ _ _)) | (exact heap_under (heap_under (heap_s0 _ _))) | (exact heap_under (heap_under (heap_s1 _ _ _))) | (exact heap_under (heap_under (heap_under (heap_s0 _ _))))); exact infTx; exact rfl; simp [Value.oneCell'])
    | fail)
  all_goals
    (try simp only [Exit.inBlock, Exit.then])
    exact bodyPost_cell rfl rfl (setRow_heap _ _ _ _ _ _ (by first | assumption | (exact heap_under (heap_s1 _ _ _)))) undTx rfl infTx rfl (KeptP.mk HK.out (below_setRow (three_below w _ _ _) (by omega) _))
set_option maxRecDepth 100000 in
theorem kept_120 (h : TxH) (w : World) (ht : h.n.ty = 120) : Calls Tryz.prog 161 #[txV h] w (KeptP h w) := by
  have e0 : (h.n.ty == 14) = false := by rw [ht]; rfl
  have e1 : (h.n.ty == -10) = false := by rw [ht]; rfl
  have e2 : (h.n.ty == -11) = false := by rw [ht]; rfl
  have e3 : (h.n.ty == -1) = false := by rw [ht]; rfl
  have e4 : (h.n.ty == 1) = false := by rw [ht]; rfl
  have e5 : (h.n.ty == 5) = false := by rw [ht]; rfl
  have e6 : (h.n.ty == 7) = false := by rw [ht]; rfl
  have e7 : (h.n.ty == 13) = false := by rw [ht]; rfl
  have e8 : (h.n.ty == 120) = true := by rw [ht]; rfl
  have HK := Lib.hid (show keptH h = ⟨⟨h.n.ty, h.n.path, 0, 0, 0, h.n.qh, h.n.qc, h.n.qb, 0, 0, 0⟩, nilS, nilS, nilS, nilS, nilS⟩ by simp [keptH, ht])
  clear ht
  unfold txV
  go_enter Tryz.func161, Tryz.ntmps161
  go_wp2_with (first
    | (apply wpList_storeTop 33 33; exact rfl; exact rfl; exact rfl; (first | (with_reducible rfl) | (exact sz1 _ _) | (exact sz2 _ _ _) | (exact sz3 _ _ _ _)); exact rfl; exact infTx; exact rfl; simp [Value.oneCell'])
    | (apply wpList_loadRow 33 33; exact rfl; exact rfl; exact rfl; (first | assumption | (exact heap_s0 _ _) | (exact heap_s1 _ _ _) | (exact heap_s2 _ _ _ _) | (exact heap_s3 _ _ _ _ _) | (exact heap_under (heap_s0 _ _)) | (exact heap_under (heap_s1 _ _ _)) | (exact heap_under (heap_s2 _ _ _ _)) | (exact heap_under (heap_under (heap_s0 _ _))) | (exact heap_under (heap_under (heap_s1 _ _ _))) | (exact heap_under (heap_under (heap_under (heap_s0 _ _))))); exact undTx; exact rfl; exact infTx)
    | (apply wpList_storeRow 33 33; exact rfl; exact rfl; exact rfl; exact rfl; (first | assumption | (exact heap_s0 _ _) | (exact heap_s1 _ _ _) | (exact heap_s2 _ _ _ _) | (exact heap_s3 _ _ _ _ _) | (exact heap_under (heap_s0 _ _)) | (exact heap_under (heap_s1 _ _ _)) | (exact heap_under (heap_s2 _ _ _ _)) | (exact heap_under (heap_under (heap_s0 _ _))) | (exact heap_under (heap_under (heap_s1 _ _ _))) | (exact heap_under (heap_under (heap_under (heap_s0 _ _))))); exact infTx; exact rfl; simp [Value.oneCell'])
    | fail)
  all_goals
    (try simp only [Exit.inBlock, Exit.then])
    exact bodyPost_cell rfl rfl (setRow_heap _ _ _ _ _ _ (by first | assumption | (exact heap_under (heap_s1 _ _ _)))) undTx rfl infTx rfl (KeptP.mk HK.out (below_setRow (three_below w _ _ _) (by omega) _))
set_option maxRecDepth 100000 in
theorem kept_x (h : TxH) (w : World) (ht : ¬ (h.n.ty = 14 ∨ h.n.ty = -10 ∨ h.n.ty = -11 ∨ h.n.ty = -1 ∨ h.n.ty = 1 ∨ h.n.ty = 5 ∨ h.n.ty = 7 ∨ h.n.ty = 13 ∨ h.n.ty = 120)) : Calls Tryz.prog 161 #[txV h] w (KeptP h w) := by
  have e0 : (h.n.ty == 14) = false := beq_eq_false_iff_ne.2 fun e => ht (by simp [e])
  have e1 : (h.n.ty == -10) = false := beq_eq_false_iff_ne.2 fun e => ht (by simp [e])
  have e2 : (h.n.ty == -11) = false := beq_eq_false_iff_ne.2 fun e => ht (by simp [e])
  have e3 : (h.n.ty == -1) = false := beq_eq_false_iff_ne.2 fun e => ht (by simp [e])
  have e4 : (h.n.ty == 1) = false := beq_eq_false_iff_ne.2 fun e => ht (by simp [e])
  have e5 : (h.n.ty == 5) = false := beq_eq_false_iff_ne.2 fun e => ht (by simp [e])
  have e6 : (h.n.ty == 7) = false := beq_eq_false_iff_ne.2 fun e => ht (by simp [e])
  have e7 : (h.n.ty == 13) = false := beq_eq_false_iff_ne.2 fun e => ht (by simp [e])
  have e8 : (h.n.ty == 120) = false := beq_eq_false_iff_ne.2 fun e => ht (by simp [e])
  have HK := Lib.hid (show keptH h = ⟨⟨h.n.ty, h.n.path, 0, 0, 0, false, 0, 0, 0, 0, 0⟩, nilS, nilS, nilS, nilS, nilS⟩ by
    simp only [not_or] at ht
    simp [keptH, ht])
  clear ht
  unfold txV
  go_enter Tryz.func161, Tryz.ntmps161
  go_wp2_with (first
    | (apply wpList_storeTop 33 33; exact rfl; exact rfl; exact rfl; (first | (with_reducible rfl) | (exact sz1 _ _) | (exact sz2 _ _ _) | (exact sz3 _ _ _ _)); exact rfl; exact infTx; exact rfl; simp [Value.oneCell'])
    | (apply wpList_loadRow 33 33; exact rfl; exact rfl; exact rfl; (first | assumption | (exact heap_s0 _ _) | (exact heap_s1 _ _ _) | (exact heap_s2 _ _ _ _) | (exact heap_s3 _ _ _ _ _) | (exact heap_under (heap_s0 _ _)) | (exact heap_under (heap_s1 _ _ _)) | (exact heap_under (heap_s2 _ _ _ _)) | (exact heap_under (heap_under (heap_s0 _ _))) | (exact heap_under (heap_under (heap_s1 _ _ _))) | (exact heap_under (heap_under (heap_under (heap_s0 _ _))))); exact undTx; exact rfl; exact infTx)
    | (apply wpList_storeRow 33 33; exact rfl; exact rfl; exact rfl; exact rfl; (first | assumption | (exact heap_s0 _ _) | (exact heap_s1 _ _ _) | (exact heap_s2 _ _ _ _) | (exact heap_s3 _ _ _ _ _) | (exact heap_under (heap_s0 _ _)) | (exact heap_under (heap_s1 _ _ _)) | (exact heap_under (heap_s2 _ _ _ _)) | (exact heap_under (heap_under (heap_s0 _ _))) | (exact heap_under (heap_under (heap_s1 _ _ _))) | (exact heap_under (heap_under (heap_under (heap_s0 _ _))))); exact infTx; exact rfl; simp [Value.oneCell'])
    | fail)
  all_goals
    (try simp only [Exit.inBlock, Exit.then])
    exact bodyPost_cell rfl rfl (setRow_heap _ _ _ _ _ _ (by first | assumption | (exact heap_under (heap_s1 _ _ _)))) undTx rfl infTx rfl (KeptP.mk HK.out (below_setRow (three_below w _ _ _) (by omega) _))
theorem kept_any (h : TxH) (w : World) : Calls Tryz.prog 161 #[txV h] w (KeptP h w) := by
  by_cases h0 : h.n.ty = 14
  · exact kept_14 h w h0
  by_cases h1 : h.n.ty = -10
  · exact kept_m10 h w h1
  by_cases h2 : h.n.ty = -11
  · exact kept_m11 h w h2
  by_cases h3 : h.n.ty = -1
  · exact kept_m1 h w h3
  by_cases h4 : h.n.ty = 1
  · exact kept_1 h w h4
  by_cases h5 : h.n.ty = 5
  · exact kept_5 h w h5
  by_cases h6 : h.n.ty = 7
  · exact kept_7 h w h6
  by_cases h7 : h.n.ty = 13
  · exact kept_13 h w h7
  by_cases h8 : h.n.ty = 120
  · exact kept_120 h w h8
  exact kept_x h w (by simp only [not_or]; exact ⟨h0, h1, h2, h3, h4, h5, h6, h7, h8⟩)
end Go.Proofs.YthpjneobmmpbnaaGreatDoor
