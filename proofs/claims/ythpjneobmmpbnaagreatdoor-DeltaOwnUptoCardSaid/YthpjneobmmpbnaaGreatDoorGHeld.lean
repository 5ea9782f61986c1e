/- A word for a map that the call itself has made: which keys and values it holds, in order of their coming; what a lookup, a store, a delete, a len do. -/
import Derived.Maps.Keyed
import Derived.Carry
import Derived.OwnWalk
import Derived.Maps.OwnSet
import Derived.DeepKeys4
import Derived.WalkKit
import Derived.Below
import Derived.Deep.Draws
import Derived.RowKit
import Derived.OrdersHeld
import Derived.StillTail
import Derived.Deep.RegionHeld
namespace Go.Proofs.YthpjneobmmpbnaaGreatDoor
open Go.RowKit Go.MapKept Go.Maps
open Go.ChangeMaps (setBlock heap_setBlock_same heap_setBlock_other)

/-- block b of w is a map of these keys and values -/
def MapV (w : World) (P : Program) (k : TypeId) (b : Nat) (l : List (Value × Value)) : Prop :=
  ∃ es clock, w.heap[b]? = some (.map es clock) ∧ Stamped es clock ∧ es.toList.map (fun e => (e.key, e.val)) = l ∧ ∀ p ∈ l, ∃ kl, keyOf P k p.1 = some kl

section
variable {P : Program} {w w' : World} {k t e : TypeId} {b : Nat} {l : List (Value × Value)}
theorem MapV.made (w : World) (P : Program) (k : TypeId) : MapV (w.alloc (.map #[] 0)) P k w.heap.size [] :=
  ⟨#[], 0, (heap_alloc w _).1, stamped_empty 0, rfl, fun p hp => absurd hp (by simp)⟩
theorem MapV.lt (h : MapV w P k b l) : b < w.heap.size := by
  obtain ⟨es, clock, hb, _⟩ := h
  exact (Array.getElem?_eq_some_iff.1 hb).1
theorem MapV.of_heap (h : MapV w P k b l) (hh : w'.heap[b]? = w.heap[b]?) : MapV w' P k b l := by
  obtain ⟨es, clock, hb, r⟩ := h
  exact ⟨es, clock, hh.trans hb, r⟩
theorem MapV.kept {row : Option Nat} (h : MapV w P k b l) (hg : w.grownBy w' row) (hne : some b ≠ row) : MapV w' P k b l := h.of_heap (hg.block b h.lt hne)
theorem MapV.below {B : Nat} (h : MapV w P k b l) (hb : Below B w w') (hB : b < B) : MapV w' P k b l := h.of_heap (hb.block b hB)
theorem MapV.drewN (h : MapV w P k b l) (q : Nat) : MapV (w.drewN q) P k b l := h
theorem MapV.alloc (h : MapV w P k b l) (o : Obj) : MapV (w.alloc o) P k b l := h.kept (World.grownBy_alloc w o none) (by simp)
theorem MapV.setCell (h : MapV w P k b l) {p : Addr} (hp : b ≠ p.block) (u : Value) : MapV (w.setCell p u) P k b l := h.of_heap (Below.heap_setCell w p u b hp)
/-- the keys differ -/
theorem MapV.apart (h : MapV w P k b l) : l.Pairwise (fun p q => p.1 ≠ q.1) := by
  obtain ⟨es, clock, _, hs, rfl, _⟩ := h
  rw [List.pairwise_map]
  exact ((stamped_iff es clock).1 hs).2.2

theorem keys_of {es : Array MapEntry} (hl : es.toList.map (fun e => (e.key, e.val)) = l) (hk : ∀ p ∈ l, ∃ kl, keyOf P k p.1 = some kl) : ∀ x ∈ es.toList, ∃ kl, keyOf P k x.key = some kl := by
  intro x hx
  exact hk (x.key, x.val) (by rw [← hl]; exact List.mem_map.2 ⟨x, hx, rfl⟩)

/-- 'v, ok := m[k]' and 'm[k]', in every world in which that block is the same -/
theorem MapV.lookup (h : MapV w P k b l) (K : Keyed P k) (ht : P.underlying t = some (.map k e)) (c : Bool) {z : Value} (hz : ∀ w : World, (zeroValue e).run P w = .ok z w) {key : Value} {kl : Lit} (hkey : keyOf P k key = some kl) :
    (∃ v, (key, v) ∈ l ∧ ∀ w' : World, w'.heap[b]? = w.heap[b]? → (Instr.lookup t (.map (some b)) key c).run P w' = .ok (if c then .tuple #[v, .bool true] else v) w') ∨
    ((∀ p ∈ l, p.1 ≠ key) ∧ ∀ w' : World, w'.heap[b]? = w.heap[b]? → (Instr.lookup t (.map (some b)) key c).run P w' = .ok (if c then .tuple #[z, .bool false] else z) w') := by
  obtain ⟨es, clock, hb, hs, rfl, hk⟩ := h
  by_cases hex : ∃ e0 ∈ es.toList, e0.key = key
  · obtain ⟨e0, he0, hek⟩ := hex
    refine .inl ⟨e0.val, List.mem_map.2 ⟨e0, he0, by rw [hek]⟩, fun w' hw' => ?_⟩
    have hb' := hw'.trans hb
    rcases K.find w' hkey es.toList (keys_of rfl hk) with ⟨h1, h2⟩ | ⟨j, e1, h1, h2, h3⟩
    · exact absurd hek (h2 e0 he0)
    · have he : e1 = e0 := by
        have hpw := ((stamped_iff es clock).1 hs).2.2
        obtain ⟨j0, hj0, rfl⟩ := List.getElem_of_mem he0
        obtain ⟨hj1, rfl⟩ := List.getElem?_eq_some_iff.1 h2
        rw [List.pairwise_iff_getElem] at hpw
        rcases Nat.lt_trichotomy j j0 with hlt | rfl | hlt
        · exact absurd (h3.trans hek.symm) (hpw j j0 hj1 hj0 hlt)
        · rfl
        · exact absurd (hek.trans h3.symm) (hpw j0 j hj0 hj1 hlt)
      subst he
      simp [Instr.lookup, run_underlying ht, MapKept.run_getObj_map hb', K.check w' _ hkey, h1, Result.andThen]
  · refine .inr ⟨fun p hp => ?_, fun w' hw' => ?_⟩
    · obtain ⟨x, hx, rfl⟩ := List.mem_map.1 hp
      exact fun e => hex ⟨x, hx, e⟩
    · have hb' := hw'.trans hb
      rcases K.find w' hkey es.toList (keys_of rfl hk) with ⟨h1, h2⟩ | ⟨j, e1, h1, h2, h3⟩
      · simp [Instr.lookup, run_underlying ht, MapKept.run_getObj_map hb', K.check w' _ hkey, h1, hz, Result.andThen]
      · exact absurd h3 (fun e => hex ⟨e1, List.mem_of_getElem? h2, e⟩)

/-- 'm[k] = v' -/
theorem MapV.update (h : MapV w P k b l) (K : Keyed P k) (ht : P.underlying t = some (.map k e)) {key val : Value} {kl : Lit} (hkey : keyOf P k key = some kl) :
    ∃ w' l', (Instr.mapUpdate t (.map (some b)) key val).run P w = .ok () w' ∧ MapV w' P k b l' ∧ w.grownBy w' (some b) ∧ w'.heap.size = w.heap.size ∧
      (((∀ p ∈ l, p.1 ≠ key) ∧ l' = l ++ [(key, val)]) ∨ ∃ j old, l[j]? = some (key, old) ∧ l' = l.set j (key, val)) := by
  obtain ⟨es, clock, hb, hs, rfl, hk⟩ := h
  have grown : ∀ es' clock', w.grownBy (setBlock w b (.map es' clock')) (some b) := fun es' clock' => ⟨rfl, rfl, rfl, by simp [setBlock], fun i _ hi => heap_setBlock_other hb _ (fun e => hi (by rw [e]))⟩
  rcases K.find w hkey es.toList (keys_of rfl hk) with ⟨h1, h2⟩ | ⟨j, e0, h1, h2, h3⟩
  · refine ⟨setBlock w b (.map (es.push ⟨key, val, clock⟩) (clock + 1)), _, ?_, ⟨_, _, heap_setBlock_same hb _, stamped_push hs h2, rfl, ?_⟩, grown _ _, by simp [setBlock], .inl ⟨fun p hp => ?_, by simp⟩⟩
    · simp [Instr.mapUpdate, run_underlying ht, MapKept.run_getObj_map hb, K.check w false hkey, h1, MapKept.run_setObj_map _ hb, Result.andThen, setBlock]
    · intro p hp
      simp only [Array.toList_push, List.map_append, List.map_cons, List.map_nil, List.mem_append, List.mem_singleton] at hp
      rcases hp with hp | rfl
      · exact hk p hp
      · exact ⟨kl, hkey⟩
    · obtain ⟨x, hx, rfl⟩ := List.mem_map.1 hp
      exact h2 x hx
  · have hj : es[j]? = some e0 := by simpa using h2
    have hkeyf : ∀ e', es[j]? = some e' → ({ e' with key := key, val := val } : MapEntry).key = e'.key := fun e' he' => by rw [hj] at he'; cases he'; exact h3.symm
    have hlist : (es.modify j (fun e' => { e' with key := key, val := val })).toList = es.toList.set j { e0 with key := key, val := val } := by rw [Array.toList_modify, ChangeMaps.modify_eq_set _ _ _ _ h2]
    refine ⟨setBlock w b (.map (es.modify j (fun e' => { e' with key := key, val := val })) clock), _, ?_, ⟨_, _, heap_setBlock_same hb _, stamped_modify hs j (fun e' => { e' with key := key, val := val }) (fun _ _ => rfl) (fun e' _ he' => hkeyf e' he'), rfl, ?_⟩, grown _ _, by simp [setBlock], .inr ⟨j, e0.val, ?_, ?_⟩⟩
    · simp [Instr.mapUpdate, run_underlying ht, MapKept.run_getObj_map hb, K.check w false hkey, h1, hj, h3, K.stays w hkey, MapKept.run_setObj_map _ hb, Result.andThen, setBlock]
    · intro p hp
      rw [hlist, List.map_set] at hp
      rcases List.mem_or_eq_of_mem_set hp with hp | rfl
      · exact hk p hp
      · exact ⟨kl, hkey⟩
    · rw [List.getElem?_map, h2]; simp [h3]
    · rw [hlist, List.map_set]

/-- 'delete(m, k)' -/
theorem MapV.delete {ty : TypeId} (h : MapV w P k b l) (K : Keyed P k) (ht : P.underlying t = some (.map k e)) {key : Value} {kl : Lit} (hkey : keyOf P k key = some kl) :
    ∃ w' l', (Builtin.delete_ #[t, k] ty #[.map (some b), key]).run P w = .ok (.tuple #[]) w' ∧ MapV w' P k b l' ∧ w.grownBy w' (some b) ∧ w'.heap.size = w.heap.size ∧
      (((∀ p ∈ l, p.1 ≠ key) ∧ l' = l) ∨ ∃ j old, l[j]? = some (key, old) ∧ l' = l.eraseIdx j) := by
  obtain ⟨es, clock, hb, hs, rfl, hk⟩ := h
  have grown : ∀ es' clock', w.grownBy (setBlock w b (.map es' clock')) (some b) := fun es' clock' => ⟨rfl, rfl, rfl, by simp [setBlock], fun i _ hi => heap_setBlock_other hb _ (fun e => hi (by rw [e]))⟩
  rcases K.find w hkey es.toList (keys_of rfl hk) with ⟨h1, h2⟩ | ⟨j, e0, h1, h2, h3⟩
  · refine ⟨setBlock w b (.map es clock), _, ?_, ⟨_, _, heap_setBlock_same hb _, hs, rfl, hk⟩, grown _ _, by simp [setBlock], .inl ⟨fun p hp => ?_, rfl⟩⟩
    · simp [Builtin.delete_, run_underlying ht, MapKept.run_getObj_map hb, K.check w _ hkey, h1, MapKept.run_setObj_map _ hb, Result.andThen, setBlock]
    · obtain ⟨x, hx, rfl⟩ := List.mem_map.1 hp
      exact h2 x hx
  · have hjs : j < es.size := by have := (List.getElem?_eq_some_iff.1 h2).1; simpa using this
    have hsub : (es.eraseIdxIfInBounds j).toList = es.toList.eraseIdx j := by
      unfold Array.eraseIdxIfInBounds
      rw [dif_pos hjs]
      simp
    refine ⟨setBlock w b (.map (es.eraseIdxIfInBounds j) clock), _, ?_, ⟨_, _, heap_setBlock_same hb _, stamped_erase hs j, rfl, ?_⟩, grown _ _, by simp [setBlock], .inr ⟨j, e0.val, ?_, ?_⟩⟩
    · simp [Builtin.delete_, run_underlying ht, MapKept.run_getObj_map hb, K.check w _ hkey, h1, MapKept.run_setObj_map _ hb, Result.andThen, setBlock]
    · intro p hp
      rw [hsub, ChangeMaps.map_eraseIdx] at hp
      exact hk p ((List.eraseIdx_sublist _ _).subset hp)
    · rw [List.getElem?_map, h2]; simp [h3]
    · rw [hsub, ChangeMaps.map_eraseIdx]
end
end Go.Proofs.YthpjneobmmpbnaaGreatDoor
namespace Go.Proofs.YthpjneobmmpbnaaGreatDoor
abbrev KV := Int × Int
end Go.Proofs.YthpjneobmmpbnaaGreatDoor
namespace Go.Proofs.YthpjneobmmpbnaaGreatDoor
section
variable {P : Program} {ops : Array Oper} {Q : Exit → Act → World → Prop} {md : Region.Mode} {S : World → Prop} {m : Nat}
/-- whatever order is picked; S holds behind each of the first m operations -/
def wpAnyM (P : Program) (md : Region.Mode) (ops : Array Oper) (Q : Exit → Act → World → Prop) (S : World → Prop) (m : Nat) : Nat → Array Bool → Act → World → Prop
  | 0, listed, a, w => Region.ready md ops listed = [] ∧ Q .normal a w
  | f + 1, listed, a, w => (Region.ready md ops listed = [] → Q .normal a w) ∧ ∀ i ∈ Region.ready md ops listed, wpOp P ops Q i (fun a' w' => (i < m → S w') ∧ wpAnyM P md ops Q S m f (listed.setIfInBounds i true) a' w') a w
theorem wpAny_of_M : ∀ (f : Nat) (listed : Array Bool) (a : Act) (w : World), wpAnyM P md ops Q S m f listed a w → wpAny P md ops Q f listed a w
  | 0, _, _, _, h => h
  | f + 1, _, _, _, h => ⟨h.1, fun i hi => wpOp_mono (fun a' w' h' => wpAny_of_M f _ a' w' h'.2) (h.2 i hi)⟩
/-- every other operation from number m on waits for number i -/
def tailWaits (md : Region.Mode) (ops : Array Oper) (m i : Nat) : Bool := (List.range ops.size).all fun j => decide (j < m) || (j == i || Region.waitsFor md ops j i)
theorem tailWaits_spec {i j : Nat} {oj : Oper} (h : tailWaits md ops m i = true) (hj : ops[j]? = some oj) (hm : m ≤ j) (hne : j ≠ i) : ∃ e ∈ oj.after, Region.binds md e = true ∧ e.on = i := by
  have h1 := List.all_eq_true.1 h j (List.mem_range.2 (Array.getElem?_eq_some_iff.1 hj).1)
  simp only [Bool.or_eq_true, decide_eq_true_eq, beq_iff_eq] at h1
  rcases h1 with h1 | h1 | h1
  · omega
  · exact absurd h1 hne
  · obtain ⟨o, ho, e, he, hb, hon⟩ := Region.waitsFor_spec h1
    have : o = oj := Option.some.inj (ho.symm.trans hj)
    subst this
    exact ⟨e, he, hb, hon⟩
theorem wpAnyM_first {i : Nat} {oi : Oper} {v : Value} (hi : ops[i]? = some oi) (hsel : ∀ (j : Nat) (o : Oper) cs b, ops[j]? = some o → o.op ≠ .select cs b) (hQ : ∀ c a w, Q (.panic c) (a.put oi.dst v) w → Q (.panic c) a w) (htw : tailWaits md ops m i = true) :
    ∀ (f : Nat) (listed : Array Bool) (a : Act) (w : World), (∀ j oj, ops[j]? = some oj → j ≠ i → listed.getD j true = false → (∀ e ∈ oj.after, Region.binds md e = true → e.on ≠ i) → oi.apart ops oj = true) →
      i ∈ Region.ready md ops listed → YieldsIf P ops S oi v a → S w → wpAnyM P md ops Q S m f (listed.setIfInBounds i true) (a.put oi.dst v) w → wpAnyM P md ops Q S m (f + 1) listed a w := by
  intro f
  induction f with
  | zero =>
    intro listed a w _ hr hy hS H
    refine ⟨fun h => absurd (h ▸ hr) (by simp), fun j hj => ?_⟩
    by_cases hji : j = i
    · subst hji; exact hy.wpOp hi hS ⟨fun _ => hS, H⟩
    · exact absurd (ready_mono hj hji) (by rw [H.1]; simp)
  | succ f ih =>
    intro listed a w hfree hr hy hS H
    refine ⟨fun h => absurd (h ▸ hr) (by simp), fun j hj => ?_⟩
    by_cases hji : j = i
    · subst hji; exact hy.wpOp hi hS ⟨fun _ => hS, H⟩
    obtain ⟨hun, oj, hoj, hall⟩ := mem_ready.1 hj
    -- number i has not come up, so nothing that is ready waits for it
    have hno : ∀ e ∈ oj.after, Region.binds md e = true → e.on ≠ i := by
      intro e he hb hon
      have h1 := hall e he hb
      rw [hon, getD_both (mem_ready.1 hr).1] at h1
      cases h1
    have hjm : j < m := by
      rcases Nat.lt_or_ge j m with h | h
      · exact h
      · obtain ⟨e, he, hb, hon⟩ := tailWaits_spec htw hoj h hji
        exact absurd hon (hno e he hb)
    have h2 := wpOp_putIf hoj (hfree j oj hoj hji hun hno) (fun cs b => hsel i oi cs b hi) (fun cs b => hsel j oj cs b hoj) hQ hy (H.2 j (ready_mono hj hji))
    refine wpOp_mono (fun a' w' h3 => ⟨fun _ => h3.2.1 hjm, ih _ a' w' ?_ (ready_mono hr (Ne.symm hji)) h3.1 (h3.2.1 hjm) ?_⟩) h2
    · intro k ok hk hki hunk hnok
      refine hfree k ok hk hki ?_ hnok
      by_cases hjk : j = k
      · subst hjk; exact hun
      · rwa [getD_set_ne true hjk] at hunk
    · rw [Array.setIfInBounds_comm _ _ hji]; exact h3.2.2
theorem wpAnyM_take {i : Nat} {oi : Oper} {v : Value} {f : Nat} {listed : Array Bool} {a : Act} {w : World} (hi : ops[i]? = some oi) (hB : (Region.noSelect ops && Region.free md ops listed i && (Region.ready md ops listed).contains i && tailWaits md ops m i) = true)
    (hQ : ∀ c a w, Q (.panic c) (a.put oi.dst v) w → Q (.panic c) a w) (hy : YieldsIf P ops S oi v a) (hS : S w) (h : wpAnyM P md ops Q S m f (listed.setIfInBounds i true) (a.put oi.dst v) w) : wpAnyM P md ops Q S m (f + 1) listed a w := by
  simp only [Bool.and_eq_true] at hB
  exact wpAnyM_first hi (Region.noSelect_spec hB.1.1.1) hQ hB.2 f listed a w (Region.free_spec hi hB.1.1.2) (by simpa using hB.1.2) hy hS h
/-- number i alone may come up -/
theorem wpAnyM_one {i : Nat} {o : Oper} {f : Nat} {listed : Array Bool} {a : Act} {w : World} (hi : ops[i]? = some o) (hr : Region.ready md ops listed = [i])
    (h : ∀ K' : Act → World → Prop, Shut (∀ a w, S w → wpAnyM P md ops Q S m f (listed.setIfInBounds i true) a w → K' a w) → if Region.wanted o (yielded ops a.tmps) = true then Oper.wp P o a w K' Q else K' (a.put o.dst undef) w) : wpAnyM P md ops Q S m (f + 1) listed a w := by
  refine ⟨fun h0 => absurd (hr ▸ h0) (by simp), fun j hj => ?_⟩
  rw [hr] at hj
  have hji : j = i := by simpa using hj
  subst hji
  exact wpOp_step hi (fun K' hK => h K' (fun a w hS hW => hK a w ⟨fun _ => hS, hW⟩))
/-- the head is through: the tail, in its one order -/
theorem wpAnyM_tail {l : List Oper} {n : Nat} {listed : Array Bool} {a : Act} {w : World} (hB : ((List.range m).all (fun i => listed.getD i true) && Region.seqB md l.toArray (l.drop n).length n listed) = true) (h : wpList P l.toArray Q (l.drop n) a w) : wpAnyM P md l.toArray Q S m (l.drop n).length listed a w := by
  simp only [Bool.and_eq_true] at hB
  have H := wpAny_of_seq (P := P) (md := md) (Q' := Q) (l.drop n) n listed a w (fun j => by simp [List.getElem?_drop]) hB.2 h
  have hall : ∀ i, i < m → listed.getD i true = true := fun i hi => List.all_eq_true.1 hB.1 i (List.mem_range.2 hi)
  clear hB h
  generalize (l.drop n).length = f at H
  induction f generalizing listed a w with
  | zero => exact H
  | succ f ih =>
    refine ⟨H.1, fun i hi => wpOp_mono (fun a' w' h' => ⟨fun him => ?_, ih (fun k hk => ?_) h'⟩) (H.2 i hi)⟩
    · have := (mem_ready.1 hi).1
      rw [hall i him] at this; cases this
    · by_cases hik : i = k
      · subst hik
        have := (mem_ready.1 hi).1
        rw [hall i hk] at this; cases this
      · rw [getD_set_ne true hik]; exact hall k hk
theorem wp_region_M {id : Nat} {a : Act} {w : World} (m : Nat) (hm : P.follows .mixedOrders = true) (hS : S w.drew) (h : S w.drew → wpAnyM P .any ops Q S m ops.size (Array.replicate ops.size false) a w.drew) : (Code.region id ops true).wp P Q a w :=
  wp_region_any hm (wpAny_of_M _ _ _ _ (h hS))
end
end Go.Proofs.YthpjneobmmpbnaaGreatDoor
