/- The walk of a table's List. Condition: fewer than 2^20 sessions. -/
import Derived.Test.YtfnigjeklcagnaaGreatDoorTabA
import Derived.Test.YtfnigjeklcagnaaGreatDoorIter2
import Derived.Test.YtfnigjeklcagnaaGreatDoorClkS
import Derived.Test.YtfnigjeklcagnaaGreatDoorOrdK
namespace Go.Proofs.YtfnigjeklcagnaaGreatDoor
open Go.RowKit Go.Maps Go.Shelf Go.ChangeShapes Go.WideShapes Go.MapKept
theorem keysC_any (mb : Option Nat) (W : World) : Calls Tryz.prog 52 #[.map mb] W fun e w' => e = .returned (.func (.func 63) #[] #[.pointer (some ⟨W.heap.size, 0, none⟩)]) ∧ w' = W.alloc (.cells #[.map mb] 94) :=
  callsIn_wide.1 (AnyZI.keys_in Tryz.keysC Fence.wide 5 trivial rfl mb W)
set_option maxHeartbeats 1000000 in
theorem sortedC_any (b : Nat) (l : List (Int × Value)) (w : World) (h : MapI w b l) (hl : l.length ≤ 1073741824) :
    Calls Tryz.prog 41 #[.func (.func 63) #[] #[.pointer (some ⟨w.heap.size, 0, none⟩)]] (w.alloc (.cells #[.map (some b)] 94)) (SortPost (w.alloc (.cells #[.map (some b)] 94)) (sortI (l.map (·.1)))) := by
  obtain ⟨D0, hown, hperm, hsize⟩ := h.owns hl
  have hbl := hown.lt
  have hseq : SeqGives Fence.wide 2 Tryz.prog 63 #[.pointer (some ⟨w.heap.size, 0, none⟩)] encZ (fun ss => ss.Perm (intKeys D0)) (Maps.size D0) (w.alloc (.cells #[.map (some b)] 94)) :=
    AnyZI.keys_gives (ρ := Tryz.keysC_ren) { Tryz.keysC with } Fence.wide _ trivial rfl (by omega) w.heap.size b l.length D0 _ (by simp) (by simp) (by
      obtain ⟨es, clock, hb, Ft, hs, hD⟩ := hown
      exact ⟨es, clock, (Below.heap_alloc _ _ b hbl).trans hb, Ft, hs, hD⟩)
  have cS := AnyZI.sorted_in Tryz.sortedA Fence.wide 5 trivial trivial trivial trivial rfl (by omega) (sorts_in _) (enters_of Tryz.func55 (by kernel_rfl) rfl) 63 #[.pointer (some ⟨w.heap.size, 0, none⟩)] trivial (enters_of Tryz.func63 (by kernel_rfl) rfl) _ _ (by rw [hsize]; exact Nat.le_trans hl (by decide)) (by rw [hsize]; omega) _ hseq
  refine (callsIn_wide.1 cS).mono ?_
  rintro e w' ⟨v, ss, rfl, hS, hrow, _, hb⟩
  exact sort_close (hS.trans hperm) hrow hb

theorem TabAt.get {w : World} {bt bm : Nat} {E : List EntV} {own : List Nat} (h : TabAt w bt bm E own) {i : Int} (hi : wfI i) (hm : ∃ e ∈ E, e.1.1 = i) :
    ∃ e ∈ E, e.1.1 = i ∧ ∀ w' : World, w'.heap[bm]? = w.heap[bm]? → (Instr.lookup 94 (.map (some bm)) (.int .i64 i) false).run Tryz.prog w' = .ok (entV e) w' := by
  rcases h.map.lookup Tryz.underlying94 false zSession hi with ⟨v, hv, hr⟩ | ⟨hn, hr⟩
  · obtain ⟨e, he, ee⟩ := List.mem_map.1 hv
    have e1 : e.1.1 = i := congrArg Prod.fst ee
    have e2 : entV e = v := congrArg Prod.snd ee
    subst e2
    exact ⟨e, he, e1, hr⟩
  · obtain ⟨e, he, e1⟩ := hm
    exact absurd e1 (hn _ (List.mem_map.2 ⟨e, he, rfl⟩))
theorem elemSes : Elem encS 50 56 3 40 (.agg #[.int .i64 0, .int .i32 0, .slice none 0 0]) where
  under := Tryz.underlying50
  info := by kernel_rfl
  size := rfl
  len := fun _ => rfl
  pos := by decide
  one := fun x u hu => by
    simp [encS] at hu
    rcases hu with rfl | rfl | rfl <;> rfl
  small := by decide
theorem wpList_appS {α : Type} [Inhabited α] {enc : α → List Value} {ST T : TypeId} {k bs : Nat} {z : Value} (E : Elem enc ST T k bs z) {ops : Array Oper} {rest : List Oper} {o : Oper} {a : Act} {Q : Exit → Act → World → Prop} {w : World} (hgd : o.guard = none) (s x : Operand)
    (ho : o.op = .call { callee := .builtin .append, args := #[s, x], argTypes := #[ST, ST] }) (base : Nat) (A : Option Addr) (n c : Nat) (l : List α) (hs : a.eval s = .slice A n c)
    (hown : w.ownsRow base T k (.slice A n c) n (l.flatMap enc)) (a0 : Addr) (m c' : Nat) (l' : List α) (hx : a.eval x = .slice (some a0) m c') (hsl : Sl w w.heap.size enc k (some a0) m l')
    (hn : n + m ≤ 16777216) (hbase : base ≤ w.heap.size)
    (h : ∀ A2 c2 w', w'.ownsRow base T k (.slice A2 (n + m) c2) (n + m) ((l ++ l').flatMap enc) → w.grownBy w' (Value.slice A n c).ownBlock → wpList Tryz.prog ops Q rest (a.put o.dst (.slice A2 (n + m) c2)) w') : wpList Tryz.prog ops Q (o :: rest) a w := by
  obtain ⟨i0, hi0, hz0, hz1, hz2⟩ := info_partsI E.info
  refine wpList_append_own w hgd s x _ ho base T i0 _ k bs E.under hi0 hz0 hz1 hz2 E.size E.pos _ n _ hs hown a0 m c' (l'.flatMap enc) hx (by rw [flat_len E.len, hsl.len]) (Sl.news E.len E.pos hsl) ?_ (by unfold maxLen; omega) ?_ hbase ?_
  · intro u hu
    obtain ⟨x, _, hx⟩ := List.mem_flatMap.1 hu
    exact E.one x u hx
  · have := Nat.mul_le_mul hn E.small
    omega
  · intro v' w' h1 h2 _
    obtain ⟨A2, c2, rfl⟩ := own_formI h1
    refine h A2 c2 w' ?_ h2
    rw [List.flatMap_append]; exact h1
/-- a row of one kind stays where a row of another grows -/
theorem row_grown {w w' : World} {b b' n n' k k' c c' : Nat} {T T' : TypeId} {A A' : Option Addr} {xs ys : List Value} (h : w.ownsRow b T k (.slice A n c) n xs) (h' : w.ownsRow b' T' k' (.slice A' n' c') n' ys) (hg : w.grownBy w' (Value.slice A' n' c').ownBlock) (hne : T ≠ T') : w'.ownsRow b T k (.slice A n c) n xs := by
  refine ⟨h.1, h.2.imp (fun x => x) fun ⟨g, cap, cur, a1, a2, a3, r⟩ => ⟨g, cap, cur, a1, a2, ?_, r⟩⟩
  refine (hg.block g (Array.getElem?_eq_some_iff.1 a3).1 fun e => ?_).trans a3
  rcases h'.2 with ⟨e1, _⟩ | ⟨g', cap', cur', b1, _, b3, _⟩
  · injection e1 with e1 _ _
    subst e1
    cases e
  · injection b1 with b1 _ _
    subst b1
    injection e with e
    subst e
    rw [a3] at b3
    injection b3 with b3
    injection b3 with _ b4 _
    exact hne b4
/-- the list's sessions: each in its place, its identities in a row of the call's own -/
def LsR (E : List EntV) (S : List Int) (w w1 : World) (A1 : Option Addr) (c1 : Nat) (v i : Value) (wr : World) : Prop := ∃ (k : Nat) (Z : List EntV) (A : Option Addr) (c : Nat), i = .int .i64 ↑k ∧ k ≤ S.length ∧ Z.length = k ∧ v = .slice A k c ∧ wr.ownsRow w1.heap.size 56 3 (.slice A k c) k ((Z.map (·.1)).flatMap encS) ∧
  (∀ z ∈ Z, toP z ∈ E.map toP ∧ RowId wr w.heap.size z.1.2.2.1 z.1.2.2.2.1 z.1.2.2.2.2 z.2 ∧ z.2.length = z.1.2.2.2.1 ∧ z.1.2.2.2.1 ≤ 1048576) ∧ Z.map (fun z => z.1.1) = S.take k ∧ Below w.heap.size w wr ∧ wr.ownsRow (w.heap.size + 1) 2 1 (.slice A1 S.length c1) S.length (S.map encZ) ∧ w1.heap.size ≤ wr.heap.size
def ListPost (T : List SesP) (w : World) (e : Ending) (w' : World) : Prop := (∃ A c Z, e = .returned (.slice A Z.length c) ∧ SlS w' A Z.length Z ∧ (Z.map toP).Perm T ∧ (Z.map toP).Pairwise (fun a b => a.1 < b.1) ∧ w'.ownsRow w.heap.size 56 3 (.slice A Z.length c) Z.length ((Z.map (·.1)).flatMap encS)) ∧ Below w.heap.size w w'
theorem nodup_of_map {α β : Type} (f : α → β) {l : List α} (h : (l.map f).Nodup) : l.Nodup := (List.pairwise_map.1 h).imp fun hne e => hne (congrArg f e)
theorem mem_one {E : List EntV} (hone : (E.map ((fun x => x.1) ∘ toP)).Nodup) {p q : SesP} (hp : p ∈ E.map toP) (hq : q ∈ E.map toP) (h : p.1 = q.1) : p = q := by
  have h2 : ((E.map toP).map (·.1)).Nodup := by rw [List.map_map]; exact hone
  exact fst_inj h2 hp hq h
theorem list_close {E : List EntV} {S : List Int} {w w1 wr : World} {Z : List EntV} {A : Option Addr} {k c : Nat} (hP : S.Perm (E.map fun e => e.1.1)) (hN : S.Nodup) (hS : S.Pairwise (fun a b => a ≤ b)) (hone : (E.map ((fun x => x.1) ∘ toP)).Nodup) (hk : S.length ≤ k)
    (hrow : wr.ownsRow w1.heap.size 56 3 (.slice A k c) k ((Z.map (·.1)).flatMap encS)) (hent : ∀ z ∈ Z, toP z ∈ E.map toP ∧ RowId wr w.heap.size z.1.2.2.1 z.1.2.2.2.1 z.1.2.2.2.2 z.2 ∧ z.2.length = z.1.2.2.2.1 ∧ z.1.2.2.2.1 ≤ 1048576) (hids : Z.map (fun z => z.1.1) = S.take k) (hb : Below w.heap.size w wr) (hz : Z.length = k) (hsz : w.heap.size ≤ w1.heap.size) : ListPost (E.map toP) w (.returned (.slice A k c)) wr := by
  subst hz
  rw [List.take_of_length_le hk] at hids
  have hzn : ((Z.map toP).map (·.1)).Nodup := by rw [List.map_map]; exact (by rw [← hids] at hN; exact hN)
  refine ⟨⟨A, c, Z, rfl, ⟨rfl, fun j hj => ?_⟩, ?_, ?_, ?_⟩, hb⟩
  · have hm : Z[j]! ∈ Z := by rw [getElem!_pos Z j hj]; exact List.getElem_mem _
    obtain ⟨_, q2, q3, q4⟩ := hent _ hm
    have hc := (Sl.of_own (zs := Z.map (·.1)) (k := 3) (enc := encS) (fun _ => rfl) hrow (List.length_map ..)).cells hj
    obtain ⟨b, off, e, _, hc⟩ := hc
    have e2 : (Z.map (·.1))[j]! = Z[j]!.1 := by
      rw [getElem!_pos _ j (by simpa using hj), getElem!_pos Z j hj, List.getElem_map]
    rw [e2] at hc
    exact ⟨⟨b, off, e, hc 0 _ rfl, hc 1 _ rfl, hc 2 _ rfl⟩, Sl.of_own (fun _ => rfl) q2 q3, q4⟩
  · have h1 : (Z.map toP).Nodup := nodup_of_map _ hzn
    have h2 : (E.map toP).Nodup := nodup_of_map (fun p : SesP => p.1) (by rw [List.map_map]; exact hone)
    refine (List.perm_ext_iff_of_nodup h1 h2).2 fun p => ?_
    constructor
    · intro hp
      obtain ⟨z, hz, rfl⟩ := List.mem_map.1 hp
      exact (hent z hz).1
    · intro hp
      obtain ⟨e, he, rfl⟩ := List.mem_map.1 hp
      have hm : e.1.1 ∈ Z.map (fun z => z.1.1) := by rw [hids]; exact hP.mem_iff.2 (List.mem_map.2 ⟨e, he, rfl⟩)
      obtain ⟨z, hz, ez⟩ := List.mem_map.1 hm
      have := mem_one hone (hent z hz).1 hp ez
      rw [← this]
      exact List.mem_map.2 ⟨z, hz, rfl⟩
  · rw [List.pairwise_map]
    have h3 : (Z.map (fun z => z.1.1)).Pairwise (fun a b => a < b) := by
      rw [hids]
      exact (List.pairwise_and_iff.2 ⟨hS, hN⟩).imp fun {a b} h => by
        obtain ⟨h1, h2⟩ := h
        omega
    rw [List.pairwise_map] at h3
    exact h3
  · exact ⟨hrow.1, hrow.2.imp (fun x => x) fun ⟨g, cap, cur, a, b, r⟩ => ⟨g, cap, cur, a, Nat.le_trans hsz b, r⟩⟩
set_option maxRecDepth 100000 in
set_option maxHeartbeats 2000000 in
theorem list_any (bt : Nat) (T : List SesP) (own : List Nat) (w : World) (h : Tab w bt T own) (hT : T.length ≤ 2097152) : Calls Tryz.prog 30 #[.pointer (some ⟨bt, 0, none⟩)] w (ListPost T w) := by
  obtain ⟨bm, E, h, rfl⟩ := h
  rw [List.length_map] at hT
  have hbt : bt < w.heap.size := h.lt bt h.bt_
  have hbm : bm < w.heap.size := h.lt bm h.bm_
  have k0 : w.cell? ⟨bt, 0, none⟩ = some (.map (some bm)) := by rw [cellH h.cell]; rfl
  have cS := sortedC_any bm _ w h.map (by rw [List.length_map]; omega)
  rw [List.map_map] at cS
  have hone := h.one
  rw [List.map_map] at hone
  obtain ⟨S, HS⟩ : ∃ S, Hid (sortI (E.map (fun e => e.1.1)) = S) := ⟨_, Lib.hid rfl⟩
  have e : sortI (E.map ((fun x => x.1) ∘ fun e => (e.1.1, entV e))) = S := HS.out
  rw [e] at cS
  have HP := Lib.hid (show S.Perm (E.map fun e => e.1.1) by rw [← HS.out]; exact sortI_perm _)
  have HSN := Lib.hid (show S.Nodup by rw [HP.out.nodup_iff]; exact hone)
  have HSS := Lib.hid (show S.Pairwise (fun a b => a ≤ b) by rw [← HS.out]; exact sortI_sorted _)
  have HSL := Lib.hid (show S.length ≤ 2097152 by rw [HP.out.length_eq, List.length_map]; exact hT)
  have cK := keysC_any (some bm) w
  have HT := Lib.hid h; have HONE := Lib.hid hone
  clear e h hone
  go_enter Tryz.func30, Tryz.ntmps30
  go_wp2_with fail
  refine cK.mono ?_
  rintro e w' ⟨rfl, rfl⟩
  go_wp2_with fail
  refine cS.mono ?_
  rintro e w1 ⟨A1, c1, rfl, hv1, hb1⟩
  rw [World.size_alloc] at hv1 hb1
  have HV1 := Lib.hid hv1
  have hbw1 : Below w.heap.size w w1 := ((Below.refl _ w).alloc (Nat.le_refl _) _).trans (hb1.mono (by omega))
  have HB1 := Lib.hid hbw1
  have HZ1 := Lib.hid hb1.size
  clear hv1 hb1 hbw1 cK cS k0
  go_wp2_with fail
  go_loopw [3, 15] (fun v i wr => LsR E S w w1 A1 c1 v i wr) (fun _ i _ => S.length - (RowKit.intOf i).toNat)
  case atStart => exact ⟨0, [], none, 0, rfl, Nat.zero_le _, rfl, rfl, World.ownsRow_nil _ _ _ _, (fun z hz => by cases hz), rfl, HB1.out, HV1.out, Nat.le_refl _⟩
  case round =>
    obtain ⟨k, Z, A, c, rfl, hk, hzl, rfl, hrow, hent, hids, hb, hvS, hsz⟩ := hrel
    have HROW := Lib.hid hrow; have HENT := Lib.hid hent; have HIDS := Lib.hid hids; have HB := Lib.hid hb; have HVS := Lib.hid hvS; have HSZ := Lib.hid hsz
    have HZL := Lib.hid hzl
    clear hrow hent hids hb hsz hzl
    have hSL := HSL.out
    by_cases hlt : k < S.length
    · obtain ⟨g1, hA1, hg1, z1⟩ := row_at hvS rfl hlt
      subst hA1
      have hkl : ((k : Nat) : Int) < (S.length : Int) := by omega
      have hmS : S[k]! ∈ E.map fun e => e.1.1 := HP.out.mem_iff.1 (by rw [getElem!_pos S k hlt]; exact List.getElem_mem _)
      obtain ⟨e0, he0, ee0⟩ := List.mem_map.1 hmS
      have h1 := HT.out.below HB.out
      have hwi : wfI S[k]! := by rw [← ee0]; exact (h1.ent e0 he0).1
      obtain ⟨⟨⟨i9, t9, A9, n9, c9⟩, l9⟩, he, e1, hl⟩ := h1.get hwi ⟨e0, he0, ee0⟩
      have r1 := hl wr rfl
      have hent := h1.ent _ he
      have hl9 : l9.length = n9 := hent.2.2.1
      have HL9 := Lib.hid hl9
      have HN9 := Lib.hid (show n9 ≤ 1048576 by have := hent.2.2.2.2.1; simp only at this; omega)
      have HMEM := Lib.hid (show toP ((i9, t9, A9, n9, c9), l9) ∈ E.map toP from List.mem_map.2 ⟨_, he, rfl⟩)
      have HTK := Lib.hid (show S.take (k + 1) = S.take k ++ [i9] by rw [take_bang hlt, ← e1])
      have cO := sesOwn_any i9 t9 A9 n9 c9 l9 wr (hent.sl h1.lt) hent.2.2.2.1.1 HN9.out
      have kbt : wr.cell? ⟨bt, 0, none⟩ = some (.map (some bm)) := by rw [cellH h1.cell]; rfl
      unfold entV at r1
      dsimp only at r1
      clear hvS hmS he0 ee0 h1 hwi hl hent hl9 e1 he
      generalize S[k]! = x at *
      go_wp2_with fail
      refine cO.mono ?_
      rintro e w3 ⟨⟨A3, c3, rfl, hr3⟩, hb3⟩
      have hb4 : Below w3.heap.size w3 (w3.alloc (.cells #[.int .i64 i9, .int .i32 t9, .slice A3 n9 c3] 56)) := (Below.refl _ w3).alloc (Nat.le_refl _) _
      have HROW4 := Lib.hid (own_later (own_later HROW.out hb3) hb4)
      have HVS4 := Lib.hid (own_later (own_later HVS.out hb3) hb4)
      have HENT4 := Lib.hid (show ∀ z ∈ Z ++ [(((i9, t9, A3, n9, c3), l9) : EntV)], toP z ∈ E.map toP ∧ RowId (w3.alloc (.cells #[.int .i64 i9, .int .i32 t9, .slice A3 n9 c3] 56)) w.heap.size z.1.2.2.1 z.1.2.2.2.1 z.1.2.2.2.2 z.2 ∧ z.2.length = z.1.2.2.2.1 ∧ z.1.2.2.2.1 ≤ 1048576 from fun z hz => by
        rcases List.mem_append.1 hz with hz | hz
        · obtain ⟨q1, q2, q3, q4⟩ := HENT.out z hz
          exact ⟨q1, own_later (own_later q2 hb3) hb4, q3, q4⟩
        · rw [List.mem_singleton.1 hz]
          exact ⟨HMEM.out, own_later (hr3.base HB.out.size) hb4, HL9.out, HN9.out⟩)
      have HB4 := Lib.hid (HB.out.trans ((hb3.trans (hb4.mono hb3.size)).mono HB.out.size))
      have HS2 := Lib.hid (show Sl (w3.alloc (.cells #[.int .i64 i9, .int .i32 t9, .slice A3 n9 c3] 56)) (w3.alloc (.cells #[.int .i64 i9, .int .i32 t9, .slice A3 n9 c3] 56)).heap.size encS 3 (some ⟨w3.heap.size, 0, none⟩) 1 [((i9, t9, A3, n9, c3) : SesV)] from
        ⟨rfl, fun _ => ⟨w3.heap.size, 0, rfl, by simp, fun j hj i u hu => by
          have hj0 : j = 0 := by omega
          subst hj0
          rw [cellH (heap_alloc_new w3 (.cells #[.int .i64 i9, .int .i32 t9, .slice A3 n9 c3] 56))]
          match i, hu with
          | 0, hu => exact hu
          | 1, hu => exact hu
          | 2, hu => exact hu⟩⟩)
      have HBZ := Lib.hid (show w1.heap.size ≤ (w3.alloc (.cells #[.int .i64 i9, .int .i32 t9, .slice A3 n9 c3] 56)).heap.size from Nat.le_trans HSZ.out (Nat.le_trans hb3.size hb4.size))
      have HW1 := Lib.hid (Nat.le_trans HB1.out.size (Nat.le_refl _))
      clear hr3 hb3 hb4 kbt r1
      go_wp2_with (at_builtin; refine wpList_appS elemSes rfl _ _ rfl w1.heap.size A k c (Z.map (·.1)) ?hx HROW4.out ⟨w3.heap.size, 0, none⟩ 1 1 [((i9, t9, A3, n9, c3) : SesV)] ?hy HS2.out (by omega) HBZ.out ?hk)
      (try case hx => rfl)
      (try case hy => rfl)
      case hk =>
        intro A6 c6 w6 hv6 hg6
        have HB6 := Lib.hid (HB4.out.trans ((own_belowG HROW4.out hg6 HBZ.out).mono HW1.out))
        have HV6 := Lib.hid (row_grown HVS4.out HROW4.out hg6 (by decide))
        have HE6 := Lib.hid (show ∀ z ∈ Z ++ [(((i9, t9, A3, n9, c3), l9) : EntV)], toP z ∈ E.map toP ∧ RowId w6 w.heap.size z.1.2.2.1 z.1.2.2.2.1 z.1.2.2.2.2 z.2 ∧ z.2.length = z.1.2.2.2.1 ∧ z.1.2.2.2.1 ≤ 1048576 from fun z hz => by
          obtain ⟨q1, q2, q3, q4⟩ := HENT4.out z hz
          exact ⟨q1, row_grown q2 HROW4.out hg6 (by decide), q3, q4⟩)
        have HR6 := Lib.hid (show w6.ownsRow w1.heap.size 56 3 (.slice A6 (k + 1) c6) (k + 1) (((Z ++ [(((i9, t9, A3, n9, c3), l9) : EntV)]).map (·.1)).flatMap encS) by rw [List.map_append, List.flatMap_append]; simpa using hv6)
        have HZ6 := Lib.hid (Nat.le_trans HBZ.out hg6.size)
        clear hv6 hg6
        go_wp2_with fail
        go_roundw
        case rel => exact ⟨k + 1, Z ++ [((i9, t9, A3, n9, c3), l9)], A6, c6, by go_num, by omega, by rw [List.length_append, HZL.out]; rfl, rfl, HR6.out, HE6.out, by rw [List.map_append, HIDS.out, HTK.out]; rfl, HB6.out, HV6.out, HZ6.out⟩
        case measure => simp [RowKit.intOf]; omega
    · have hkl : ¬ ((k : Nat) : Int) < (S.length : Int) := by omega
      have HC := Lib.hid (show ListPost (E.map toP) w (.returned (.slice A k c)) wr from list_close HP.out HSN.out HSS.out HONE.out (by omega) HROW.out HENT.out HIDS.out HB.out HZL.out HB1.out.size)
      clear hvS
      go_wp2_with fail
      go_ret
      exact HC.out
end Go.Proofs.YtfnigjeklcagnaaGreatDoor
