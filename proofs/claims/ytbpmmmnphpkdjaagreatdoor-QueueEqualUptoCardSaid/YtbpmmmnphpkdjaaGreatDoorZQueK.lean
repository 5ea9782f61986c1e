/- The walks of the queue's Acked, Get, First, Commit. Condition: as at Ready; a proposal's lists have at most 2^20. The walk of the queue's Clear. Condition: as at Ready. The walk of queue.New. No condition. -/
import Derived.Test.YtbpmmmnphpkdjaaGreatDoorZQueH
import Derived.Laws.OwnMore
namespace Go.Proofs.YtbpmmmnphpkdjaaGreatDoor
open Go.RowKit Go.MapKept Go.Maps
theorem results_cellT {fn : Func} {p q : Tmp} {ty : TypeId} (h : fn.results = #[.cell p ty, .tmp q]) (tmps : Array Value) (P : Program) (w : World) :
    (results fn tmps).run P w = ((asAddr (tmps.getD p undef)).run P w).andThen fun a w₁ => ((loadVar ty a).run P w₁).andThen fun v w₂ => .ok (.tuple #[v, tmps.getD q undef]) w₂ := by
  simp only [results, h]
  simp [Sem.run_bind, Result.andThen]
/-- a function's end whose results are a struct in a variable and a value -/
theorem bodyPost_cellT {P : Program} {fn : Func} {Q : Ending → World → Prop} {a : Act} {w : World} {p q : Tmp} {ty t : TypeId} {g : Nat} {cs : Array Value} {d : TypeDesc} {v : Value} (h : fn.results = #[.cell p ty, .tmp q]) (hx : a.tmps.getD p undef = .pointer (some ⟨g, 0, none⟩))
    (hv : a.tmps.getD q undef = v) (hg : w.heap[g]? = some (.cells cs t (0, 0))) (hu : P.underlying ty = some d) (hd : d.isRow = true) (hi : (P.info? ty).map (·.size) = some cs.size) (hdf : a.defers = []) (hq : Q (.returned (.tuple #[.agg cs, v])) w) : bodyPost P fn Q .ret a w := by
  refine bodyPost_ret ((results_cellT h _ _ _).trans ?_) hdf hq
  have h1 := res_cell (P := P) (w := w) hx hg hu hd hi
  rw [hv]
  cases hx2 : (asAddr (a.tmps.getD p undef)).run P w with
  | ok ad w1 =>
    rw [hx2] at h1
    simp only [Result.andThen_ok] at h1 ⊢
    rw [h1]; rfl
  | _ => rw [hx2] at h1; cases h1
def ackedZ (st : QuT) (v : Int) : Int := if 0 ≤ v ∧ v < st.acked.length then st.acked[v.toNat]! else 0
set_option maxRecDepth 100000 in
theorem acked_any (bq : Nat) (x : QuX) (R : Nat → Prop) (st : QuT) (v : Int) (w : World) (hq : QuAt w bq x R st) : Calls Tryz.prog 39 #[.pointer (some ⟨bq, 0, none⟩), .int .i64 v] w (RetV (.int .i64 (ackedZ st v)) w) := by
  by_cases h0 : v < 0
  · have HZ := Lib.hid (show ackedZ st v = 0 from if_neg (by omega))
    have b0 : decide (v < 0) = true := decide_eq_true h0
    clear hq h0
    go_enter Tryz.func39, Tryz.ntmps39
    go_wp2_with fail
    go_ret
    exact RetV.mk (by rw [HZ.out]; rfl) 0 rfl
  · have b0 : decide (v < 0) = false := decide_eq_false h0
    by_cases h1 : (st.acked.length : Int) ≤ v
    · have HZ := Lib.hid (show ackedZ st v = 0 from if_neg (by omega))
      have b1 : decide ((st.acked.length : Int) ≤ v) = true := decide_eq_true h1
      have c5 : w.cell? ⟨bq, 5, none⟩ = some (.slice x.aA st.acked.length x.ac) := by rw [cellH hq.box]; rfl
      clear hq h0 h1
      go_enter Tryz.func39, Tryz.ntmps39
      go_wp2_with fail
      go_ret
      exact RetV.mk (by rw [HZ.out]; rfl) 0 rfl
    · obtain ⟨k, rfl⟩ : ∃ k : Nat, v = (k : Int) := ⟨v.toNat, by omega⟩
      have hk : k < st.acked.length := by omega
      have HZ := Lib.hid (show ackedZ st k = st.acked[k]! from if_pos (by omega))
      have b1 : decide (st.acked.length ≤ k) = false := decide_eq_false (by omega)
      have hA : x.aA = some ⟨x.ga, 0, none⟩ ∧ w.there x.ga 0 st.acked.length ∧ ∀ j, j < st.acked.length → w.cell? ⟨x.ga, j, none⟩ = some (.int .i64 st.acked[j]!) := by
        rcases hq.ack with h | h
        · omega
        · exact h
      have c5 : w.cell? ⟨bq, 5, none⟩ = some (.slice (some ⟨x.ga, 0, none⟩) st.acked.length x.ac) := by rw [cellH hq.box, hA.1]; rfl
      have ck := hA.2.2 k hk
      clear hq h0 h1 hA
      generalize st.acked[k]! = y at *
      go_enter Tryz.func39, Tryz.ntmps39
      go_wp2_with fail
      go_ret
      exact RetV.mk (by rw [HZ.out]; rfl) 0 rfl
def GetOk (t : PrT) (w : World) (e : Ending) (w' : World) : Prop := (∃ h', e = .returned (.tuple #[prV h', .bool true]) ∧ PrAt w' (w.heap.size ≤ ·) h' t) ∧ Below w.heap.size w w'
def GetNo (w : World) (e : Ending) (w' : World) : Prop := e = .returned (.tuple #[prV default, .bool false]) ∧ Below w.heap.size w w'
set_option linter.unusedSimpArgs false in
set_option maxRecDepth 100000 in
set_option maxHeartbeats 20000000 in
theorem get_no (bq : Nat) (x : QuX) (R : Nat → Prop) (st : QuT) (i : Int) (w : World) (hq : QuAt w bq x R st) (hi : i < 0 ∨ (st.L.length : Int) ≤ i) : Calls Tryz.prog 37 #[.pointer (some ⟨bq, 0, none⟩), .int .i64 i] w (GetNo w) := by
  have HG0 := Lib.hid (heap_s0 w (.cells #[.int .i64 0, .int .i32 0, .int .i64 0, .int .i64 0, .int .i32 0, .string ⟨#[]⟩, .slice none 0 0, .slice none 0 0, .int .i64 0, .int .i32 0, .int .i32 0, .bool false, .int .i64 0, .int .i64 0, .int .i64 0, .int .i32 0, .slice none 0 0, .slice none 0 0, .int .i32 0, .slice none 0 0, .int .i32 0, .int .i64 0, .int .i32 0, .int .i32 0, .int .i32 0, .string ⟨#[]⟩, .int .i64 0, .int .i64 0, .int .i64 0, .int .i64 0, .int .i32 0, .int .i32 0, .int .i32 0, .int .i64 0, .int .i32 0, .int .i32 0, .int .i64 0, .slice none 0 0, .slice none 0 0, .slice none 0 0, .int .i32 0, .int .i64 0, .int .i32 0, .slice none 0 0, .slice none 0 0] 63))
  have hb1 : Below w.heap.size w (w.alloc (.cells #[.int .i64 0, .int .i32 0, .int .i64 0, .int .i64 0, .int .i32 0, .string ⟨#[]⟩, .slice none 0 0, .slice none 0 0, .int .i64 0, .int .i32 0, .int .i32 0, .bool false, .int .i64 0, .int .i64 0, .int .i64 0, .int .i32 0, .slice none 0 0, .slice none 0 0, .int .i32 0, .slice none 0 0, .int .i32 0, .int .i64 0, .int .i32 0, .int .i32 0, .int .i32 0, .string ⟨#[]⟩, .int .i64 0, .int .i64 0, .int .i64 0, .int .i64 0, .int .i32 0, .int .i32 0, .int .i32 0, .int .i64 0, .int .i32 0, .int .i32 0, .int .i64 0, .slice none 0 0, .slice none 0 0, .slice none 0 0, .int .i32 0, .int .i64 0, .int .i32 0, .slice none 0 0, .slice none 0 0] 63)) := (Below.refl _ w).alloc (Nat.le_refl _) _
  have HCL := Lib.hid (queLen_any bq x R st _ (hq.below hb1))
  have HB1 := Lib.hid hb1
  generalize st.L.length = n at *
  by_cases h0 : i < 0
  · have b0 : decide (i < 0) = true := decide_eq_true h0
    clear hq hb1 hi h0
    go_enter Tryz.func37, Tryz.ntmps37
    go_wp2_with (first
      | (refine wpList_bd63 rfl rfl ?_)
      | (apply wpList_storeTop 63 63; exact rfl; exact rfl; exact rfl; (first | (with_reducible rfl) | (exact sz1 _ _) | (exact sz2 _ _ _) | (exact sz3 _ _ _ _)); exact rfl; exact infPr; exact rfl; (first | exact onePr _ | simp [Value.oneCell']))
      | fail)
    refine bodyPost_cellT rfl rfl rfl HG0.out undPr rfl infPr rfl ⟨rfl, HB1.out⟩
  · have b0 : decide (i < 0) = false := decide_eq_false h0
    have b1 : decide ((n : Int) ≤ i) = true := decide_eq_true (by omega)
    clear hq hb1 hi h0
    go_enter Tryz.func37, Tryz.ntmps37
    go_wp2_with fail
    refine HCL.out.mono ?_
    rintro e w2 ⟨rfl, q, rfl⟩
    have hg2 : ((w.alloc (.cells #[.int .i64 0, .int .i32 0, .int .i64 0, .int .i64 0, .int .i32 0, .string ⟨#[]⟩, .slice none 0 0, .slice none 0 0, .int .i64 0, .int .i32 0, .int .i32 0, .bool false, .int .i64 0, .int .i64 0, .int .i64 0, .int .i32 0, .slice none 0 0, .slice none 0 0, .int .i32 0, .slice none 0 0, .int .i32 0, .int .i64 0, .int .i32 0, .int .i32 0, .int .i32 0, .string ⟨#[]⟩, .int .i64 0, .int .i64 0, .int .i64 0, .int .i64 0, .int .i32 0, .int .i32 0, .int .i32 0, .int .i64 0, .int .i32 0, .int .i32 0, .int .i64 0, .slice none 0 0, .slice none 0 0, .slice none 0 0, .int .i32 0, .int .i64 0, .int .i32 0, .slice none 0 0, .slice none 0 0] 63)).drewN q).heap[w.heap.size]? = some (.cells #[.int .i64 0, .int .i32 0, .int .i64 0, .int .i64 0, .int .i32 0, .string ⟨#[]⟩, .slice none 0 0, .slice none 0 0, .int .i64 0, .int .i32 0, .int .i32 0, .bool false, .int .i64 0, .int .i64 0, .int .i64 0, .int .i32 0, .slice none 0 0, .slice none 0 0, .int .i32 0, .slice none 0 0, .int .i32 0, .int .i64 0, .int .i32 0, .int .i32 0, .int .i32 0, .string ⟨#[]⟩, .int .i64 0, .int .i64 0, .int .i64 0, .int .i64 0, .int .i32 0, .int .i32 0, .int .i32 0, .int .i64 0, .int .i32 0, .int .i32 0, .int .i64 0, .slice none 0 0, .slice none 0 0, .slice none 0 0, .int .i32 0, .int .i64 0, .int .i32 0, .slice none 0 0, .slice none 0 0] 63 (0, 0)) := HG0.out
    go_wp2_with (first
      | (refine wpList_bd63 rfl rfl ?_)
      | (apply wpList_storeRow 63 63; exact rfl; exact rfl; exact rfl; exact rfl; (first | assumption | (refine heap_under ?_; assumption) | (exact heap_s0 _ _) | (exact heap_s1 _ _ _) | (exact heap_s2 _ _ _ _) | (exact heap_s3 _ _ _ _ _) | (exact heap_under (heap_s0 _ _)) | (exact heap_under (heap_s1 _ _ _)) | (exact heap_under (heap_s2 _ _ _ _)) | (exact heap_under (heap_under (heap_s0 _ _))) | (exact heap_under (heap_under (heap_s1 _ _ _))) | (exact heap_under (heap_under (heap_under (heap_s0 _ _))))); exact infPr; exact rfl; (first | exact onePr _ | simp [Value.oneCell']))
      | fail)
    refine bodyPost_cellT rfl rfl rfl (setRow_heap _ _ _ _ _ _ hg2) undPr rfl infPr rfl ⟨rfl, below_setRow (drewN_below HB1.out q) (Nat.le_refl _) _⟩
set_option linter.unusedSimpArgs false in
set_option maxRecDepth 100000 in
set_option maxHeartbeats 20000000 in
theorem get_ok (bq : Nat) (x : QuX) (R : Nat → Prop) (st : QuT) (i : Nat) (w : World) (hq : QuAt w bq x R st) (hi : i < st.L.length) (hsm : PrSm 1048576 st.L[i]!) (hcap : x.cap ≤ 8192) : Calls Tryz.prog 37 #[.pointer (some ⟨bq, 0, none⟩), .int .i64 i] w (GetOk st.L[i]! w) := by
  have HG0 := Lib.hid (heap_s0 w (.cells #[.int .i64 0, .int .i32 0, .int .i64 0, .int .i64 0, .int .i32 0, .string ⟨#[]⟩, .slice none 0 0, .slice none 0 0, .int .i64 0, .int .i32 0, .int .i32 0, .bool false, .int .i64 0, .int .i64 0, .int .i64 0, .int .i32 0, .slice none 0 0, .slice none 0 0, .int .i32 0, .slice none 0 0, .int .i32 0, .int .i64 0, .int .i32 0, .int .i32 0, .int .i32 0, .string ⟨#[]⟩, .int .i64 0, .int .i64 0, .int .i64 0, .int .i64 0, .int .i32 0, .int .i32 0, .int .i32 0, .int .i64 0, .int .i32 0, .int .i32 0, .int .i64 0, .slice none 0 0, .slice none 0 0, .slice none 0 0, .int .i32 0, .int .i64 0, .int .i32 0, .slice none 0 0, .slice none 0 0] 63))
  have HS0 := Lib.hid (sz1 w (.cells #[.int .i64 0, .int .i32 0, .int .i64 0, .int .i64 0, .int .i32 0, .string ⟨#[]⟩, .slice none 0 0, .slice none 0 0, .int .i64 0, .int .i32 0, .int .i32 0, .bool false, .int .i64 0, .int .i64 0, .int .i64 0, .int .i32 0, .slice none 0 0, .slice none 0 0, .int .i32 0, .slice none 0 0, .int .i32 0, .int .i64 0, .int .i32 0, .int .i32 0, .int .i32 0, .string ⟨#[]⟩, .int .i64 0, .int .i64 0, .int .i64 0, .int .i64 0, .int .i32 0, .int .i32 0, .int .i32 0, .int .i64 0, .int .i32 0, .int .i32 0, .int .i64 0, .slice none 0 0, .slice none 0 0, .slice none 0 0, .int .i32 0, .int .i64 0, .int .i32 0, .slice none 0 0, .slice none 0 0] 63))
  have hb1 : Below w.heap.size w (w.alloc (.cells #[.int .i64 0, .int .i32 0, .int .i64 0, .int .i64 0, .int .i32 0, .string ⟨#[]⟩, .slice none 0 0, .slice none 0 0, .int .i64 0, .int .i32 0, .int .i32 0, .bool false, .int .i64 0, .int .i64 0, .int .i64 0, .int .i32 0, .slice none 0 0, .slice none 0 0, .int .i32 0, .slice none 0 0, .int .i32 0, .int .i64 0, .int .i32 0, .int .i32 0, .int .i32 0, .string ⟨#[]⟩, .int .i64 0, .int .i64 0, .int .i64 0, .int .i64 0, .int .i32 0, .int .i32 0, .int .i32 0, .int .i64 0, .int .i32 0, .int .i32 0, .int .i64 0, .slice none 0 0, .slice none 0 0, .slice none 0 0, .int .i32 0, .int .i64 0, .int .i32 0, .slice none 0 0, .slice none 0 0] 63)) := (Below.refl _ w).alloc (Nat.le_refl _) _
  have HCL := Lib.hid (queLen_any bq x R st _ (hq.below hb1))
  have b0 : decide ((i : Int) < 0) = false := decide_eq_false (by omega)
  have b1 : decide (st.L.length ≤ i) = false := decide_eq_false (by omega)
  have hle := hq.ring.le
  obtain ⟨hA, hf, -⟩ := hq.ring.full (by omega)
  have HCA := Lib.hid (fun q => by
    have h := at_any bq x.gr x.cap x.first i ((w.alloc (.cells #[.int .i64 0, .int .i32 0, .int .i64 0, .int .i64 0, .int .i32 0, .string ⟨#[]⟩, .slice none 0 0, .slice none 0 0, .int .i64 0, .int .i32 0, .int .i32 0, .bool false, .int .i64 0, .int .i64 0, .int .i64 0, .int .i32 0, .slice none 0 0, .slice none 0 0, .int .i32 0, .slice none 0 0, .int .i32 0, .int .i64 0, .int .i32 0, .int .i32 0, .int .i32 0, .string ⟨#[]⟩, .int .i64 0, .int .i64 0, .int .i64 0, .int .i64 0, .int .i32 0, .int .i32 0, .int .i32 0, .int .i64 0, .int .i32 0, .int .i32 0, .int .i64 0, .slice none 0 0, .slice none 0 0, .slice none 0 0, .int .i32 0, .int .i64 0, .int .i32 0, .slice none 0 0, .slice none 0 0] 63)).drewN q) (by show (w.alloc (.cells #[.int .i64 0, .int .i32 0, .int .i64 0, .int .i64 0, .int .i32 0, .string ⟨#[]⟩, .slice none 0 0, .slice none 0 0, .int .i64 0, .int .i32 0, .int .i32 0, .bool false, .int .i64 0, .int .i64 0, .int .i64 0, .int .i32 0, .slice none 0 0, .slice none 0 0, .int .i32 0, .slice none 0 0, .int .i32 0, .int .i64 0, .int .i32 0, .int .i32 0, .int .i32 0, .string ⟨#[]⟩, .int .i64 0, .int .i64 0, .int .i64 0, .int .i64 0, .int .i32 0, .int .i32 0, .int .i32 0, .int .i64 0, .int .i32 0, .int .i32 0, .int .i64 0, .slice none 0 0, .slice none 0 0, .slice none 0 0, .int .i32 0, .int .i64 0, .int .i32 0, .slice none 0 0, .slice none 0 0] 63)).cell? _ = _; rw [cellH (hq.below hb1).box, hA]; rfl) (by show (w.alloc (.cells #[.int .i64 0, .int .i32 0, .int .i64 0, .int .i64 0, .int .i32 0, .string ⟨#[]⟩, .slice none 0 0, .slice none 0 0, .int .i64 0, .int .i32 0, .int .i32 0, .bool false, .int .i64 0, .int .i64 0, .int .i64 0, .int .i32 0, .slice none 0 0, .slice none 0 0, .int .i32 0, .slice none 0 0, .int .i32 0, .int .i64 0, .int .i32 0, .int .i32 0, .int .i32 0, .string ⟨#[]⟩, .int .i64 0, .int .i64 0, .int .i64 0, .int .i64 0, .int .i32 0, .int .i32 0, .int .i32 0, .int .i64 0, .int .i32 0, .int .i32 0, .int .i64 0, .slice none 0 0, .slice none 0 0, .slice none 0 0, .int .i32 0, .int .i64 0, .int .i32 0, .slice none 0 0, .slice none 0 0] 63)).cell? _ = _; rw [cellH (hq.below hb1).box]; rfl) hf (by omega) (by omega)
    exact h)
  obtain ⟨h, hr, hp⟩ := hq.ring.el i hi
  have HRG := Lib.hid (fun q => show (((w.alloc (.cells #[.int .i64 0, .int .i32 0, .int .i64 0, .int .i64 0, .int .i32 0, .string ⟨#[]⟩, .slice none 0 0, .slice none 0 0, .int .i64 0, .int .i32 0, .int .i32 0, .bool false, .int .i64 0, .int .i64 0, .int .i64 0, .int .i32 0, .slice none 0 0, .slice none 0 0, .int .i32 0, .slice none 0 0, .int .i32 0, .int .i64 0, .int .i32 0, .int .i32 0, .int .i32 0, .string ⟨#[]⟩, .int .i64 0, .int .i64 0, .int .i64 0, .int .i64 0, .int .i32 0, .int .i32 0, .int .i32 0, .int .i64 0, .int .i32 0, .int .i32 0, .int .i64 0, .slice none 0 0, .slice none 0 0, .slice none 0 0, .int .i32 0, .int .i64 0, .int .i32 0, .slice none 0 0, .slice none 0 0] 63)).drewN q).drew).rangeAt x.gr (((x.first + i) % x.cap) * 45) (encPr h) from range_below hr ((drewN_below hb1 q).drew))
  have HCO := Lib.hid (fun (W : World) (hW : Below w.heap.size w W) => prOwn_any h st.L[i]! W R (hp.fr (Fr.of_below (own := []) hW) (fun b _ hb => ⟨by simp, hb⟩)) hsm)
  have HB1 := Lib.hid hb1
  generalize st.L.length = n at *
  generalize st.L[i]! = t at *
  generalize (x.first + i) % x.cap = m at *
  clear hq hb1 hi hA hf hr hp hle
  go_enter Tryz.func37, Tryz.ntmps37
  go_wp2_with fail
  refine HCL.out.mono ?_
  rintro e w2 ⟨rfl, q, rfl⟩
  go_wp2_with fail
  refine (HCA.out q).mono ?_
  rintro e w2 ⟨rfl, rfl⟩
  have hrg := HRG.out q
  have HB2 := Lib.hid (show Below w.heap.size w ((w.alloc (.cells #[.int .i64 0, .int .i32 0, .int .i64 0, .int .i64 0, .int .i32 0, .string ⟨#[]⟩, .slice none 0 0, .slice none 0 0, .int .i64 0, .int .i32 0, .int .i32 0, .bool false, .int .i64 0, .int .i64 0, .int .i64 0, .int .i32 0, .slice none 0 0, .slice none 0 0, .int .i32 0, .slice none 0 0, .int .i32 0, .int .i64 0, .int .i32 0, .int .i32 0, .int .i32 0, .string ⟨#[]⟩, .int .i64 0, .int .i64 0, .int .i64 0, .int .i64 0, .int .i32 0, .int .i32 0, .int .i32 0, .int .i64 0, .int .i32 0, .int .i32 0, .int .i64 0, .slice none 0 0, .slice none 0 0, .slice none 0 0, .int .i32 0, .int .i64 0, .int .i32 0, .slice none 0 0, .slice none 0 0] 63)).drewN q).drew from (drewN_below HB1.out q).drew)
  have HG2 := Lib.hid (show ((w.alloc (.cells #[.int .i64 0, .int .i32 0, .int .i64 0, .int .i64 0, .int .i32 0, .string ⟨#[]⟩, .slice none 0 0, .slice none 0 0, .int .i64 0, .int .i32 0, .int .i32 0, .bool false, .int .i64 0, .int .i64 0, .int .i64 0, .int .i32 0, .slice none 0 0, .slice none 0 0, .int .i32 0, .slice none 0 0, .int .i32 0, .int .i64 0, .int .i32 0, .int .i32 0, .int .i32 0, .string ⟨#[]⟩, .int .i64 0, .int .i64 0, .int .i64 0, .int .i64 0, .int .i32 0, .int .i32 0, .int .i32 0, .int .i64 0, .int .i32 0, .int .i32 0, .int .i64 0, .slice none 0 0, .slice none 0 0, .slice none 0 0, .int .i32 0, .int .i64 0, .int .i32 0, .slice none 0 0, .slice none 0 0] 63)).drewN q).drew.heap[w.heap.size]? = some (.cells #[.int .i64 0, .int .i32 0, .int .i64 0, .int .i64 0, .int .i32 0, .string ⟨#[]⟩, .slice none 0 0, .slice none 0 0, .int .i64 0, .int .i32 0, .int .i32 0, .bool false, .int .i64 0, .int .i64 0, .int .i64 0, .int .i32 0, .slice none 0 0, .slice none 0 0, .int .i32 0, .slice none 0 0, .int .i32 0, .int .i64 0, .int .i32 0, .int .i32 0, .int .i32 0, .string ⟨#[]⟩, .int .i64 0, .int .i64 0, .int .i64 0, .int .i64 0, .int .i32 0, .int .i32 0, .int .i32 0, .int .i64 0, .int .i32 0, .int .i32 0, .int .i64 0, .slice none 0 0, .slice none 0 0, .slice none 0 0, .int .i32 0, .int .i64 0, .int .i32 0, .slice none 0 0, .slice none 0 0] 63 (0, 0)) from HG0.out)
  have HS2 := Lib.hid (show ((w.alloc (.cells #[.int .i64 0, .int .i32 0, .int .i64 0, .int .i64 0, .int .i32 0, .string ⟨#[]⟩, .slice none 0 0, .slice none 0 0, .int .i64 0, .int .i32 0, .int .i32 0, .bool false, .int .i64 0, .int .i64 0, .int .i64 0, .int .i32 0, .slice none 0 0, .slice none 0 0, .int .i32 0, .slice none 0 0, .int .i32 0, .int .i64 0, .int .i32 0, .int .i32 0, .int .i32 0, .string ⟨#[]⟩, .int .i64 0, .int .i64 0, .int .i64 0, .int .i64 0, .int .i32 0, .int .i32 0, .int .i32 0, .int .i64 0, .int .i32 0, .int .i32 0, .int .i64 0, .slice none 0 0, .slice none 0 0, .slice none 0 0, .int .i32 0, .int .i64 0, .int .i32 0, .slice none 0 0, .slice none 0 0] 63)).drewN q).drew.heap.size = w.heap.size + 1 from HS0.out)
  generalize ((w.alloc (.cells #[.int .i64 0, .int .i32 0, .int .i64 0, .int .i64 0, .int .i32 0, .string ⟨#[]⟩, .slice none 0 0, .slice none 0 0, .int .i64 0, .int .i32 0, .int .i32 0, .bool false, .int .i64 0, .int .i64 0, .int .i64 0, .int .i32 0, .slice none 0 0, .slice none 0 0, .int .i32 0, .slice none 0 0, .int .i32 0, .int .i64 0, .int .i32 0, .int .i32 0, .int .i32 0, .string ⟨#[]⟩, .int .i64 0, .int .i64 0, .int .i64 0, .int .i64 0, .int .i32 0, .int .i32 0, .int .i32 0, .int .i64 0, .int .i32 0, .int .i32 0, .int .i64 0, .slice none 0 0, .slice none 0 0, .slice none 0 0, .int .i32 0, .int .i64 0, .int .i32 0, .slice none 0 0, .slice none 0 0] 63)).drewN q).drew = W2 at *
  go_wp2_with (first
    | (apply wpList_loadMid 63; exact rfl; exact rfl; exact rfl; assumption; exact undPr; exact rfl; exact infPr)
    | fail)
  refine (HCO.out W2 HB2.out).mono ?_
  rintro e w3 ⟨⟨h3, rfl, hat⟩, hb3⟩
  have HAT := Lib.hid hat
  have hg3 := (hb3.block w.heap.size (by have := HS2.out; omega)).trans HG2.out
  have HB3 := Lib.hid (HB2.out.trans (hb3.mono HB2.out.size))
  have HG3 := Lib.hid hg3
  clear hat hb3 hrg
  go_wp2_with (first
    | (apply wpList_storeRow 63 63; exact rfl; exact rfl; exact rfl; exact rfl; (first | assumption | (refine heap_under ?_; assumption) | (exact heap_s0 _ _) | (exact heap_s1 _ _ _) | (exact heap_s2 _ _ _ _) | (exact heap_s3 _ _ _ _ _) | (exact heap_under (heap_s0 _ _)) | (exact heap_under (heap_s1 _ _ _)) | (exact heap_under (heap_s2 _ _ _ _)) | (exact heap_under (heap_under (heap_s0 _ _))) | (exact heap_under (heap_under (heap_s1 _ _ _))) | (exact heap_under (heap_under (heap_under (heap_s0 _ _))))); exact infPr; exact rfl; (first | exact onePr _ | simp [Value.oneCell']))
    | fail)
  have hFr := fr_setRow9 w3 w.heap.size (encPr h3).toArray
  exact bodyPost_cellT rfl rfl rfl (setRow_heap _ _ _ _ _ _ HG3.out) undPr rfl infPr rfl ⟨⟨h3, rfl, HAT.out.fr hFr (fun b _ h => ⟨by have := HS2.out; simp; omega, by have := HS2.out; omega⟩)⟩, below_setRow HB3.out (Nat.le_refl _) _⟩

set_option linter.unusedSimpArgs false in
set_option maxRecDepth 100000 in
set_option maxHeartbeats 20000000 in
theorem first_no (bq : Nat) (x : QuX) (R : Nat → Prop) (st : QuT) (w : World) (hq : QuAt w bq x R st) (hi : st.L.length = 0) : Calls Tryz.prog 31 #[.pointer (some ⟨bq, 0, none⟩)] w (GetNo w) := by
  have hb1 : Below w.heap.size w (w.alloc (.cells #[.int .i64 0, .int .i32 0, .int .i64 0, .int .i64 0, .int .i32 0, .string ⟨#[]⟩, .slice none 0 0, .slice none 0 0, .int .i64 0, .int .i32 0, .int .i32 0, .bool false, .int .i64 0, .int .i64 0, .int .i64 0, .int .i32 0, .slice none 0 0, .slice none 0 0, .int .i32 0, .slice none 0 0, .int .i32 0, .int .i64 0, .int .i32 0, .int .i32 0, .int .i32 0, .string ⟨#[]⟩, .int .i64 0, .int .i64 0, .int .i64 0, .int .i64 0, .int .i32 0, .int .i32 0, .int .i32 0, .int .i64 0, .int .i32 0, .int .i32 0, .int .i64 0, .slice none 0 0, .slice none 0 0, .slice none 0 0, .int .i32 0, .int .i64 0, .int .i32 0, .slice none 0 0, .slice none 0 0] 63)) := (Below.refl _ w).alloc (Nat.le_refl _) _
  have HCG := Lib.hid (get_no bq x R st 0 _ (hq.below hb1) (.inr (by omega)))
  have HG0 := Lib.hid (heap_s0 w (.cells #[.int .i64 0, .int .i32 0, .int .i64 0, .int .i64 0, .int .i32 0, .string ⟨#[]⟩, .slice none 0 0, .slice none 0 0, .int .i64 0, .int .i32 0, .int .i32 0, .bool false, .int .i64 0, .int .i64 0, .int .i64 0, .int .i32 0, .slice none 0 0, .slice none 0 0, .int .i32 0, .slice none 0 0, .int .i32 0, .int .i64 0, .int .i32 0, .int .i32 0, .int .i32 0, .string ⟨#[]⟩, .int .i64 0, .int .i64 0, .int .i64 0, .int .i64 0, .int .i32 0, .int .i32 0, .int .i32 0, .int .i64 0, .int .i32 0, .int .i32 0, .int .i64 0, .slice none 0 0, .slice none 0 0, .slice none 0 0, .int .i32 0, .int .i64 0, .int .i32 0, .slice none 0 0, .slice none 0 0] 63)); have HB1 := Lib.hid hb1; have HS0 := Lib.hid (sz1 w (.cells #[.int .i64 0, .int .i32 0, .int .i64 0, .int .i64 0, .int .i32 0, .string ⟨#[]⟩, .slice none 0 0, .slice none 0 0, .int .i64 0, .int .i32 0, .int .i32 0, .bool false, .int .i64 0, .int .i64 0, .int .i64 0, .int .i32 0, .slice none 0 0, .slice none 0 0, .int .i32 0, .slice none 0 0, .int .i32 0, .int .i64 0, .int .i32 0, .int .i32 0, .int .i32 0, .string ⟨#[]⟩, .int .i64 0, .int .i64 0, .int .i64 0, .int .i64 0, .int .i32 0, .int .i32 0, .int .i32 0, .int .i64 0, .int .i32 0, .int .i32 0, .int .i64 0, .slice none 0 0, .slice none 0 0, .slice none 0 0, .int .i32 0, .int .i64 0, .int .i32 0, .slice none 0 0, .slice none 0 0] 63))
  clear hq hi hb1
  go_enter Tryz.func31, Tryz.ntmps31
  go_wp2_with fail
  refine HCG.out.mono ?_
  rintro e w3 ⟨rfl, hb3⟩
  have hg3 := (hb3.block w.heap.size (by have := HS0.out; omega)).trans HG0.out
  have HB3 := Lib.hid (HB1.out.trans (hb3.mono HB1.out.size))
  clear hb3
  go_wp2_with (first
    | (apply wpList_storeRow 63 63; exact rfl; exact rfl; exact rfl; exact rfl; (first | assumption | (refine heap_under ?_; assumption) | (exact heap_s0 _ _) | (exact heap_s1 _ _ _) | (exact heap_s2 _ _ _ _) | (exact heap_s3 _ _ _ _ _) | (exact heap_under (heap_s0 _ _)) | (exact heap_under (heap_s1 _ _ _)) | (exact heap_under (heap_s2 _ _ _ _)) | (exact heap_under (heap_under (heap_s0 _ _))) | (exact heap_under (heap_under (heap_s1 _ _ _))) | (exact heap_under (heap_under (heap_under (heap_s0 _ _))))); exact infPr; exact rfl; (first | exact onePr _ | simp [Value.oneCell']))
    | fail)
  exact bodyPost_cellT rfl rfl rfl (setRow_heap _ _ _ _ _ _ hg3) undPr rfl infPr rfl ⟨rfl, below_setRow HB3.out (Nat.le_refl _) _⟩
set_option linter.unusedSimpArgs false in
set_option maxRecDepth 100000 in
set_option maxHeartbeats 20000000 in
theorem first_ok (bq : Nat) (x : QuX) (R : Nat → Prop) (st : QuT) (w : World) (hq : QuAt w bq x R st) (hi : 0 < st.L.length) (hsm : PrSm 1048576 st.L[0]!) (hcap : x.cap ≤ 8192) : Calls Tryz.prog 31 #[.pointer (some ⟨bq, 0, none⟩)] w (GetOk st.L[0]! w) := by
  have hb1 : Below w.heap.size w (w.alloc (.cells #[.int .i64 0, .int .i32 0, .int .i64 0, .int .i64 0, .int .i32 0, .string ⟨#[]⟩, .slice none 0 0, .slice none 0 0, .int .i64 0, .int .i32 0, .int .i32 0, .bool false, .int .i64 0, .int .i64 0, .int .i64 0, .int .i32 0, .slice none 0 0, .slice none 0 0, .int .i32 0, .slice none 0 0, .int .i32 0, .int .i64 0, .int .i32 0, .int .i32 0, .int .i32 0, .string ⟨#[]⟩, .int .i64 0, .int .i64 0, .int .i64 0, .int .i64 0, .int .i32 0, .int .i32 0, .int .i32 0, .int .i64 0, .int .i32 0, .int .i32 0, .int .i64 0, .slice none 0 0, .slice none 0 0, .slice none 0 0, .int .i32 0, .int .i64 0, .int .i32 0, .slice none 0 0, .slice none 0 0] 63)) := (Below.refl _ w).alloc (Nat.le_refl _) _
  have HCG := Lib.hid (get_ok bq x R st 0 _ (hq.below hb1) hi hsm hcap)
  have HG0 := Lib.hid (heap_s0 w (.cells #[.int .i64 0, .int .i32 0, .int .i64 0, .int .i64 0, .int .i32 0, .string ⟨#[]⟩, .slice none 0 0, .slice none 0 0, .int .i64 0, .int .i32 0, .int .i32 0, .bool false, .int .i64 0, .int .i64 0, .int .i64 0, .int .i32 0, .slice none 0 0, .slice none 0 0, .int .i32 0, .slice none 0 0, .int .i32 0, .int .i64 0, .int .i32 0, .int .i32 0, .int .i32 0, .string ⟨#[]⟩, .int .i64 0, .int .i64 0, .int .i64 0, .int .i64 0, .int .i32 0, .int .i32 0, .int .i32 0, .int .i64 0, .int .i32 0, .int .i32 0, .int .i64 0, .slice none 0 0, .slice none 0 0, .slice none 0 0, .int .i32 0, .int .i64 0, .int .i32 0, .slice none 0 0, .slice none 0 0] 63)); have HB1 := Lib.hid hb1; have HS0 := Lib.hid (sz1 w (.cells #[.int .i64 0, .int .i32 0, .int .i64 0, .int .i64 0, .int .i32 0, .string ⟨#[]⟩, .slice none 0 0, .slice none 0 0, .int .i64 0, .int .i32 0, .int .i32 0, .bool false, .int .i64 0, .int .i64 0, .int .i64 0, .int .i32 0, .slice none 0 0, .slice none 0 0, .int .i32 0, .slice none 0 0, .int .i32 0, .int .i64 0, .int .i32 0, .int .i32 0, .int .i32 0, .string ⟨#[]⟩, .int .i64 0, .int .i64 0, .int .i64 0, .int .i64 0, .int .i32 0, .int .i32 0, .int .i32 0, .int .i64 0, .int .i32 0, .int .i32 0, .int .i64 0, .slice none 0 0, .slice none 0 0, .slice none 0 0, .int .i32 0, .int .i64 0, .int .i32 0, .slice none 0 0, .slice none 0 0] 63))
  generalize st.L[0]! = t at *
  clear hq hi hb1 hsm
  go_enter Tryz.func31, Tryz.ntmps31
  go_wp2_with fail
  refine HCG.out.mono ?_
  rintro e w3 ⟨⟨h3, rfl, hat⟩, hb3⟩
  have hg3 := (hb3.block w.heap.size (by have := HS0.out; omega)).trans HG0.out
  have HB3 := Lib.hid (HB1.out.trans (hb3.mono HB1.out.size))
  have HAT := Lib.hid hat; have HG3 := Lib.hid hg3
  clear hb3 hat hg3
  go_wp2_with (first
    | (apply wpList_storeRow 63 63; exact rfl; exact rfl; exact rfl; exact rfl; (first | assumption | (refine heap_under ?_; assumption) | (exact heap_s0 _ _) | (exact heap_s1 _ _ _) | (exact heap_s2 _ _ _ _) | (exact heap_s3 _ _ _ _ _) | (exact heap_under (heap_s0 _ _)) | (exact heap_under (heap_s1 _ _ _)) | (exact heap_under (heap_s2 _ _ _ _)) | (exact heap_under (heap_under (heap_s0 _ _))) | (exact heap_under (heap_under (heap_s1 _ _ _))) | (exact heap_under (heap_under (heap_under (heap_s0 _ _))))); exact infPr; exact rfl; (first | exact onePr _ | simp [Value.oneCell']))
    | fail)
  have hFr := fr_setRow9 w3 w.heap.size (encPr h3).toArray
  exact bodyPost_cellT rfl rfl rfl (setRow_heap _ _ _ _ _ _ HG3.out) undPr rfl infPr rfl ⟨⟨h3, rfl, HAT.out.fr hFr (fun b _ h => ⟨by have := HS0.out; simp; omega, by have := HS0.out; omega⟩)⟩, below_setRow HB3.out (Nat.le_refl _) _⟩
def commS (st : QuT) : QuT := { st with L := st.L.tail, committed := st.L[0]!.d.zx }
/-- what Commit leaves: the first one, if it is ready -/
def CommP (bq : Nat) (x : QuX) (R : Nat → Prop) (st : QuT) (w : World) (e : Ending) (w' : World) : Prop :=
  (∃ h, e = .returned (.tuple #[prV h, .bool true]) ∧ PrAt w' R h st.L[0]! ∧ QuAt w' bq x.next R (commS st)) ∧ Fr [bq, x.gr] w w'
set_option linter.unusedSimpArgs false in
set_option maxRecDepth 100000 in
set_option maxHeartbeats 20000000 in
theorem commit_no (bq : Nat) (x : QuX) (R : Nat → Prop) (st : QuT) (w : World) (hq : QuAt w bq x R st) (hg : ∀ v ∈ st.vs, wfI v.1) (hn : st.acked.length ≤ 1024) (hr : RiseZ (zxs st.L)) (hl : st.L.length ≤ 4096) (hcap : x.cap ≤ 8192) (h0 : rdN st = 0) :
    Calls Tryz.prog 22 #[.pointer (some ⟨bq, 0, none⟩)] w (GetNo w) := by
  have hb1 : Below w.heap.size w (w.alloc (.cells #[.int .i64 0, .int .i32 0, .int .i64 0, .int .i64 0, .int .i32 0, .string ⟨#[]⟩, .slice none 0 0, .slice none 0 0, .int .i64 0, .int .i32 0, .int .i32 0, .bool false, .int .i64 0, .int .i64 0, .int .i64 0, .int .i32 0, .slice none 0 0, .slice none 0 0, .int .i32 0, .slice none 0 0, .int .i32 0, .int .i64 0, .int .i32 0, .int .i32 0, .int .i32 0, .string ⟨#[]⟩, .int .i64 0, .int .i64 0, .int .i64 0, .int .i64 0, .int .i32 0, .int .i32 0, .int .i32 0, .int .i64 0, .int .i32 0, .int .i32 0, .int .i64 0, .slice none 0 0, .slice none 0 0, .slice none 0 0, .int .i32 0, .int .i64 0, .int .i32 0, .slice none 0 0, .slice none 0 0] 63)) := (Below.refl _ w).alloc (Nat.le_refl _) _
  have HCR := Lib.hid (ready_any bq x R st _ (hq.below hb1) hg hn hr hl hcap)
  rw [h0] at HCR
  have HG0 := Lib.hid (heap_s0 w (.cells #[.int .i64 0, .int .i32 0, .int .i64 0, .int .i64 0, .int .i32 0, .string ⟨#[]⟩, .slice none 0 0, .slice none 0 0, .int .i64 0, .int .i32 0, .int .i32 0, .bool false, .int .i64 0, .int .i64 0, .int .i64 0, .int .i32 0, .slice none 0 0, .slice none 0 0, .int .i32 0, .slice none 0 0, .int .i32 0, .int .i64 0, .int .i32 0, .int .i32 0, .int .i32 0, .string ⟨#[]⟩, .int .i64 0, .int .i64 0, .int .i64 0, .int .i64 0, .int .i32 0, .int .i32 0, .int .i32 0, .int .i64 0, .int .i32 0, .int .i32 0, .int .i64 0, .slice none 0 0, .slice none 0 0, .slice none 0 0, .int .i32 0, .int .i64 0, .int .i32 0, .slice none 0 0, .slice none 0 0] 63)); have HB1 := Lib.hid hb1; have HS0 := Lib.hid (sz1 w (.cells #[.int .i64 0, .int .i32 0, .int .i64 0, .int .i64 0, .int .i32 0, .string ⟨#[]⟩, .slice none 0 0, .slice none 0 0, .int .i64 0, .int .i32 0, .int .i32 0, .bool false, .int .i64 0, .int .i64 0, .int .i64 0, .int .i32 0, .slice none 0 0, .slice none 0 0, .int .i32 0, .slice none 0 0, .int .i32 0, .int .i64 0, .int .i32 0, .int .i32 0, .int .i32 0, .string ⟨#[]⟩, .int .i64 0, .int .i64 0, .int .i64 0, .int .i64 0, .int .i32 0, .int .i32 0, .int .i32 0, .int .i64 0, .int .i32 0, .int .i32 0, .int .i64 0, .slice none 0 0, .slice none 0 0, .slice none 0 0, .int .i32 0, .int .i64 0, .int .i32 0, .slice none 0 0, .slice none 0 0] 63))
  clear hq hg hn hr hl hb1 h0
  go_enter Tryz.func22, Tryz.ntmps22
  go_wp2_with fail
  refine HCR.out.mono ?_
  rintro e w3 ⟨rfl, hb3⟩
  have hg3 := (hb3.block w.heap.size (by have := HS0.out; omega)).trans HG0.out
  have HB3 := Lib.hid (HB1.out.trans (hb3.mono HB1.out.size))
  clear hb3
  go_wp2_with (first
    | (refine wpList_bd63 rfl rfl ?_)
    | (apply wpList_storeRow 63 63; exact rfl; exact rfl; exact rfl; exact rfl; (first | assumption | (refine heap_under ?_; assumption) | (exact heap_s0 _ _) | (exact heap_s1 _ _ _) | (exact heap_s2 _ _ _ _) | (exact heap_s3 _ _ _ _ _) | (exact heap_under (heap_s0 _ _)) | (exact heap_under (heap_s1 _ _ _)) | (exact heap_under (heap_s2 _ _ _ _)) | (exact heap_under (heap_under (heap_s0 _ _))) | (exact heap_under (heap_under (heap_s1 _ _ _))) | (exact heap_under (heap_under (heap_under (heap_s0 _ _))))); exact infPr; exact rfl; (first | exact onePr _ | simp [Value.oneCell']))
    | fail)
  exact bodyPost_cellT rfl rfl rfl (setRow_heap _ _ _ _ _ _ hg3) undPr rfl infPr rfl ⟨rfl, below_setRow HB3.out (Nat.le_refl _) _⟩
set_option linter.unusedSimpArgs false in
set_option maxRecDepth 100000 in
set_option maxHeartbeats 20000000 in
theorem commit_ok (bq : Nat) (x : QuX) (R : Nat → Prop) (st : QuT) (w : World) (hq : QuAt w bq x R st) (hg : ∀ v ∈ st.vs, wfI v.1) (hn : st.acked.length ≤ 1024) (hr : RiseZ (zxs st.L)) (hl : st.L.length ≤ 4096) (hcap : x.cap ≤ 8192) (h0 : 0 < rdN st) :
    Calls Tryz.prog 22 #[.pointer (some ⟨bq, 0, none⟩)] w (CommP bq x R st w) := by
  have hb1 : Below w.heap.size w (w.alloc (.cells #[.int .i64 0, .int .i32 0, .int .i64 0, .int .i64 0, .int .i32 0, .string ⟨#[]⟩, .slice none 0 0, .slice none 0 0, .int .i64 0, .int .i32 0, .int .i32 0, .bool false, .int .i64 0, .int .i64 0, .int .i64 0, .int .i32 0, .slice none 0 0, .slice none 0 0, .int .i32 0, .slice none 0 0, .int .i32 0, .int .i64 0, .int .i32 0, .int .i32 0, .int .i32 0, .string ⟨#[]⟩, .int .i64 0, .int .i64 0, .int .i64 0, .int .i64 0, .int .i32 0, .int .i32 0, .int .i32 0, .int .i64 0, .int .i32 0, .int .i32 0, .int .i64 0, .slice none 0 0, .slice none 0 0, .slice none 0 0, .int .i32 0, .int .i64 0, .int .i32 0, .slice none 0 0, .slice none 0 0] 63)) := (Below.refl _ w).alloc (Nat.le_refl _) _
  have HCR := Lib.hid (ready_any bq x R st _ (hq.below hb1) hg hn hr hl hcap)
  have hz : ((rdN st : Int) == 0) = false := beq_eq_false_iff_ne.2 (by omega)
  have hpos := Nat.lt_of_lt_of_le h0 (rdN_le st)
  have HQ := Lib.hid hq
  have HCT := Lib.hid (fun (W : World) (hW : QuAt W bq x R st) => show Calls Tryz.prog 70 #[.pointer (some ⟨bq, 0, none⟩)] W (TakeP st.L[0]! bq x R { st with L := st.L.tail } W) from by
    obtain ⟨L, bd, vs, ak, la, co⟩ := st
    cases L with
    | nil => simp at hpos
    | cons p rest => exact take_any bq x R p rest bd vs ak la co W hW (by omega))
  have HG0 := Lib.hid (heap_s0 w (.cells #[.int .i64 0, .int .i32 0, .int .i64 0, .int .i64 0, .int .i32 0, .string ⟨#[]⟩, .slice none 0 0, .slice none 0 0, .int .i64 0, .int .i32 0, .int .i32 0, .bool false, .int .i64 0, .int .i64 0, .int .i64 0, .int .i32 0, .slice none 0 0, .slice none 0 0, .int .i32 0, .slice none 0 0, .int .i32 0, .int .i64 0, .int .i32 0, .int .i32 0, .int .i32 0, .string ⟨#[]⟩, .int .i64 0, .int .i64 0, .int .i64 0, .int .i64 0, .int .i32 0, .int .i32 0, .int .i32 0, .int .i64 0, .int .i32 0, .int .i32 0, .int .i64 0, .slice none 0 0, .slice none 0 0, .slice none 0 0, .int .i32 0, .int .i64 0, .int .i32 0, .slice none 0 0, .slice none 0 0] 63)); have HB1 := Lib.hid hb1; have HS0 := Lib.hid (sz1 w (.cells #[.int .i64 0, .int .i32 0, .int .i64 0, .int .i64 0, .int .i32 0, .string ⟨#[]⟩, .slice none 0 0, .slice none 0 0, .int .i64 0, .int .i32 0, .int .i32 0, .bool false, .int .i64 0, .int .i64 0, .int .i64 0, .int .i32 0, .slice none 0 0, .slice none 0 0, .int .i32 0, .slice none 0 0, .int .i32 0, .int .i64 0, .int .i32 0, .int .i32 0, .int .i32 0, .string ⟨#[]⟩, .int .i64 0, .int .i64 0, .int .i64 0, .int .i64 0, .int .i32 0, .int .i32 0, .int .i32 0, .int .i64 0, .int .i32 0, .int .i32 0, .int .i64 0, .slice none 0 0, .slice none 0 0, .slice none 0 0, .int .i32 0, .int .i64 0, .int .i32 0, .slice none 0 0, .slice none 0 0] 63))
  have HLQ := Lib.hid (Array.getElem?_eq_some_iff.1 hq.box).1
  have HGR := Lib.hid ((hq.ngr (by have := hq.ring.le; omega)))
  have HRL := Lib.hid hq.lt
  generalize rdN st = r at *
  clear hq hg hn hr hl hb1 h0 hpos
  go_enter Tryz.func22, Tryz.ntmps22
  go_wp2_with fail
  refine HCR.out.mono ?_
  rintro e w3 ⟨rfl, hb3⟩
  have HB3 := Lib.hid (HB1.out.trans (hb3.mono HB1.out.size))
  have HG3 := Lib.hid ((hb3.block w.heap.size (by have := HS0.out; omega)).trans HG0.out)
  have HS3 := Lib.hid (show w.heap.size + 1 ≤ w3.heap.size by have := HS0.out; have := hb3.size; omega)
  have HTK := Lib.hid (HCT.out w3 (HQ.out.below HB3.out))
  clear hb3 HCR
  go_wp2_with fail
  refine HTK.out.mono ?_
  rintro e w4 ⟨⟨h, rfl, hp, hq4⟩, hf4⟩
  have HP4 := Lib.hid hp; have HQ4 := Lib.hid hq4; have HF4 := Lib.hid hf4
  have hz4 := hp.1.1.2.2.1
  have HG4 := Lib.hid ((hf4.block w.heap.size (by have := HS3.out; omega) (by have := HLQ.out; have := HGR.out.2.2; simp; omega)).trans HG3.out)
  clear hp hq4 hf4 HTK HCT
  have hlq4 : bq < w4.heap.size := by have := HLQ.out; have := HF4.out.size; have := HS3.out; omega
  have hb5 : Below w4.heap.size w4 (w4.alloc (.cells #[.int .i64 h.d.se, .int .i32 h.d.xi, .int .i64 h.d.zx, .int .i64 h.d.ti, .int .i32 h.d.t.n.ty, .string h.d.t.n.path, slV h.d.t.d, slV h.d.t.a, .int .i64 h.d.t.n.ow, .int .i32 h.d.t.n.ve, .int .i32 h.d.t.n.cr, .bool h.d.t.n.qh, .int .i64 h.d.t.n.qc, .int .i64 h.d.t.n.qb, .int .i64 h.d.t.n.si, .int .i32 h.d.t.n.st, slV h.d.t.i, slV h.d.t.p, .int .i32 h.d.t.n.co, slV h.d.t.s, .int .i32 h.r.xi, .int .i64 h.r.zx, .int .i32 h.r.co, .int .i32 h.r.r.n.ty, .int .i32 h.r.r.n.co, .string h.r.r.n.path, .int .i64 h.r.r.n.q.a, .int .i64 h.r.r.n.q.b, .int .i64 h.r.r.n.q.c, .int .i64 h.r.r.n.q.d, .int .i32 h.r.r.n.q.e, .int .i32 h.r.r.n.q.f, .int .i32 h.r.r.n.q.g, .int .i64 h.r.r.n.q.h, .int .i32 h.r.r.n.q.i, .int .i32 h.r.r.n.q.j, .int .i64 h.r.r.n.q.k, slV h.r.r.d, slV h.r.r.a, slV h.r.r.m, .int .i32 h.r.r.n.ct, .int .i64 h.r.r.n.si, .int .i32 h.r.r.n.st, slV h.r.r.i, slV h.r.r.s] 63)) := (Below.refl _ w4).alloc (Nat.le_refl _) _
  have hg5 := heap_s0 w4 (.cells #[.int .i64 h.d.se, .int .i32 h.d.xi, .int .i64 h.d.zx, .int .i64 h.d.ti, .int .i32 h.d.t.n.ty, .string h.d.t.n.path, slV h.d.t.d, slV h.d.t.a, .int .i64 h.d.t.n.ow, .int .i32 h.d.t.n.ve, .int .i32 h.d.t.n.cr, .bool h.d.t.n.qh, .int .i64 h.d.t.n.qc, .int .i64 h.d.t.n.qb, .int .i64 h.d.t.n.si, .int .i32 h.d.t.n.st, slV h.d.t.i, slV h.d.t.p, .int .i32 h.d.t.n.co, slV h.d.t.s, .int .i32 h.r.xi, .int .i64 h.r.zx, .int .i32 h.r.co, .int .i32 h.r.r.n.ty, .int .i32 h.r.r.n.co, .string h.r.r.n.path, .int .i64 h.r.r.n.q.a, .int .i64 h.r.r.n.q.b, .int .i64 h.r.r.n.q.c, .int .i64 h.r.r.n.q.d, .int .i32 h.r.r.n.q.e, .int .i32 h.r.r.n.q.f, .int .i32 h.r.r.n.q.g, .int .i64 h.r.r.n.q.h, .int .i32 h.r.r.n.q.i, .int .i32 h.r.r.n.q.j, .int .i64 h.r.r.n.q.k, slV h.r.r.d, slV h.r.r.a, slV h.r.r.m, .int .i32 h.r.r.n.ct, .int .i64 h.r.r.n.si, .int .i32 h.r.r.n.st, slV h.r.r.i, slV h.r.r.s] 63)
  go_upto_region 4 with (first
    | (apply wpList_storeTop 63 63; exact rfl; exact rfl; exact rfl; (first | (with_reducible rfl) | (exact sz1 _ _) | (exact sz2 _ _ _) | (exact sz3 _ _ _ _)); exact rfl; exact infPr; exact rfl; (first | exact onePr _ | simp [Value.oneCell']))
    | fail)
  generalize w4.alloc (.cells #[.int .i64 h.d.se, .int .i32 h.d.xi, .int .i64 h.d.zx, .int .i64 h.d.ti, .int .i32 h.d.t.n.ty, .string h.d.t.n.path, slV h.d.t.d, slV h.d.t.a, .int .i64 h.d.t.n.ow, .int .i32 h.d.t.n.ve, .int .i32 h.d.t.n.cr, .bool h.d.t.n.qh, .int .i64 h.d.t.n.qc, .int .i64 h.d.t.n.qb, .int .i64 h.d.t.n.si, .int .i32 h.d.t.n.st, slV h.d.t.i, slV h.d.t.p, .int .i32 h.d.t.n.co, slV h.d.t.s, .int .i32 h.r.xi, .int .i64 h.r.zx, .int .i32 h.r.co, .int .i32 h.r.r.n.ty, .int .i32 h.r.r.n.co, .string h.r.r.n.path, .int .i64 h.r.r.n.q.a, .int .i64 h.r.r.n.q.b, .int .i64 h.r.r.n.q.c, .int .i64 h.r.r.n.q.d, .int .i32 h.r.r.n.q.e, .int .i32 h.r.r.n.q.f, .int .i32 h.r.r.n.q.g, .int .i64 h.r.r.n.q.h, .int .i32 h.r.r.n.q.i, .int .i32 h.r.r.n.q.j, .int .i64 h.r.r.n.q.k, slV h.r.r.d, slV h.r.r.a, slV h.r.r.m, .int .i32 h.r.r.n.ct, .int .i64 h.r.r.n.si, .int .i32 h.r.r.n.st, slV h.r.r.i, slV h.r.r.s] 63) = W5 at *
  have hq5 := HQ4.out.below hb5
  have c7 : W5.cell? ⟨bq, 7, none⟩ = some (.int .i64 st.committed) := by rw [cellH hq5.box]; rfl
  have f7 : W5.frozen? ⟨bq, 7, none⟩ = false := by simp [World.frozen?, hq5.box]
  have cz : W5.cell? ⟨w4.heap.size, 2, none⟩ = some (.int .i64 h.d.zx) := by rw [cellH hg5]; rfl
  have hne4 : w4.heap.size ≠ bq := by omega
  have hnw : w.heap.size ≠ bq := by have := HLQ.out; omega
  have g5 : (W5.setCell ⟨bq, 7, none⟩ (.int .i64 h.d.zx)).heap[w4.heap.size]? = some (.cells #[.int .i64 h.d.se, .int .i32 h.d.xi, .int .i64 h.d.zx, .int .i64 h.d.ti, .int .i32 h.d.t.n.ty, .string h.d.t.n.path, slV h.d.t.d, slV h.d.t.a, .int .i64 h.d.t.n.ow, .int .i32 h.d.t.n.ve, .int .i32 h.d.t.n.cr, .bool h.d.t.n.qh, .int .i64 h.d.t.n.qc, .int .i64 h.d.t.n.qb, .int .i64 h.d.t.n.si, .int .i32 h.d.t.n.st, slV h.d.t.i, slV h.d.t.p, .int .i32 h.d.t.n.co, slV h.d.t.s, .int .i32 h.r.xi, .int .i64 h.r.zx, .int .i32 h.r.co, .int .i32 h.r.r.n.ty, .int .i32 h.r.r.n.co, .string h.r.r.n.path, .int .i64 h.r.r.n.q.a, .int .i64 h.r.r.n.q.b, .int .i64 h.r.r.n.q.c, .int .i64 h.r.r.n.q.d, .int .i32 h.r.r.n.q.e, .int .i32 h.r.r.n.q.f, .int .i32 h.r.r.n.q.g, .int .i64 h.r.r.n.q.h, .int .i32 h.r.r.n.q.i, .int .i32 h.r.r.n.q.j, .int .i64 h.r.r.n.q.k, slV h.r.r.d, slV h.r.r.a, slV h.r.r.m, .int .i32 h.r.r.n.ct, .int .i64 h.r.r.n.si, .int .i32 h.r.r.n.st, slV h.r.r.i, slV h.r.r.s] 63 (0, 0)) := (heap_set_other _ bq 7 _ hne4).trans hg5
  have g0 : (W5.setCell ⟨bq, 7, none⟩ (.int .i64 h.d.zx)).heap[w.heap.size]? = some (.cells #[.int .i64 0, .int .i32 0, .int .i64 0, .int .i64 0, .int .i32 0, .string ⟨#[]⟩, .slice none 0 0, .slice none 0 0, .int .i64 0, .int .i32 0, .int .i32 0, .bool false, .int .i64 0, .int .i64 0, .int .i64 0, .int .i32 0, .slice none 0 0, .slice none 0 0, .int .i32 0, .slice none 0 0, .int .i32 0, .int .i64 0, .int .i32 0, .int .i32 0, .int .i32 0, .string ⟨#[]⟩, .int .i64 0, .int .i64 0, .int .i64 0, .int .i64 0, .int .i32 0, .int .i32 0, .int .i32 0, .int .i64 0, .int .i32 0, .int .i32 0, .int .i64 0, .slice none 0 0, .slice none 0 0, .slice none 0 0, .int .i32 0, .int .i64 0, .int .i32 0, .slice none 0 0, .slice none 0 0] 63 (0, 0)) := (heap_set_other _ bq 7 _ hnw).trans ((hb5.block _ (by have := HF4.out.size; have := HS3.out; omega)).trans HG4.out)
  have HQ5 := Lib.hid hq5; have HB5 := Lib.hid hb5; have HZ4 := Lib.hid hz4
  have HG00 := Lib.hid g0
  have HNW := Lib.hid hnw
  clear hq5 hb5 hz4 hg5 hne4 hnw hlq4
  go_wp2_with (first
    | (apply wpList_loadRow 63 63; exact rfl; exact rfl; exact rfl; (first | assumption | (refine heap_under ?_; assumption) | (exact heap_s0 _ _) | (exact heap_s1 _ _ _) | (exact heap_s2 _ _ _ _) | (exact heap_s3 _ _ _ _ _) | (exact heap_under (heap_s0 _ _)) | (exact heap_under (heap_s1 _ _ _)) | (exact heap_under (heap_s2 _ _ _ _)) | (exact heap_under (heap_under (heap_s0 _ _))) | (exact heap_under (heap_under (heap_s1 _ _ _))) | (exact heap_under (heap_under (heap_under (heap_s0 _ _))))); exact undPr; exact rfl; exact infPr)
    | (apply wpList_storeRow 63 63; exact rfl; exact rfl; exact rfl; exact rfl; (first | assumption | (refine heap_under ?_; assumption) | (exact heap_s0 _ _) | (exact heap_s1 _ _ _) | (exact heap_s2 _ _ _ _) | (exact heap_s3 _ _ _ _ _) | (exact heap_under (heap_s0 _ _)) | (exact heap_under (heap_s1 _ _ _)) | (exact heap_under (heap_s2 _ _ _ _)) | (exact heap_under (heap_under (heap_s0 _ _))) | (exact heap_under (heap_under (heap_s1 _ _ _))) | (exact heap_under (heap_under (heap_under (heap_s0 _ _))))); exact infPr; exact rfl; (first | exact onePr _ | simp [Value.oneCell']))
    | fail)
  have hF6 := fr_set W5 bq 7 (.int .i64 h.d.zx)
  have hq6 := HQ5.out.rebox (st' := commS st) hF6 rfl rfl rfl (by
    refine (heap_setN HQ5.out.box _).trans ?_
    simp only [commS]
    rw [HZ4.out]
    simp)
  have hF7 := fr_setRow9 (W5.setCell ⟨bq, 7, none⟩ (.int .i64 h.d.zx)) w.heap.size #[.int .i64 h.d.se, .int .i32 h.d.xi, .int .i64 h.d.zx, .int .i64 h.d.ti, .int .i32 h.d.t.n.ty, .string h.d.t.n.path, slV h.d.t.d, slV h.d.t.a, .int .i64 h.d.t.n.ow, .int .i32 h.d.t.n.ve, .int .i32 h.d.t.n.cr, .bool h.d.t.n.qh, .int .i64 h.d.t.n.qc, .int .i64 h.d.t.n.qb, .int .i64 h.d.t.n.si, .int .i32 h.d.t.n.st, slV h.d.t.i, slV h.d.t.p, .int .i32 h.d.t.n.co, slV h.d.t.s, .int .i32 h.r.xi, .int .i64 h.r.zx, .int .i32 h.r.co, .int .i32 h.r.r.n.ty, .int .i32 h.r.r.n.co, .string h.r.r.n.path, .int .i64 h.r.r.n.q.a, .int .i64 h.r.r.n.q.b, .int .i64 h.r.r.n.q.c, .int .i64 h.r.r.n.q.d, .int .i32 h.r.r.n.q.e, .int .i32 h.r.r.n.q.f, .int .i32 h.r.r.n.q.g, .int .i64 h.r.r.n.q.h, .int .i32 h.r.r.n.q.i, .int .i32 h.r.r.n.q.j, .int .i64 h.r.r.n.q.k, slV h.r.r.d, slV h.r.r.a, slV h.r.r.m, .int .i32 h.r.r.n.ct, .int .i64 h.r.r.n.si, .int .i32 h.r.r.n.st, slV h.r.r.i, slV h.r.r.s]
  have hRw : ∀ b, R b → b ∉ [w.heap.size] := fun b hb => by have := HRL.out b hb; simp; omega
  have hRq : ∀ b, R b → b ∉ [bq] := fun b hb => by simp; exact fun e => HQ.out.nq (e ▸ hb)
  have hq7 := hq6.fr hF7 (by simp; exact fun e => HNW.out e.symm) (fun _ => by show x.gr ∉ _; have := HGR.out.2.2; simp; omega) (fun hn => by have h1 : x.ga < w.heap.size := (HQ.out.nga hn).2.2.1; show x.ga ∉ _; simp; omega) hRw
  have hp7 := (((HP4.out.fr (R' := R) (Fr.of_below (own := []) HB5.out) (fun b _ hb => ⟨by simp, hb⟩)).fr (R' := R) hF6 (fun b _ hb => ⟨hRq b hb, hb⟩))).fr (R' := R) hF7 (fun b _ hb => ⟨hRw b hb, hb⟩)
  have hf7 : Fr [bq, x.gr] w _ := ((((Fr.of_below (own := [bq, x.gr]) HB3.out).trans HF4.out (fun g hg => .inl hg)).trans (Fr.of_below (own := []) HB5.out) (by simp)).set (b := bq) (by simp) 7 (.int .i64 h.d.zx)).trans hF7 (fun g hg => .inr (by simp at hg; omega))
  exact bodyPost_cellT rfl rfl rfl (setRow_heap _ _ _ _ _ _ HG00.out) undPr rfl infPr rfl ⟨⟨h, rfl, hp7, hq7⟩, hf7⟩
end Go.Proofs.YtbpmmmnphpkdjaaGreatDoor
namespace Go.Proofs.YtbpmmmnphpkdjaaGreatDoor
open Go.RowKit Go.MapKept Go.Maps
/-- what is known of a kind of great element -/
structure ElemL {α : Type} [Inhabited α] (enc : α → List Value) (ST T : TypeId) (k : Nat) : Prop where
  under : Tryz.prog.underlying ST = some (.slice T)
  info : (Tryz.prog.info? T).map (fun i => (i.zero.map (·.cells.size), i.size, decide (i.bytes ≤ 4096))) = some (some k, k, true)
  len : ∀ x, (enc x).length = k
  pos : 0 < k
  one : ∀ x u, u ∈ enc x → u.oneCell' = true
theorem ElemL.parts {α : Type} [Inhabited α] {enc : α → List Value} {ST T : TypeId} {k : Nat} (E : ElemL enc ST T k) : ∃ i z, Tryz.prog.info? T = some i ∧ i.zero = some z ∧ z.cells.size = k ∧ i.size = k ∧ i.bytes ≤ 4096 := by
  have h := E.info
  cases hi : Tryz.prog.info? T with
  | none => rw [hi] at h; cases h
  | some i =>
    rw [hi] at h
    simp only [Option.map_some, Option.some.injEq, Prod.mk.injEq, decide_eq_true_eq] at h
    cases hz : i.zero with
    | none => rw [hz] at h; simp at h
    | some z =>
      rw [hz] at h
      simp only [Option.map_some, Option.some.injEq] at h
      exact ⟨i, z, rfl, hz, h.1, h.2.1, h.2.2⟩
theorem wpList_appL {α : Type} [Inhabited α] {enc : α → List Value} {ST T : TypeId} {k : Nat} (E : ElemL enc ST T k) {ops : Array Oper} {rest : List Oper} {o : Oper} {a : Act} {Q : Exit → Act → World → Prop} {w : World} (hgd : o.guard = none) (s x : Operand)
    (ho : o.op = .call { callee := .builtin .append, args := #[s, x], argTypes := #[ST, ST] }) (base : Nat) (A : Option Addr) (n c : Nat) (l : List α) (hs : a.eval s = .slice A n c)
    (hown : w.ownsRow base T k (.slice A n c) n (l.flatMap enc)) (A' : Option Addr) (m c' : Nat) (l' : List α) (hx : a.eval x = .slice A' m c') (hsl : Sl w w.heap.size enc k A' m l')
    (hA' : A' = none → m = 0 ∧ c' = 0) (hn : n + m ≤ 1048576) (hbase : base ≤ w.heap.size)
    (h : ∀ A2 c2 w', w'.ownsRow base T k (.slice A2 (n + m) c2) (n + m) ((l ++ l').flatMap enc) → Below base w w' → wpList Tryz.prog ops Q rest (a.put o.dst (.slice A2 (n + m) c2)) w') : wpList Tryz.prog ops Q (o :: rest) a w := by
  obtain ⟨i0, z, hi0, hz0, hzc, hz1, hz2⟩ := E.parts
  cases A' with
  | none =>
    obtain ⟨rfl, rfl⟩ := hA' rfl
    have hl0 : l' = [] := List.length_eq_zero_iff.1 hsl.len
    subst hl0
    refine wpList_append_own_none hgd s x _ ho base _ i0 k E.under hi0 _ n _ hs hown hx ?_
    have := h A c w (by rw [List.append_nil]; exact hown) (Below.refl _ _)
    exact this
  | some a0 =>
    refine wpList_append_own w hgd s x _ ho base T i0 _ k i0.bytes E.under hi0 hz0 hz1 rfl hzc E.pos _ n _ hs hown a0 m c' (l'.flatMap enc) hx (by rw [flat_len E.len, hsl.len]) (Sl.news E.len E.pos hsl) ?_ (by unfold maxLen; omega) ?_ hbase ?_
    · intro u hu
      obtain ⟨x, _, hx⟩ := List.mem_flatMap.1 hu
      exact E.one x u hx
    · have := Nat.mul_le_mul hn hz2
      omega
    · intro v' w' h1 h2 _
      obtain ⟨A2, c2, rfl⟩ := own_formI h1
      refine h A2 c2 w' ?_ (own_belowG hown h2 hbase)
      rw [List.flatMap_append]; exact h1
theorem elemPr : ElemL encPr 79 63 45 := ⟨Tryz.underlying79, by kernel_rfl, lenPr, by decide, fun x u hu => by
  have h := onePr x
  rw [Array.all_eq_true_iff_forall_mem] at h
  exact h u (by simpa using hu)⟩
structure QClR (bq : Nat) (x : QuX) (R : Nat → Prop) (st : QuT) (w : World) (k : Nat) (A : Option Addr) (c : Nat) (Hs : List PrH) (x' : QuX) (wr : World) : Prop where
  hx : x'.gr = x.gr ∧ x'.ga = x.ga ∧ x'.aA = x.aA ∧ x'.cap = x.cap
  q : QuAt wr bq x' R { st with L := st.L.drop k }
  row : wr.ownsRow w.heap.size 63 45 (.slice A k c) k (Hs.flatMap encPr)
  hl : Hs.length = k
  pr : ∀ j, j < k → PrAt wr R Hs[j]! st.L[j]!
  fr : Fr [bq, x.gr, x.ga] w wr
theorem own_frP {w w' : World} {base n k : Nat} {e : TypeId} {v : Value} {xs : List Value} {own : List Nat} (h : w.ownsRow base e k v n xs) (hf : Fr own w w') (hb : ∀ g ∈ own, g < base) : w'.ownsRow base e k v n xs := own_fr h hf hb
def minL (ak : List Int) (c : Int) (k : Nat) : List Int := (ak.take k).map (fun x => min x c) ++ ak.drop k
theorem minL_len (ak : List Int) (c : Int) (k : Nat) : (minL ak c k).length = ak.length := by
  simp [minL]; omega
theorem minL_at (ak : List Int) (c : Int) (k : Nat) (hk : k < ak.length) : (minL ak c k)[k]! = ak[k]! := by
  have h : (minL ak c k).length = ak.length := minL_len ak c k
  rw [getElem!_pos _ k (by rw [h]; exact hk), getElem!_pos ak k hk]
  unfold minL
  rw [List.getElem_append_right (by simp; omega)]
  simp only [List.length_map, List.length_take, List.getElem_drop]
  congr 1
  omega
theorem minL_set (ak : List Int) (c : Int) (k : Nat) (hk : k < ak.length) : (minL ak c k).set k (min ak[k]! c) = minL ak c (k + 1) := by
  have hl : ((ak.take k).map (fun x => min x c)).length = k := by simp; omega
  unfold minL
  rw [List.set_append_right _ _ (by omega), hl, Nat.sub_self, List.drop_eq_getElem_cons hk, List.set_cons_zero, List.take_succ_eq_append_getElem hk, List.map_append, List.append_assoc, getElem!_pos ak k hk]
  rfl
def clearS (st : QuT) : QuT := { st with L := [], last := st.committed, acked := st.acked.map (fun x => min x st.committed) }
theorem minL_all (ak : List Int) (c : Int) : minL ak c ak.length = ak.map (fun x => min x c) := by simp [minL]
theorem Fr.of_belowB {B : Nat} {w w' : World} (h : Below B w w') (hs : w.heap.size ≤ w'.heap.size) : Fr ((List.range w.heap.size).filter (fun g => decide (B ≤ g))) w w' :=
  ⟨h.os, h.tape, h.output, hs, fun g hg hn => h.block g (by
    rw [List.mem_filter, List.mem_range, decide_eq_true_eq] at hn
    omega)⟩
theorem not_belowB {B n g : Nat} (h : g < B) : g ∉ (List.range n).filter (fun g => decide (B ≤ g)) := by
  rw [List.mem_filter, List.mem_range, decide_eq_true_eq]; omega
/-- what Clear leaves: all that waited -/
def ClearP (bq : Nat) (x : QuX) (R : Nat → Prop) (st : QuT) (w : World) (e : Ending) (w' : World) : Prop :=
  (∃ (A : Option Addr) (c : Nat) (Hs : List PrH) (x' : QuX), e = .returned (.slice A st.L.length c) ∧ w'.ownsRow w.heap.size 63 45 (.slice A st.L.length c) st.L.length (Hs.flatMap encPr) ∧ Hs.length = st.L.length ∧ (∀ j, j < st.L.length → PrAt w' R Hs[j]! st.L[j]!) ∧ (x'.gr = x.gr ∧ x'.ga = x.ga ∧ x'.aA = x.aA ∧ x'.cap = x.cap) ∧ QuAt w' bq x' R (clearS st)) ∧ Fr [bq, x.gr, x.ga] w w'
set_option linter.unusedSimpArgs false in
set_option maxRecDepth 100000 in
set_option maxHeartbeats 20000000 in
theorem clear_any (bq : Nat) (x : QuX) (R : Nat → Prop) (st : QuT) (w : World) (hq : QuAt w bq x R st) (hl : st.L.length ≤ 4096) (hcap : x.cap ≤ 8192) (hgr : x.gr < w.heap.size) (hga : x.ga < w.heap.size) (hn : st.acked.length ≤ 1024) (hRga : ¬ R x.ga) :
    Calls Tryz.prog 25 #[.pointer (some ⟨bq, 0, none⟩)] w (ClearP bq x R st w) := by
  have HQ := Lib.hid hq
  have HLQ := Lib.hid (Array.getElem?_eq_some_iff.1 hq.box).1
  have hown : ∀ g ∈ [bq, x.gr, x.ga], g < w.heap.size := fun g hg => by have := HLQ.out; simp at hg; rcases hg with h | h | h <;> omega
  have HOWN := Lib.hid hown
  generalize hN : st.L.length = n at *
  have HN := Lib.hid hN
  clear hq hown hN
  go_enter Tryz.func25, Tryz.ntmps25
  go_wp2_with fail
  go_loopw [3] (fun v wr => ∃ k A c Hs x', v = .slice A k c ∧ k ≤ n ∧ QClR bq x R st w k A c Hs x' wr) (fun v _ => n - (match v with | .slice _ k _ => k | _ => 0))
  case atStart => exact ⟨0, none, 0, [], x, rfl, Nat.zero_le _, ⟨⟨rfl, rfl, rfl, rfl⟩, HQ.out, ⟨rfl, .inl ⟨rfl, rfl⟩⟩, rfl, fun j hj => absurd hj (by omega), Fr.refl _ _⟩⟩
  case round =>
    obtain ⟨k, A, c, Hs, x', rfl, hk, hC⟩ := hrel
    have HC := Lib.hid hC; clear hC
    have c2 : wr.cell? ⟨bq, 2, none⟩ = some (.int .i64 ↑(n - k)) := by rw [cellH HC.out.q.box, ← HN.out]; simp
    by_cases hlt : k < n
    · have bpos : decide (0 < n - k) = true := decide_eq_true (by omega)
      have HM := Lib.hid hlt
      have hks : k < st.L.length := by rw [HN.out]; exact hlt
      have hdrop : st.L.drop k = st.L[k]! :: st.L.drop (k + 1) := by rw [getElem!_pos st.L k hks]; exact List.drop_eq_getElem_cons hks
      have HTK := Lib.hid (show Calls Tryz.prog 70 #[.pointer (some ⟨bq, 0, none⟩)] wr (TakeP st.L[k]! bq x' R { st with L := st.L.drop (k + 1) } wr) from by
        have h := HC.out.q
        rw [hdrop] at h
        exact take_any bq x' R _ _ _ _ _ _ _ wr h (by have := HC.out.hx.2.2.2; omega))
      generalize hm : n - k = m at *
      clear hm hks hdrop
      go_wp2_with fail
      refine HTK.out.mono ?_
      rintro e w1 ⟨⟨h, rfl, hp, hq1⟩, hf1⟩
      have HP := Lib.hid hp; have HQ1 := Lib.hid hq1; have HF1 := Lib.hid hf1
      clear hp hq1 hf1 HTK c2 bpos
      have HW1 := Lib.hid (HC.out.fr.trans HF1.out (fun g hg => .inl (by rw [HC.out.hx.1] at hg; simp at hg; rcases hg with h | h <;> simp [h])))
      have HO1 := Lib.hid (own_fr HC.out.row HF1.out (fun g hg => HOWN.out g (by rw [HC.out.hx.1] at hg; simp at hg; rcases hg with h | h <;> simp [h])))
      have HB2 := Lib.hid (show Below w1.heap.size w1 (w1.alloc (.cells #[.int .i64 h.d.se, .int .i32 h.d.xi, .int .i64 h.d.zx, .int .i64 h.d.ti, .int .i32 h.d.t.n.ty, .string h.d.t.n.path, slV h.d.t.d, slV h.d.t.a, .int .i64 h.d.t.n.ow, .int .i32 h.d.t.n.ve, .int .i32 h.d.t.n.cr, .bool h.d.t.n.qh, .int .i64 h.d.t.n.qc, .int .i64 h.d.t.n.qb, .int .i64 h.d.t.n.si, .int .i32 h.d.t.n.st, slV h.d.t.i, slV h.d.t.p, .int .i32 h.d.t.n.co, slV h.d.t.s, .int .i32 h.r.xi, .int .i64 h.r.zx, .int .i32 h.r.co, .int .i32 h.r.r.n.ty, .int .i32 h.r.r.n.co, .string h.r.r.n.path, .int .i64 h.r.r.n.q.a, .int .i64 h.r.r.n.q.b, .int .i64 h.r.r.n.q.c, .int .i64 h.r.r.n.q.d, .int .i32 h.r.r.n.q.e, .int .i32 h.r.r.n.q.f, .int .i32 h.r.r.n.q.g, .int .i64 h.r.r.n.q.h, .int .i32 h.r.r.n.q.i, .int .i32 h.r.r.n.q.j, .int .i64 h.r.r.n.q.k, slV h.r.r.d, slV h.r.r.a, slV h.r.r.m, .int .i32 h.r.r.n.ct, .int .i64 h.r.r.n.si, .int .i32 h.r.r.n.st, slV h.r.r.i, slV h.r.r.s] 63)) from (Below.refl _ w1).alloc (Nat.le_refl _) _)
      have HO2 := Lib.hid (own_later HO1.out HB2.out)
      have HSL := Lib.hid (show Sl (w1.alloc (.cells #[.int .i64 h.d.se, .int .i32 h.d.xi, .int .i64 h.d.zx, .int .i64 h.d.ti, .int .i32 h.d.t.n.ty, .string h.d.t.n.path, slV h.d.t.d, slV h.d.t.a, .int .i64 h.d.t.n.ow, .int .i32 h.d.t.n.ve, .int .i32 h.d.t.n.cr, .bool h.d.t.n.qh, .int .i64 h.d.t.n.qc, .int .i64 h.d.t.n.qb, .int .i64 h.d.t.n.si, .int .i32 h.d.t.n.st, slV h.d.t.i, slV h.d.t.p, .int .i32 h.d.t.n.co, slV h.d.t.s, .int .i32 h.r.xi, .int .i64 h.r.zx, .int .i32 h.r.co, .int .i32 h.r.r.n.ty, .int .i32 h.r.r.n.co, .string h.r.r.n.path, .int .i64 h.r.r.n.q.a, .int .i64 h.r.r.n.q.b, .int .i64 h.r.r.n.q.c, .int .i64 h.r.r.n.q.d, .int .i32 h.r.r.n.q.e, .int .i32 h.r.r.n.q.f, .int .i32 h.r.r.n.q.g, .int .i64 h.r.r.n.q.h, .int .i32 h.r.r.n.q.i, .int .i32 h.r.r.n.q.j, .int .i64 h.r.r.n.q.k, slV h.r.r.d, slV h.r.r.a, slV h.r.r.m, .int .i32 h.r.r.n.ct, .int .i64 h.r.r.n.si, .int .i32 h.r.r.n.st, slV h.r.r.i, slV h.r.r.s] 63)) (w1.alloc (.cells #[.int .i64 h.d.se, .int .i32 h.d.xi, .int .i64 h.d.zx, .int .i64 h.d.ti, .int .i32 h.d.t.n.ty, .string h.d.t.n.path, slV h.d.t.d, slV h.d.t.a, .int .i64 h.d.t.n.ow, .int .i32 h.d.t.n.ve, .int .i32 h.d.t.n.cr, .bool h.d.t.n.qh, .int .i64 h.d.t.n.qc, .int .i64 h.d.t.n.qb, .int .i64 h.d.t.n.si, .int .i32 h.d.t.n.st, slV h.d.t.i, slV h.d.t.p, .int .i32 h.d.t.n.co, slV h.d.t.s, .int .i32 h.r.xi, .int .i64 h.r.zx, .int .i32 h.r.co, .int .i32 h.r.r.n.ty, .int .i32 h.r.r.n.co, .string h.r.r.n.path, .int .i64 h.r.r.n.q.a, .int .i64 h.r.r.n.q.b, .int .i64 h.r.r.n.q.c, .int .i64 h.r.r.n.q.d, .int .i32 h.r.r.n.q.e, .int .i32 h.r.r.n.q.f, .int .i32 h.r.r.n.q.g, .int .i64 h.r.r.n.q.h, .int .i32 h.r.r.n.q.i, .int .i32 h.r.r.n.q.j, .int .i64 h.r.r.n.q.k, slV h.r.r.d, slV h.r.r.a, slV h.r.r.m, .int .i32 h.r.r.n.ct, .int .i64 h.r.r.n.si, .int .i32 h.r.r.n.st, slV h.r.r.i, slV h.r.r.s] 63)).heap.size encPr 45 (some ⟨w1.heap.size, 0, none⟩) 1 [h] from ⟨rfl, fun _ => ⟨w1.heap.size, 0, rfl, by rw [sz1]; omega, fun i hi a u hu => by
        have hi0 : i = 0 := by omega
        subst hi0
        have hr : (w1.alloc (.cells #[.int .i64 h.d.se, .int .i32 h.d.xi, .int .i64 h.d.zx, .int .i64 h.d.ti, .int .i32 h.d.t.n.ty, .string h.d.t.n.path, slV h.d.t.d, slV h.d.t.a, .int .i64 h.d.t.n.ow, .int .i32 h.d.t.n.ve, .int .i32 h.d.t.n.cr, .bool h.d.t.n.qh, .int .i64 h.d.t.n.qc, .int .i64 h.d.t.n.qb, .int .i64 h.d.t.n.si, .int .i32 h.d.t.n.st, slV h.d.t.i, slV h.d.t.p, .int .i32 h.d.t.n.co, slV h.d.t.s, .int .i32 h.r.xi, .int .i64 h.r.zx, .int .i32 h.r.co, .int .i32 h.r.r.n.ty, .int .i32 h.r.r.n.co, .string h.r.r.n.path, .int .i64 h.r.r.n.q.a, .int .i64 h.r.r.n.q.b, .int .i64 h.r.r.n.q.c, .int .i64 h.r.r.n.q.d, .int .i32 h.r.r.n.q.e, .int .i32 h.r.r.n.q.f, .int .i32 h.r.r.n.q.g, .int .i64 h.r.r.n.q.h, .int .i32 h.r.r.n.q.i, .int .i32 h.r.r.n.q.j, .int .i64 h.r.r.n.q.k, slV h.r.r.d, slV h.r.r.a, slV h.r.r.m, .int .i32 h.r.r.n.ct, .int .i64 h.r.r.n.si, .int .i32 h.r.r.n.st, slV h.r.r.i, slV h.r.r.s] 63)).rangeAt w1.heap.size 0 (encPr h) := rangeAt_heapC (pre := []) (mid := encPr h) (post := []) (heap_s0 w1 _) (by simp [encPr]) rfl
        have := hr a u hu
        rw [Nat.zero_mul, Nat.zero_add]
        rwa [Nat.zero_add] at this⟩⟩)
      go_wp2_with (at_builtin; refine wpList_appL elemPr rfl _ _ rfl w.heap.size A k c Hs ?hx1 HO2.out (some ⟨w1.heap.size, 0, none⟩) 1 1 [h] ?hy1 HSL.out (fun e => by cases e) (by omega) (Nat.le_trans HW1.out.size HB2.out.size) ?hk1)
      (try case hx1 => rfl)
      (try case hy1 => rfl)
      case hk1 =>
        intro A8 c8 w8 hv8 hb8
        have HB8 := Lib.hid hb8; have HV8 := Lib.hid hv8
        clear hv8 hb8
        generalize w1.alloc (.cells #[.int .i64 h.d.se, .int .i32 h.d.xi, .int .i64 h.d.zx, .int .i64 h.d.ti, .int .i32 h.d.t.n.ty, .string h.d.t.n.path, slV h.d.t.d, slV h.d.t.a, .int .i64 h.d.t.n.ow, .int .i32 h.d.t.n.ve, .int .i32 h.d.t.n.cr, .bool h.d.t.n.qh, .int .i64 h.d.t.n.qc, .int .i64 h.d.t.n.qb, .int .i64 h.d.t.n.si, .int .i32 h.d.t.n.st, slV h.d.t.i, slV h.d.t.p, .int .i32 h.d.t.n.co, slV h.d.t.s, .int .i32 h.r.xi, .int .i64 h.r.zx, .int .i32 h.r.co, .int .i32 h.r.r.n.ty, .int .i32 h.r.r.n.co, .string h.r.r.n.path, .int .i64 h.r.r.n.q.a, .int .i64 h.r.r.n.q.b, .int .i64 h.r.r.n.q.c, .int .i64 h.r.r.n.q.d, .int .i32 h.r.r.n.q.e, .int .i32 h.r.r.n.q.f, .int .i32 h.r.r.n.q.g, .int .i64 h.r.r.n.q.h, .int .i32 h.r.r.n.q.i, .int .i32 h.r.r.n.q.j, .int .i64 h.r.r.n.q.k, slV h.r.r.d, slV h.r.r.a, slV h.r.r.m, .int .i32 h.r.r.n.ct, .int .i64 h.r.r.n.si, .int .i32 h.r.r.n.st, slV h.r.r.i, slV h.r.r.s] 63) = W2 at *
        go_wp2_with fail
        go_roundw
        case rel =>
          have hs8 : w1.heap.size ≤ w8.heap.size := Nat.le_trans HB2.out.size HB8.out.size
          have hF8 := Fr.of_belowB HB8.out HB8.out.size
          have hlt1 : ∀ b, R b → b < w.heap.size := HQ.out.lt
          have hq8 := (HQ1.out.below HB2.out).fr hF8 (not_belowB HLQ.out) (fun _ => by show x'.gr ∉ _; rw [HC.out.hx.1]; exact not_belowB hgr) (fun _ => by show x'.ga ∉ _; rw [HC.out.hx.2.1]; exact not_belowB hga) (fun b hb => not_belowB (hlt1 b hb))
          refine ⟨k + 1, A8, c8, Hs ++ [h], x'.next, rfl, by omega, ⟨HC.out.hx, hq8, by rw [List.flatMap_append]; simpa using HV8.out, by rw [List.length_append, HC.out.hl]; rfl, fun j hj => ?_, ?_⟩⟩
          · have hmv : ∀ {hh : PrH} {pp : PrT}, PrAt w1 R hh pp → PrAt w8 R hh pp := fun H => (H.fr (R' := R) (Fr.of_below (own := []) HB2.out) (fun b _ hb => ⟨by simp, hb⟩)).fr (R' := R) hF8 (fun b _ hb => ⟨not_belowB (hlt1 b hb), hb⟩)
            by_cases hjk : j < k
            · rw [getBang_snoc _ _ _ (by rw [HC.out.hl]; exact hjk)]
              exact hmv ((HC.out.pr j hjk).fr (R' := R) HF1.out (fun b _ hb => ⟨by
                have h1 : b ≠ bq := fun e => HC.out.q.nq (e ▸ hb)
                have h2 : b ≠ x'.gr := fun e => (HC.out.q.ngr (by have h3 := HC.out.q.ring.le; rw [List.length_drop] at h3; have := HN.out; have := HM.out; omega)).2.1 (e ▸ hb)
                simp [h1, h2], hb⟩))
            · obtain rfl : j = k := by omega
              rw [show (Hs ++ [h])[j]! = h by rw [← HC.out.hl]; exact getBang_last _ _]
              exact hmv HP.out
          · exact (HW1.out.trans (Fr.of_below (own := []) HB2.out) (by simp)).trans hF8 (fun g hg => by
              rw [List.mem_filter, decide_eq_true_eq] at hg
              exact .inr hg.2)
        case measure => show n - (k + 1) < n - k; have := HM.out; omega
    · obtain rfl : k = n := by omega
      have hdn : st.L.drop k = [] := by rw [← HN.out]; exact List.drop_length
      have hqn := HC.out.q
      rw [hdn] at hqn
      have bpos : decide (0 < k - k) = false := decide_eq_false (by omega)
      have c7 : wr.cell? ⟨bq, 7, none⟩ = some (.int .i64 st.committed) := by rw [cellH hqn.box]; rfl
      have c6 : wr.cell? ⟨bq, 6, none⟩ = some (.int .i64 st.last) := by rw [cellH hqn.box]; rfl
      have f6 : wr.frozen? ⟨bq, 6, none⟩ = false := by simp [World.frozen?, hqn.box]
      have HQN := Lib.hid hqn; clear hqn hdn hlt
      have c5v : (wr.setCell ⟨bq, 6, none⟩ (.int .i64 st.committed)).cell? ⟨bq, 5, none⟩ = some (.slice x.aA st.acked.length x'.ac) := by
        have h := heap_setN HQN.out.box (o := 6) (.int .i64 st.committed)
        rw [cellH h, HC.out.hx.2.2.1]; rfl
      go_wp2_with fail
      have hq1 := HQN.out.rebox (st' := { st with L := [], last := st.committed }) (fr_set wr bq 6 (.int .i64 st.committed)) rfl rfl rfl ((heap_setN HQN.out.box _).trans (by simp))
      have HFS := Lib.hid (fr_set wr bq 6 (.int .i64 st.committed))
      generalize wr.setCell ⟨bq, 6, none⟩ (.int .i64 st.committed) = V1 at *
      have HQV := Lib.hid hq1; clear hq1 c7 c6 f6 c2 bpos c5v
      have HRV := Lib.hid (own_fr HC.out.row HFS.out (fun g hg => HOWN.out g (by simp at hg; simp [hg])))
      have HPV := Lib.hid (fun j (hj : j < k) => (HC.out.pr j hj).fr (R' := R) HFS.out (fun b _ hb => ⟨by simp; exact fun e => HQ.out.nq (e ▸ hb), hb⟩))
      have HFV := Lib.hid (HC.out.fr.trans HFS.out (fun g hg => .inl (by simp at hg; simp [hg])))
      have HXX := Lib.hid HC.out.hx; have HHL := Lib.hid HC.out.hl
      clear HC
      generalize hA : st.acked.length = na at *
      have HNA := Lib.hid hA; clear hA
      go_loopw [4, 32] (fun _ i wx => ∃ j : Nat, i = .int .i64 ↑j ∧ j ≤ na ∧ QuAt wx bq x' R { st with L := [], last := st.committed, acked := minL st.acked st.committed j } ∧ Fr [x.ga] V1 wx) (fun _ i _ => na - (intOf i).toNat)
      case atStart => exact ⟨0, rfl, Nat.zero_le _, by have h : minL st.acked st.committed 0 = st.acked := by simp [minL]
                                                       rw [h]; exact HQV.out, Fr.refl _ _⟩
      case round =>
        obtain ⟨j, rfl, hj, hqj, hfj⟩ := hrel
        have HQJ := Lib.hid hqj; have HFJ := Lib.hid hfj; clear hqj hfj
        by_cases hlj : j < na
        · have hlen : (minL st.acked st.committed j).length = na := by rw [minL_len]; exact HNA.out
          have hAA : x'.aA = some ⟨x.ga, 0, none⟩ ∧ wr.there x.ga 0 na ∧ ∀ i, i < na → wr.cell? ⟨x.ga, i, none⟩ = some (.int .i64 (minL st.acked st.committed j)[i]!) := by
            have h := HQJ.out.ack
            simp only [hlen] at h
            rw [HXX.out.2.1] at h
            rcases h with h | h
            · omega
            · exact h
          have d5 : wr.cell? ⟨bq, 5, none⟩ = some (.slice (some ⟨x.ga, 0, none⟩) na x'.ac) := by
            rw [cellH HQJ.out.box, hAA.1]; simp [hlen]
          have d7 : wr.cell? ⟨bq, 7, none⟩ = some (.int .i64 st.committed) := by rw [cellH HQJ.out.box]; rfl
          have da := hAA.2.2 j hlj
          rw [minL_at _ _ _ (by rw [HNA.out]; exact hlj)] at da
          have fa : wr.frozen? ⟨x.ga, j, none⟩ = false := by have := (hAA.2.1 j hlj).2; rwa [Nat.zero_add] at this
          have hjn : (j : Int) < (na : Int) := by omega
          have hj0 : (0 : Int) ≤ (j : Int) := by omega
          have HSET := Lib.hid (show QuAt (wr.setCell ⟨x.ga, j, none⟩ (.int .i64 (min st.acked[j]! st.committed))).drew bq x' R { st with L := [], last := st.committed, acked := minL st.acked st.committed (j + 1) } from by
            have h := (HQJ.out.setAck (v := j) (by simp only [hlen]; exact hlj) (min st.acked[j]! st.committed)).fr (Fr.drewN [] _ 1) (by simp) (by simp) (by simp) (by simp)
            rw [HXX.out.2.1] at h
            simp only [minL_set st.acked st.committed j (by rw [HNA.out]; exact hlj)] at h
            exact h)
          clear hAA hlen
          generalize st.acked[j]! = y at *
          go_wp2_with fail
          go_region
          all_goals go_wp2_with fail
          go_roundw
          case rel => exact ⟨j + 1, by go_num, by omega, HSET.out, (HFJ.out.set (by simp) j _).trans (Fr.drewN [] _ 1) (by simp)⟩
          case measure => simp [intOf]; omega
        · obtain rfl : j = na := by omega
          go_wp2_with fail
          go_ret
          have hall : minL st.acked st.committed j = st.acked.map (fun x => min x st.committed) := by rw [← HNA.out]; exact minL_all _ _
          have hq9 := HQJ.out
          rw [hall] at hq9
          have hfin : ∀ {hh : PrH} {pp : PrT}, PrAt V1 R hh pp → PrAt wr R hh pp := fun H => H.fr (R' := R) HFJ.out (fun b _ hb => ⟨by
            simp
            intro e
            subst e
            exact hRga hb, hb⟩)
          exact ⟨⟨A, c, Hs, x', by rw [HN.out]; rfl, by rw [HN.out]; exact own_fr HRV.out HFJ.out (fun g hg => HOWN.out g (by simp at hg; simp [hg])), by rw [HHL.out, HN.out], fun i hi => hfin (HPV.out i (by rw [← HN.out]; exact hi)), HXX.out, hq9⟩, HFV.out.trans HFJ.out (fun g hg => .inl (by simp at hg; simp [hg]))⟩
end Go.Proofs.YtbpmmmnphpkdjaaGreatDoor
namespace Go.Proofs.YtbpmmmnphpkdjaaGreatDoor
open Go.RowKit Go.MapKept Go.Maps
theorem run_mk {ST T : TypeId} {z : Value} {k bs : Nat} (hu : Tryz.prog.underlying ST = some (.slice T)) (hi : (Tryz.prog.info? T).map (fun i => (i.zero, i.size, i.bytes)) = some (some z, k, bs)) (hb : bs ≤ 4096) (m : Nat) (hm : m ≤ 16384) (W : World) :
    (Instr.makeSlice ST (.int .i64 ↑m) (.int .i64 ↑m)).run Tryz.prog W = .ok (.slice (some ⟨W.heap.size, 0, none⟩) m m) (W.alloc (.cells (madeCells z.cells (m * k)) T)) := by
  obtain ⟨i, h1, h2, h3, h4⟩ := info_partsI hi
  have hb2 : (i.bytes : Int) * (m : Int) ≤ 281474976710656 := by
    have h5 : i.bytes * m ≤ 4096 * 16384 := Nat.mul_le_mul (by omega) hm
    have h6 : (i.bytes : Int) * (m : Int) = ((i.bytes * m : Nat) : Int) := by simp
    rw [h6]; omega
  have := run_make (P := Tryz.prog) W ST T i z hu h1 h2 .i64 .i64 (m : Int) (m : Int) (by omega) (Int.le_refl _) hb2 (by omega)
  rw [Int.toNat_natCast, h3] at this
  exact this
theorem infoVt : (Tryz.prog.info? 82).map (fun i => (i.zero, i.size, i.bytes)) = some (some (.agg #[.int .i64 0, .int .i64 0]), 2, 16) := by kernel_rfl
theorem madeVt (m i : Nat) (hi : i < m) : (madeCells (Value.agg #[.int .i64 0, .int .i64 0]).cells (m * 2))[i * 2]? = some (.int .i64 0) ∧ (madeCells (Value.agg #[.int .i64 0, .int .i64 0]).cells (m * 2))[i * 2 + 1]? = some (.int .i64 0) := by
  show (madeCells #[.int .i64 0, .int .i64 0] (m * 2))[i * 2]? = _ ∧ (madeCells #[.int .i64 0, .int .i64 0] (m * 2))[i * 2 + 1]? = _
  constructor
  · rw [Array.getElem?_eq_getElem (by rw [size_madeCells]; omega)]
    simp [madeCells]
  · rw [Array.getElem?_eq_getElem (by rw [size_madeCells]; omega)]
    simp [madeCells, Nat.add_mod]
theorem madeI (m i : Nat) (hi : i < m) : (madeCells (Value.int .i64 0).cells (m * 1))[i]? = some (.int .i64 0) := by
  show (madeCells #[.int .i64 0] (m * 1))[i]? = _
  rw [Array.getElem?_eq_getElem (by rw [size_madeCells]; omega)]
  simp [madeCells, Nat.mod_one]
/-- the voters' array, k of them set -/
structure NwS (w : World) (v k : Nat) (wr : World) : Prop where
  c : ∃ C : Array Value, wr.heap[w.heap.size]? = some (.cells C 82 (0, 0)) ∧ ∀ i, i < v → C[i * 2]? = some (.int .i64 0) ∧ C[i * 2 + 1]? = some (.int .i64 (if i < k then 1 else 0))
  b : Below w.heap.size w wr
  s : wr.heap.size = w.heap.size + 1
def newS (bound : Int) (v : Nat) : QuT := ⟨[], bound, List.replicate v (0, 1), List.replicate v 0, 0, 0⟩
/-- a queue, and more of where it lies -/
structure QuW (w : World) (bq : Nat) (x : QuX) (R : Nat → Prop) (st : QuT) : Prop where
  q : QuAt w bq x R st
  gr : x.gr < w.heap.size
  ga : x.ga < w.heap.size
  rga : ¬ R x.ga
  cap : x.cap ≤ 8192
def NewOk (st : QuT) (w : World) (e : Ending) (w' : World) : Prop :=
  (∃ bq x R, e = .returned (.tuple #[.pointer (some ⟨bq, 0, none⟩), .int .i64 0]) ∧ QuW w' bq x R st ∧ w.heap.size ≤ bq ∧ w.heap.size ≤ x.gr ∧ w.heap.size ≤ x.ga ∧ ∀ b, R b → w.heap.size ≤ b) ∧ Below w.heap.size w w'
def NewNo (w : World) (e : Ending) (w' : World) : Prop := e = .returned (.tuple #[.pointer none, .int .i64 1]) ∧ Below w.heap.size w w'
set_option maxRecDepth 100000 in
set_option maxHeartbeats 4000000 in
theorem new_no (bound v : Int) (w : World) (h : bound < 0 ∨ 4096 < bound ∨ v < 0 ∨ 9 < v) : Calls Tryz.prog 18 #[.int .i64 bound, .int .i64 v] w (NewNo w) := by
  by_cases h1 : bound < 0
  · have b1 : decide (bound < 0) = true := decide_eq_true h1
    clear h h1
    go_enter Tryz.func18, Tryz.ntmps18
    go_wp2_with fail
    go_ret2
    exact ⟨rfl, Below.refl _ _⟩
  · have b1 : decide (bound < 0) = false := decide_eq_false h1
    by_cases h2 : 4096 < bound
    · have b2 : decide (4096 < bound) = true := decide_eq_true h2
      clear h h1 h2
      go_enter Tryz.func18, Tryz.ntmps18
      go_wp2_with fail
      go_ret2
      exact ⟨rfl, Below.refl _ _⟩
    · have b2 : decide (4096 < bound) = false := decide_eq_false h2
      by_cases h3 : v < 0
      · have b3 : decide (v < 0) = true := decide_eq_true h3
        clear h h1 h2 h3
        go_enter Tryz.func18, Tryz.ntmps18
        go_wp2_with fail
        go_ret2
        exact ⟨rfl, Below.refl _ _⟩
      · have b3 : decide (v < 0) = false := decide_eq_false h3
        have b4 : decide (9 < v) = true := decide_eq_true (by omega)
        clear h h1 h2 h3
        go_enter Tryz.func18, Tryz.ntmps18
        go_wp2_with fail
        go_ret2
        exact ⟨rfl, Below.refl _ _⟩
set_option maxRecDepth 100000 in
set_option maxHeartbeats 4000000 in
theorem new_ok (bound : Int) (v : Nat) (w : World) (h1 : 0 ≤ bound) (h2 : bound ≤ 4096) (h3 : v ≤ 9) : Calls Tryz.prog 18 #[.int .i64 bound, .int .i64 v] w (NewOk (newS bound v) w) := by
  have b1 : decide (bound < 0) = false := decide_eq_false (by omega)
  have b2 : decide (4096 < bound) = false := decide_eq_false (by omega)
  have b3 : decide ((v : Int) < 0) = false := decide_eq_false (by omega)
  have b4 : decide (9 < v) = false := decide_eq_false (by omega)
  have hmk : (Instr.makeSlice 25 (.int .i64 ↑v) (.int .i64 ↑v)).run Tryz.prog w = .ok (.slice (some ⟨w.heap.size, 0, none⟩) v v) (w.alloc (.cells (madeCells #[.int .i64 0, .int .i64 0] (v * 2)) 82)) := run_mk Tryz.underlying25 infoVt (by decide) v (by omega) w
  have HST := Lib.hid (show NwS w v 0 (w.alloc (.cells (madeCells #[.int .i64 0, .int .i64 0] (v * 2)) 82)) from ⟨⟨_, heap_s0 w _, fun i hi => by rw [if_neg (by omega)]; exact madeVt v i hi⟩, (Below.refl _ w).alloc (Nat.le_refl _) _, sz1 w _⟩)
  have HB := Lib.hid h2
  clear h1 h2
  go_enter Tryz.func18, Tryz.ntmps18
  go_wp2_with fail
  clear hmk b1 b2 b3 b4
  generalize w.alloc (.cells (madeCells #[.int .i64 0, .int .i64 0] (v * 2)) 82) = W1 at *
  go_loopw [7, 26] (fun _ i wr => ∃ k : Nat, i = .int .i64 ↑k ∧ k ≤ v ∧ NwS w v k wr) (fun _ i _ => v - (intOf i).toNat)
  case atStart => exact ⟨0, rfl, Nat.zero_le _, HST.out⟩
  case round =>
    obtain ⟨k, rfl, hk, hS⟩ := hrel
    have HS := Lib.hid hS; clear hS
    by_cases hlt : k < v
    · obtain ⟨C, hC, hc⟩ := HS.out.c
      have c1 : wr.cell? ⟨w.heap.size, k * 2 + 1, none⟩ = some (.int .i64 0) := by rw [cellH hC, (hc k hlt).2, if_neg (by omega)]
      have f1 : wr.frozen? ⟨w.heap.size, k * 2 + 1, none⟩ = false := by simp [World.frozen?, hC]
      have HN := Lib.hid (show NwS w v (k + 1) (wr.setCell ⟨w.heap.size, k * 2 + 1, none⟩ (.int .i64 1)) from ⟨⟨_, heap_setN hC _, fun i hi => by
        have hsz : k * 2 + 1 < C.size := (Array.getElem?_eq_some_iff.1 (hc k hlt).2).1
        refine ⟨?_, ?_⟩
        · rw [Array.getElem?_setIfInBounds_ne (by omega)]; exact (hc i hi).1
        · by_cases e : i = k
          · subst e; rw [Array.getElem?_setIfInBounds_self_of_lt hsz, if_pos (by omega)]
          · rw [Array.getElem?_setIfInBounds_ne (by omega), (hc i hi).2]
            by_cases h : i < k
            · rw [if_pos h, if_pos (by omega)]
            · rw [if_neg h, if_neg (by omega)]⟩, HS.out.b.setCell (Nat.le_refl _) _, by rw [← HS.out.s]; simp [World.setCell]⟩)
      clear hC hc
      go_wp2_with fail
      go_roundw
      case rel => exact ⟨k + 1, by go_num, by omega, HN.out⟩
      case measure => simp [intOf]; omega
    · obtain rfl : k = v := by omega
      have hmk : (Instr.makeSlice 75 (.int .i64 ↑k) (.int .i64 ↑k)).run Tryz.prog wr = .ok (.slice (some ⟨wr.heap.size, 0, none⟩) k k) (wr.alloc (.cells (madeCells #[.int .i64 0] (k * 1)) 2)) := run_mk Tryz.underlying75 infoI64 (by decide) k (by omega) wr
      rw [Nat.mul_one] at hmk
      go_wp2_with fail
      go_ret2
      have hF1 : Below wr.heap.size wr (wr.alloc (.cells (madeCells #[.int .i64 0] k) 2)) := (Below.refl _ wr).alloc (Nat.le_refl _) _
      have hg1 := heap_s0 wr (.cells (madeCells #[.int .i64 0] k) 2)
      have hs1 := sz1 wr (.cells (madeCells #[.int .i64 0] k) 2)
      generalize wr.alloc (.cells (madeCells #[.int .i64 0] k) 2) = W2 at *
      obtain ⟨C, hC, hc⟩ := HS.out.c
      have hws := HS.out.s
      have hF2 : Below W2.heap.size W2 (W2.alloc (.cells #[.slice none 0 0, .int .i64 0, .int .i64 0, .int .i64 bound, .slice (some ⟨w.heap.size, 0, none⟩) k k, .slice (some ⟨wr.heap.size, 0, none⟩) k k, .int .i64 0, .int .i64 0] 135)) := (Below.refl _ W2).alloc (Nat.le_refl _) _
      have hbx : (W2.alloc (.cells #[.slice none 0 0, .int .i64 0, .int .i64 0, .int .i64 bound, .slice (some ⟨w.heap.size, 0, none⟩) k k, .slice (some ⟨wr.heap.size, 0, none⟩) k k, .int .i64 0, .int .i64 0] 135)).heap[wr.heap.size + 1]? = _ := heap_top' hs1
      have hsz := sz1 W2 (.cells #[.slice none 0 0, .int .i64 0, .int .i64 0, .int .i64 bound, .slice (some ⟨w.heap.size, 0, none⟩) k k, .slice (some ⟨wr.heap.size, 0, none⟩) k k, .int .i64 0, .int .i64 0] 135)
      have hFF := HS.out.b.trans ((hF1.mono (by omega)).trans (hF2.mono (by omega)))
      have hgV := (hF2.block w.heap.size (by omega)).trans ((hF1.block w.heap.size (by omega)).trans hC)
      have hgA := (hF2.block wr.heap.size (by omega)).trans hg1
      generalize W2.alloc (.cells #[.slice none 0 0, .int .i64 0, .int .i64 0, .int .i64 bound, .slice (some ⟨w.heap.size, 0, none⟩) k k, .slice (some ⟨wr.heap.size, 0, none⟩) k k, .int .i64 0, .int .i64 0] 135) = W3 at *
      have hrp : ∀ j, j < k → (List.replicate k ((0, 1) : VtV))[j]! = (0, 1) := fun j hj => by rw [getElem!_pos _ j (by simpa using hj)]; simp
      have hrz : ∀ j, j < k → (List.replicate k (0 : Int))[j]! = 0 := fun j hj => by rw [getElem!_pos _ j (by simpa using hj)]; simp
      have hmi : ∀ j, j < k → (madeCells #[.int .i64 0] k)[j]? = some (.int .i64 0) := fun j hj => by have := madeI k j hj; rwa [Nat.mul_one] at this
      refine ⟨⟨wr.heap.size + 1, ⟨wr.heap.size + 1, 0, 0, none, (some ⟨w.heap.size, 0, none⟩, k, k), wr.heap.size, k, some ⟨wr.heap.size, 0, none⟩⟩, (· = w.heap.size), rfl, ⟨⟨?_, ?_, ?_, ?_, ?_, ?_, ?_, ?_, ?_⟩, ?_, ?_, ?_, ?_⟩, ?_, ?_, ?_, ?_⟩, hFF⟩
      · rw [hbx]; simp [newS]
      · exact ⟨Nat.le_refl _, .inr ⟨rfl, rfl⟩, .inl ⟨rfl, rfl⟩, .inr rfl, fun j hj => absurd hj (by simp [newS])⟩
      · refine ⟨by simp [newS], ⟨(fun h => by cases h), Nat.le_refl _⟩, fun _ => ⟨w.heap.size, 0, rfl, rfl, fun j hj i u hu => ?_⟩⟩
        have hj' : j < k := hj
        rw [show (newS bound k).vs = List.replicate k (0, 1) from rfl, hrp j hj'] at hu
        rw [Nat.zero_add, cellH hgV]
        have h2 := hc j hj'
        rw [if_pos hj'] at h2
        match i, hu with
        | 0, hu => rw [Nat.add_zero, h2.1]; exact hu
        | 1, hu => rw [h2.2]; exact hu
      · refine .inr ⟨rfl, fun j hj => ?_, fun j hj => ?_⟩
        · have hj' : j < k := by simpa [newS] using hj
          exact ⟨by rw [Nat.zero_add, cellH hgA, hmi j hj']; rfl, by simp [World.frozen?, hgA]⟩
        · have hj' : j < k := by simpa [newS] using hj
          rw [cellH hgA, hmi j hj', show (newS bound k).acked = List.replicate k 0 from rfl, hrz j hj']
      · simp [newS]
      · rintro b rfl; omega
      · show ¬ wr.heap.size + 1 = w.heap.size; omega
      · intro h; exact absurd h (by simp)
      · intro _; exact ⟨by show wr.heap.size ≠ _; omega, by show ¬ wr.heap.size = _; omega, by show wr.heap.size < _; omega, fun h => absurd h (by simp)⟩
      · show wr.heap.size + 1 < _; omega
      · show wr.heap.size < _; omega
      · show ¬ wr.heap.size = _; omega
      · show 0 ≤ 8192; omega
      · omega
      · show _ ≤ wr.heap.size + 1; omega
      · show _ ≤ wr.heap.size; omega
      · rintro b rfl; exact Nat.le_refl _
end Go.Proofs.YtbpmmmnphpkdjaaGreatDoor
