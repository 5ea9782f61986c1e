/- What was written of a delta that may be is read back: transactions, the whole (plain). No program; no condition. -/
import Derived.Test.YthpjneobmmpbnaaGreatDoorDCdd
namespace Go.Proofs.YthpjneobmmpbnaaGreatDoor
open Go.RowKit
theorem named_own0 {z : Int} {v : TxF} {k : Nat} (h : ownE z v k = 0) : namedB v = false := by
  unfold ownE at h
  split at h
  · cases h
  · rename_i h2; simpa using h2
/-- what a transaction that may be does not have -/
structure Spare (v : TxF) (k : Nat) : Prop where
  path : partB v.n.ty = false → v.n.path = ByteArray.empty
  data : ¬ (v.n.ty = 1 ∨ v.n.ty = 5) → v.data = []
  acl : ¬ (v.n.ty = 1 ∨ v.n.ty = 7) → v.acl = []
  ow : v.n.ty ≠ 1 → v.n.ow = 0
  cr : v.n.ty ≠ 1 → v.n.cr = 0
  ve : ¬ (v.n.ty = 5 ∨ v.n.ty = 7 ∨ v.n.ty = 13) → v.n.ve = 0
  q : v.n.ty ≠ 120 → v.n.qh = false ∧ v.n.qc = 0 ∧ v.n.qb = 0
  paths : v.n.ty ≠ -11 → v.paths = []
  co : v.n.ty ≠ -1 → v.n.co = 0
  k : v.n.ty ≠ 14 → k = 0
  s : v.n.ty ≠ -10 → v.n.si = 0 ∧ v.n.st = 0 ∧ v.ids = []
theorem spare_all {v : TxF} {k : Nat} (h : spareB v k = false) : Spare v k := by
  unfold spareB at h
  simp only [Bool.or_eq_false_iff, Bool.and_eq_false_iff, Bool.not_eq_false', decide_eq_true_eq, decide_eq_false_iff_not, Classical.not_not] at h
  obtain ⟨⟨⟨⟨⟨⟨⟨⟨⟨⟨h1, h2⟩, h3⟩, h4⟩, h5⟩, h6⟩, h7⟩, h8⟩, h9⟩, h10⟩, h11⟩ := h
  refine ⟨fun e => h1.resolve_left (by rw [e]; simp), fun e => h2.resolve_left e, fun e => h3.resolve_left e, fun e => h4.resolve_left e, fun e => h5.resolve_left e, fun e => h6.resolve_left e, fun e => ?_, fun e => h8.resolve_left e, fun e => h9.resolve_left e, fun e => h10.resolve_left e, fun e => ?_⟩
  · have := h7.resolve_left e; exact ⟨this.1.1, this.1.2, this.2⟩
  · have := h11.resolve_left e; exact ⟨this.1.1, this.1.2, this.2⟩
theorem okTxt_of {m : Nat} {s : ByteArray} (h : s.size ≤ m) (hv : Lib.validD s.data.toList = true) : okTxt m (bsOf8 s) := ⟨by unfold bsOf8; simpa using h, hv⟩
theorem ident_read {x : IdV} (h : identP x = true) : okTxt 256 (bsOf8 x.1) ∧ okTxt 256 (bsOf8 x.2) := by
  have t : ∀ s : ByteArray, textOk s = true → okTxt 256 (bsOf8 s) := fun s h => by
    unfold textOk at h
    simp only [Bool.and_eq_true, decide_eq_true_eq] at h
    refine okTxt_of h.1.1.2 ?_
    have := h.1.2
    unfold validFrom at this
    rwa [List.drop_zero] at this
  unfold identP at h
  simp only [Bool.and_eq_true] at h
  exact ⟨t _ h.1.1, t _ h.1.2⟩
/-- what a transaction that may be has -/
structure LfF (z : Int) (v : TxF) : Prop where
  pv : partB v.n.ty = true → validP v.n.path = true
  dl : v.data.length ≤ 1048575
  al : v.acl.length ≤ 16
  ae : ∀ x ∈ v.acl, okTxt 256 (bsOf8 x.2.1) ∧ okTxt 256 (bsOf8 x.2.2)
  s : v.n.ty = -10 → rightS (z, v.n.st, v.ids) ∧ v.n.si = 0
  pl : v.paths.length ≤ 1024
  pe : v.n.ty = -11 → ∀ p ∈ v.paths, validP p = true
  q : v.n.ty = 120 → v.n.qh = true
theorem lf_of {z : Int} {v : TxF} {k : Nat} (h : ownE z v k = 0) : LfF z v ∧ Spare v k := by
  have hn := named_own0 h
  have hg := own_great h
  have ho := ownE_odd h
  refine ⟨?_, spare_all (spare_no h)⟩
  unfold greatB at hg
  simp only [Bool.or_eq_false_iff, decide_eq_false_iff_not] at hg
  obtain ⟨⟨⟨⟨⟨g1, g2⟩, g3⟩, g4⟩, g5⟩, g6⟩ := hg
  unfold oddB at ho
  simp only [Bool.or_eq_false_iff] at ho
  obtain ⟨⟨o1, -⟩, o3⟩ := ho
  unfold namedB at hn
  refine ⟨fun hp => ?_, by omega, by omega, fun x hx => ?_, fun ht => ?_, by omega, fun ht p hp => ?_, fun ht => ?_⟩
  · by_cases h12 : v.n.ty = 1 ∨ v.n.ty = 2
    · rw [if_pos h12] at hn
      unfold badB at hn
      simp only [Bool.or_eq_false_iff, Bool.not_eq_false'] at hn
      exact hn.1
    · rw [if_neg h12, if_pos hp] at hn
      simpa using hn
  · have a1 := List.any_eq_false.1 g5 x hx
    have a2 := List.any_eq_false.1 o1 x hx
    unfold longB at a1
    unfold utf8B at a2
    simp only [Bool.or_eq_true, decide_eq_true_eq, not_or, Bool.not_eq_true'] at a1 a2
    exact ⟨okTxt_of (by omega) (by simpa using a2.1), okTxt_of (by omega) (by simpa using a2.2)⟩
  · rw [if_neg (by omega), if_neg (by omega), if_pos ht] at o3
    simp only [Bool.or_eq_false_iff, decide_eq_false_iff_not, Classical.not_not, Bool.not_eq_false', decide_eq_true_eq] at o3
    exact ⟨o3.2, o3.1⟩
  · rw [if_neg (by omega), if_neg (by rw [ht]; decide), if_pos ht] at hn
    have a1 := List.any_eq_false.1 hn p hp
    unfold badB at a1
    simp only [Bool.or_eq_true, not_or, Bool.not_eq_true'] at a1
    simpa using a1.1
  · rw [if_neg (by omega), if_pos ht] at o3
    simp only [Bool.or_eq_false_iff, Bool.not_eq_false'] at o3
    exact o3.1.1
set_option linter.unusedSimpArgs false in
theorem leaf_fwd {z : Int} {v : TxF} {k : Nat} (ho : ownE z v k = 0) (hs : TxSm 1048576 v k) (hk : knownB v.n.ty = true) (h14 : v.n.ty ≠ 14) (a c : Bs) : leafP (a ++ (leafB v ++ c)) v.n.ty a.length = .ok (v, a.length + (leafB v).length) := by
  obtain ⟨L, S⟩ := lf_of ho
  obtain ⟨⟨i1, i2, i3, i4, i5, i6, i7, i8, i9⟩, -, -, -, -, -, -, hacl, -, -⟩ := hs
  have HA : ∀ x ∈ v.acl.map backA, in32 x.1 ∧ okTxt 256 x.2.1 ∧ okTxt 256 x.2.2 := fun x hx => by
    obtain ⟨y, hy, rfl⟩ := List.mem_map.1 hx
    obtain ⟨j, hj, rfl⟩ := List.getElem_of_mem hy
    have h1 := (hacl j hj).1
    rw [getElem!_pos v.acl j hj] at h1
    exact ⟨h1, L.ae _ hy⟩
  clear ho hacl
  obtain ⟨⟨ty, path, ow, ve, cr, qh, qc, qb, si, st, co⟩, data, acl, ids, paths⟩ := v
  obtain ⟨s1, s2, s3, s4, s5, s6, s7, s8, s9, -, s11⟩ := S
  dsimp only at *
  rcases ty_cases ty with e | e | e | e | e | e | e | e | e | e | e | ⟨h1, h2, h3, h4, h5, h6, h7, h8, h9, h10, h11⟩
  · subst e
    have HP : path.size ≤ 4096 ∧ 1 ≤ path.size ∧ Lib.validD path.data.toList = true := path_utf8 (L.pv (show partB 1 = true by decide))
    obtain rfl := s6 (by decide)
    obtain ⟨rfl, rfl, rfl⟩ := s7 (by decide)
    obtain rfl := s8 (by decide)
    obtain rfl := s9 (by decide)
    obtain ⟨rfl, rfl, rfl⟩ := s11 (by decide)
    refine (Fw.map ((textC (m := 4096) (by decide)).fw.bind fun _ _ => ((bytesC (m := 1048575) (by decide)).fw.bind fun _ _ => (aclsFw.bind fun _ _ => (longC.fw.bind fun _ _ => (intC.fw))))) (fun x => (⟨⟨1, toBA x.1, x.2.2.2.1, 0, x.2.2.2.2, false, 0, 0, 0, 0, 0⟩, x.2.1, x.2.2.1.map aclV, [], []⟩ : TxF)) (E := fun y => y = _) (C := leafB) (P' := fun l p => leafP l 1 p) (fun l p => ?_) (fun y hy => ⟨(bsOf8 path, data, acl.map backA, ow, cr), ⟨okTxt_of HP.1 HP.2.2, ⟨L.dl, ⟨⟨by rw [List.length_map]; exact L.al, HA⟩, ⟨i2, i4⟩⟩⟩⟩, ?_, ?_⟩)).fwd a c _ rfl
    · show (textP l 4096 p).then _ = _
      simp only [then_assoc, thenOk]
    · subst hy
      (try dsimp only)
      rw [backA_map]
      (try rfl)
    · subst hy
      unfold leafB
      (try dsimp only)
      rw [buf_txt, acls_eq]
      simp [List.append_assoc]
  · subst e
    have HP : path.size ≤ 4096 ∧ 1 ≤ path.size ∧ Lib.validD path.data.toList = true := path_utf8 (L.pv (show partB 2 = true by decide))
    obtain rfl := s2 (by decide)
    obtain rfl := s3 (by decide)
    obtain rfl := s4 (by decide)
    obtain rfl := s5 (by decide)
    obtain rfl := s6 (by decide)
    obtain ⟨rfl, rfl, rfl⟩ := s7 (by decide)
    obtain rfl := s8 (by decide)
    obtain rfl := s9 (by decide)
    obtain ⟨rfl, rfl, rfl⟩ := s11 (by decide)
    refine (Fw.map ((textC (m := 4096) (by decide)).fw) (fun x => (⟨⟨2, toBA x, 0, 0, 0, false, 0, 0, 0, 0, 0⟩, [], [], [], []⟩ : TxF)) (E := fun y => y = _) (C := leafB) (P' := fun l p => leafP l 2 p) (fun l p => ?_) (fun y hy => ⟨(bsOf8 path), okTxt_of HP.1 HP.2.2, ?_, ?_⟩)).fwd a c _ rfl
    · show (textP l 4096 p).then _ = _
      rfl
    · subst hy
      (try dsimp only)
      rfl
    · subst hy
      unfold leafB
      (try dsimp only)
      rw [buf_txt]
      simp [List.append_assoc]
  · subst e
    have HP : path.size ≤ 4096 ∧ 1 ≤ path.size ∧ Lib.validD path.data.toList = true := path_utf8 (L.pv (show partB 121 = true by decide))
    obtain rfl := s2 (by decide)
    obtain rfl := s3 (by decide)
    obtain rfl := s4 (by decide)
    obtain rfl := s5 (by decide)
    obtain rfl := s6 (by decide)
    obtain ⟨rfl, rfl, rfl⟩ := s7 (by decide)
    obtain rfl := s8 (by decide)
    obtain rfl := s9 (by decide)
    obtain ⟨rfl, rfl, rfl⟩ := s11 (by decide)
    refine (Fw.map ((textC (m := 4096) (by decide)).fw) (fun x => (⟨⟨121, toBA x, 0, 0, 0, false, 0, 0, 0, 0, 0⟩, [], [], [], []⟩ : TxF)) (E := fun y => y = _) (C := leafB) (P' := fun l p => leafP l 121 p) (fun l p => ?_) (fun y hy => ⟨(bsOf8 path), okTxt_of HP.1 HP.2.2, ?_, ?_⟩)).fwd a c _ rfl
    · show (textP l 4096 p).then _ = _
      rfl
    · subst hy
      (try dsimp only)
      rfl
    · subst hy
      unfold leafB
      (try dsimp only)
      rw [buf_txt]
      simp [List.append_assoc]
  · subst e
    have HP : path.size ≤ 4096 ∧ 1 ≤ path.size ∧ Lib.validD path.data.toList = true := path_utf8 (L.pv (show partB 5 = true by decide))
    obtain rfl := s3 (by decide)
    obtain rfl := s4 (by decide)
    obtain rfl := s5 (by decide)
    obtain ⟨rfl, rfl, rfl⟩ := s7 (by decide)
    obtain rfl := s8 (by decide)
    obtain rfl := s9 (by decide)
    obtain ⟨rfl, rfl, rfl⟩ := s11 (by decide)
    refine (Fw.map ((textC (m := 4096) (by decide)).fw.bind fun _ _ => ((bytesC (m := 1048575) (by decide)).fw.bind fun _ _ => (intC.fw))) (fun x => (⟨⟨5, toBA x.1, 0, x.2.2, 0, false, 0, 0, 0, 0, 0⟩, x.2.1, [], [], []⟩ : TxF)) (E := fun y => y = _) (C := leafB) (P' := fun l p => leafP l 5 p) (fun l p => ?_) (fun y hy => ⟨(bsOf8 path, data, ve), ⟨okTxt_of HP.1 HP.2.2, ⟨L.dl, i3⟩⟩, ?_, ?_⟩)).fwd a c _ rfl
    · show (textP l 4096 p).then _ = _
      simp only [then_assoc, thenOk]
    · subst hy
      (try dsimp only)
      rfl
    · subst hy
      unfold leafB
      (try dsimp only)
      rw [buf_txt]
      simp [List.append_assoc]
  · subst e
    have HP : path.size ≤ 4096 ∧ 1 ≤ path.size ∧ Lib.validD path.data.toList = true := path_utf8 (L.pv (show partB 7 = true by decide))
    obtain rfl := s2 (by decide)
    obtain rfl := s4 (by decide)
    obtain rfl := s5 (by decide)
    obtain ⟨rfl, rfl, rfl⟩ := s7 (by decide)
    obtain rfl := s8 (by decide)
    obtain rfl := s9 (by decide)
    obtain ⟨rfl, rfl, rfl⟩ := s11 (by decide)
    refine (Fw.map ((textC (m := 4096) (by decide)).fw.bind fun _ _ => (aclsFw.bind fun _ _ => (intC.fw))) (fun x => (⟨⟨7, toBA x.1, 0, x.2.2, 0, false, 0, 0, 0, 0, 0⟩, [], x.2.1.map aclV, [], []⟩ : TxF)) (E := fun y => y = _) (C := leafB) (P' := fun l p => leafP l 7 p) (fun l p => ?_) (fun y hy => ⟨(bsOf8 path, acl.map backA, ve), ⟨okTxt_of HP.1 HP.2.2, ⟨⟨by rw [List.length_map]; exact L.al, HA⟩, i3⟩⟩, ?_, ?_⟩)).fwd a c _ rfl
    · show (textP l 4096 p).then _ = _
      simp only [then_assoc, thenOk]
    · subst hy
      (try dsimp only)
      rw [backA_map]
      (try rfl)
    · subst hy
      unfold leafB
      (try dsimp only)
      rw [buf_txt, acls_eq]
      simp [List.append_assoc]
  · subst e
    have HP : path.size ≤ 4096 ∧ 1 ≤ path.size ∧ Lib.validD path.data.toList = true := path_utf8 (L.pv (show partB 13 = true by decide))
    obtain rfl := s2 (by decide)
    obtain rfl := s3 (by decide)
    obtain rfl := s4 (by decide)
    obtain rfl := s5 (by decide)
    obtain ⟨rfl, rfl, rfl⟩ := s7 (by decide)
    obtain rfl := s8 (by decide)
    obtain rfl := s9 (by decide)
    obtain ⟨rfl, rfl, rfl⟩ := s11 (by decide)
    refine (Fw.map ((textC (m := 4096) (by decide)).fw.bind fun _ _ => (intC.fw)) (fun x => (⟨⟨13, toBA x.1, 0, x.2, 0, false, 0, 0, 0, 0, 0⟩, [], [], [], []⟩ : TxF)) (E := fun y => y = _) (C := leafB) (P' := fun l p => leafP l 13 p) (fun l p => ?_) (fun y hy => ⟨(bsOf8 path, ve), ⟨okTxt_of HP.1 HP.2.2, i3⟩, ?_, ?_⟩)).fwd a c _ rfl
    · show (textP l 4096 p).then _ = _
      simp only [then_assoc, thenOk]
    · subst hy
      (try dsimp only)
      rfl
    · subst hy
      unfold leafB
      (try dsimp only)
      rw [buf_txt]
      simp [List.append_assoc]
  · subst e
    have HP : path.size ≤ 4096 ∧ 1 ≤ path.size ∧ Lib.validD path.data.toList = true := path_utf8 (L.pv (show partB 120 = true by decide))
    obtain rfl := s2 (by decide)
    obtain rfl := s3 (by decide)
    obtain rfl := s4 (by decide)
    obtain rfl := s5 (by decide)
    obtain rfl := s6 (by decide)
    obtain rfl : qh = true := L.q rfl
    obtain rfl := s8 (by decide)
    obtain rfl := s9 (by decide)
    obtain ⟨rfl, rfl, rfl⟩ := s11 (by decide)
    refine (Fw.map ((textC (m := 4096) (by decide)).fw.bind fun _ _ => (longC.fw.bind fun _ _ => (longC.fw))) (fun x => (⟨⟨120, toBA x.1, 0, 0, 0, true, x.2.1, x.2.2, 0, 0, 0⟩, [], [], [], []⟩ : TxF)) (E := fun y => y = _) (C := leafB) (P' := fun l p => leafP l 120 p) (fun l p => ?_) (fun y hy => ⟨(bsOf8 path, qc, qb), ⟨okTxt_of HP.1 HP.2.2, ⟨i5, i6⟩⟩, ?_, ?_⟩)).fwd a c _ rfl
    · show (textP l 4096 p).then _ = _
      simp only [then_assoc, thenOk]
    · subst hy
      (try dsimp only)
      rfl
    · subst hy
      unfold leafB
      (try dsimp only)
      rw [buf_txt]
      simp [List.append_assoc]
  · exact absurd e h14
  · subst e
    obtain rfl := s1 (by decide)
    obtain rfl := s2 (by decide)
    obtain rfl := s3 (by decide)
    obtain rfl := s4 (by decide)
    obtain rfl := s5 (by decide)
    obtain rfl := s6 (by decide)
    obtain ⟨rfl, rfl, rfl⟩ := s7 (by decide)
    obtain rfl := s8 (by decide)
    obtain rfl := s9 (by decide)
    obtain ⟨hr, hsi⟩ := L.s rfl
    obtain rfl : si = 0 := hsi
    have HS : ids.length ≤ 16 ∧ ∀ x ∈ ids.map backI, okTxt 256 x.1 ∧ okTxt 256 x.2 := ⟨hr.2.2.2.1, fun x hx => by
      obtain ⟨y, hy, rfl⟩ := List.mem_map.1 hx
      obtain ⟨j, hj, rfl⟩ := List.getElem_of_mem hy
      have h1 := (hr.2.2.2.2 j hj).1
      rw [getElem!_pos ids j hj] at h1
      exact ident_read h1⟩
    refine (Fw.map (intC.fw.bind fun _ _ => (idsFw)) (fun x => (⟨⟨(-10), ⟨#[]⟩, 0, 0, 0, false, 0, 0, 0, x.1, 0⟩, [], [], x.2.map idV, []⟩ : TxF)) (E := fun y => y = _) (C := leafB) (P' := fun l p => leafP l (-10) p) (fun l p => ?_) (fun y hy => ⟨(st, ids.map backI), ⟨i8, ⟨by rw [List.length_map]; exact HS.1, HS.2⟩⟩, ?_, ?_⟩)).fwd a c _ rfl
    · show (intP l p).then _ = _
      simp only [then_assoc, thenOk]
    · subst hy
      (try dsimp only)
      rw [backI_map]
      (try rfl)
    · subst hy
      unfold leafB
      (try dsimp only)
      rw [ids_eq]
      simp [List.append_assoc]
  · subst e
    obtain rfl := s1 (by decide)
    obtain rfl := s2 (by decide)
    obtain rfl := s3 (by decide)
    obtain rfl := s4 (by decide)
    obtain rfl := s5 (by decide)
    obtain rfl := s6 (by decide)
    obtain ⟨rfl, rfl, rfl⟩ := s7 (by decide)
    obtain rfl := s9 (by decide)
    obtain ⟨rfl, rfl, rfl⟩ := s11 (by decide)
    have HT : ∀ x ∈ paths.map bsOf8, okTxt 4096 x ∧ 1 ≤ x.length := fun x hx => by
      obtain ⟨y, hy, rfl⟩ := List.mem_map.1 hx
      have h1 := path_utf8 (L.pe rfl y hy)
      exact ⟨okTxt_of h1.1 h1.2.2, by unfold bsOf8; simpa using h1.2.1⟩
    refine (Fw.map (txtsFw) (fun x => (⟨⟨(-11), ⟨#[]⟩, 0, 0, 0, false, 0, 0, 0, 0, 0⟩, [], [], [], x.map toBA⟩ : TxF)) (E := fun y => y = _) (C := leafB) (P' := fun l p => leafP l (-11) p) (fun l p => ?_) (fun y hy => ⟨(paths.map bsOf8), ⟨by rw [List.length_map]; exact L.pl, HT⟩, ?_, ?_⟩)).fwd a c _ rfl
    · show (listP l 1024 5 (textP l 4096) p).then _ = _
      rfl
    · subst hy
      (try dsimp only)
      rw [backT_map]
      (try rfl)
    · subst hy
      unfold leafB
      (try dsimp only)
      rw [txts_eq]
      simp [List.append_assoc]
  · subst e
    obtain rfl := s1 (by decide)
    obtain rfl := s2 (by decide)
    obtain rfl := s3 (by decide)
    obtain rfl := s4 (by decide)
    obtain rfl := s5 (by decide)
    obtain rfl := s6 (by decide)
    obtain ⟨rfl, rfl, rfl⟩ := s7 (by decide)
    obtain rfl := s8 (by decide)
    obtain ⟨rfl, rfl, rfl⟩ := s11 (by decide)
    refine (Fw.map (intC.fw) (fun x => (⟨⟨(-1), ⟨#[]⟩, 0, 0, 0, false, 0, 0, 0, 0, x⟩, [], [], [], []⟩ : TxF)) (E := fun y => y = _) (C := leafB) (P' := fun l p => leafP l (-1) p) (fun l p => ?_) (fun y hy => ⟨(co), i9, ?_, ?_⟩)).fwd a c _ rfl
    · show (intP l p).then _ = _
      rfl
    · subst hy
      (try dsimp only)
      rfl
    · subst hy
      unfold leafB
      (try dsimp only)
      simp [List.append_assoc]
  · exfalso
    unfold knownB partB at hk
    simp [h1, h2, h3, h4, h5, h6, h7, h8, h9, h10, h11] at hk
theorem leaf_ge {v : TxF} (hp : partB v.n.ty = true) : 4 ≤ (leafB v).length := by
  unfold partB at hp
  have hp := of_decide_eq_true hp
  have ht := txtB_len v.n.path
  unfold leafB
  split
  · simp only [List.length_append]; omega
  split
  · omega
  split
  · simp only [List.length_append]; omega
  split
  · simp only [List.length_append]; omega
  split
  · simp only [List.length_append]; omega
  split
  · simp only [List.length_append]; omega
  · exfalso; omega
/-- a part -/
def PartOk (z : Int) (v : TxF) : Prop := partB v.n.ty = true ∧ ownE z v 0 = 0 ∧ TxSm 1048576 v 0
theorem partFw (z : Int) : Fw (PartOk z) partP (fun v => beB (m32 v.n.ty) 4 ++ leafB v) where
  fwd a c v hv := by
    obtain ⟨hp, ho, hs⟩ := hv
    obtain ⟨hk, h14⟩ := part_knownX hp
    have h1 := intC.fwd a (leafB v ++ c) v.n.ty hs.1.1
    have h2 := leaf_fwd ho hs hk h14 (a ++ beB (m32 v.n.ty) 4) c
    unfold partP
    rw [List.append_assoc, h1, thenOk, if_pos hp]
    rw [List.length_append] at h2
    rw [← List.append_assoc, h2, List.length_append, Nat.add_assoc]
theorem leaf_sub {t : TxT} (h : t.subs.length = 0) : leafT t.v = t := by
  have h0 : t.subs = [] := List.length_eq_zero_iff.1 h
  rw [Tr.eta t, h0]; rfl
/-- what is wanted of a transaction -/
structure BodyOk (z : Int) (t : TxT) : Prop where
  k : knownB t.v.n.ty = true
  o : ownE z t.v t.subs.length = 0
  s : subsE z t.subs = 0
  m : TxOk 1048576 t
theorem body_fwd {z : Int} {t : TxT} (h : BodyOk z t) (a c : Bs) : bodyP (a ++ (bodyB t ++ c)) t.v.n.ty a.length = .ok (t, a.length + (bodyB t).length) := by
  obtain ⟨L, S⟩ := lf_of h.o
  by_cases h14 : t.v.n.ty = 14
  · have hsub : ∀ x ∈ t.subs, PartOk z x.v ∧ leafT x.v = x := fun x hx => by
      obtain ⟨hp, ho⟩ := subs_own h.s x hx
      obtain ⟨j, hj, rfl⟩ := List.getElem_of_mem hx
      have hm := (h.m.subAt (j := j) hj).top
      rw [getElem!_pos t.subs j hj] at hm
      have hk := (lf_of ho).2.k (part_knownX hp).2
      rw [hk] at ho hm
      exact ⟨⟨hp, ho, hm⟩, leaf_sub hk⟩
    have hv : t.v = blkF 14 := by
      have e : ∀ v : TxF, v.n.ty = 14 → Spare v t.subs.length → v = blkF 14 := fun v e S => by
        obtain ⟨⟨ty, path, ow, ve, cr, qh, qc, qb, si, st, co⟩, data, acl, ids, paths⟩ := v
        obtain ⟨s1, s2, s3, s4, s5, s6, s7, s8, s9, -, s11⟩ := S
        dsimp only at *
        subst e
        obtain rfl := s1 (by decide)
        obtain rfl := s2 (by decide)
        obtain rfl := s3 (by decide)
        obtain rfl := s4 (by decide)
        obtain rfl := s5 (by decide)
        obtain rfl := s6 (by decide)
        obtain ⟨rfl, rfl, rfl⟩ := s7 (by decide)
        obtain rfl := s8 (by decide)
        obtain rfl := s9 (by decide)
        obtain ⟨rfl, rfl, rfl⟩ := s11 (by decide)
        rfl
      exact e _ h14 S
    have hn : t.subs.length ≤ 1024 := by
      have hg := own_great h.o
      unfold greatB at hg
      simp only [Bool.or_eq_false_iff, decide_eq_false_iff_not] at hg
      omega
    have h1 := ((partFw z).list (m := 1024) (k := 8) (by decide) (by decide) (fun v hv => by rw [List.length_append, beB_len]; have := leaf_ge hv.1; omega)).fwd a c (t.subs.map Tr.v) ⟨by rw [List.length_map]; exact hn, fun x hx => by
      obtain ⟨y, hy, rfl⟩ := List.mem_map.1 hx
      exact (hsub y hy).1⟩
    have hb : bodyB t = beB (t.subs.map Tr.v).length 4 ++ (t.subs.map Tr.v).flatMap (fun v => beB (m32 v.n.ty) 4 ++ leafB v) := by
      unfold bodyB
      rw [if_pos h14, List.length_map, flat_map_eq Tr.v _ partBs fun x => rfl]
    have hs : (t.subs.map Tr.v).map leafT = t.subs := by
      rw [List.map_map]
      exact (List.map_congr_left fun x hx => (hsub x hx).2).trans (List.map_id _)
    unfold bodyP
    rw [if_pos h14, hb, h1, thenOk, hs, ← hv, ← Tr.eta]
  · have hb : bodyB t = leafB t.v := by unfold bodyB; rw [if_neg h14]
    have h1 := leaf_fwd h.o h.m.top h.k h14 a c
    unfold bodyP
    rw [if_neg h14, hb, h1, thenOk, leaf_sub (S.k h14)]
theorem right_body {d : DlT} (h : rightE d = 0) (hs : DlSm 1048576 d) : BodyOk d.zx d.t := by
  unfold rightE at h
  split at h
  · cases h
  rename_i h1
  split at h
  · cases h
  split at h
  · rename_i h2; exact absurd h h2
  rename_i h2
  exact ⟨by simpa using h1, by omega, h, hs.2⟩
/-- what was written of a delta that may be is read back -/
theorem read_fwd {d : DlT} (h : rightE d = 0) (hs : DlSm 1048576 d) (c : Bs) : readP (encB d ++ c) = .ok (d, (encB d).length) := by
  have hb := right_body h hs
  obtain ⟨⟨q1, q2, q3, q4⟩, hm⟩ := hs
  obtain ⟨se, xi, zx, ti, t⟩ := d
  dsimp only at *
  have h5 : Fw (fun z : Int × TxT => z.1 = t.v.n.ty ∧ z.2 = t) (fun l p => (intP l p).then fun ty a => (if knownB ty then bodyP l ty a else .error (a, 110)).then fun y b => .ok ((ty, y), b)) (fun z => beB (m32 z.1) 4 ++ bodyB z.2) :=
    Fw.bind (E := fun _ y => y = t) (Q := fun ty l a => if knownB ty then bodyP l ty a else .error (a, 110)) (C := fun _ y => bodyB y) (intC.fw.less (D' := fun z => z = t.v.n.ty) fun z e => by subst e; exact hm.top.1.1) fun ty e => ⟨fun a c y hy => by
      subst e; subst hy
      show (if knownB y.v.n.ty then _ else _) = _
      rw [if_pos hb.k]
      exact body_fwd hb a c⟩
  have h0 := (longC.fw.bind fun _ _ => intC.fw.bind fun _ _ => longC.fw.bind fun _ _ => longC.fw.bind fun _ _ => h5).fwd [] c (se, xi, zx, ti, t.v.n.ty, t) ⟨q1, q2, q3, q4, rfl, rfl⟩
  have e1 : beB (m64 se) 8 ++ (beB (m32 xi) 4 ++ (beB (m64 zx) 8 ++ (beB (m64 ti) 8 ++ (beB (m32 t.v.n.ty) 4 ++ bodyB t)))) = encB ⟨se, xi, zx, ti, t⟩ := by
    unfold encB headB; simp [List.append_assoc]
  simp only [List.nil_append, List.length_nil, Nat.zero_add, e1] at h0
  have e2 : ∀ l, readP l = ((longP l 0).then fun x a => ((intP l a).then fun x a => ((longP l a).then fun x a => ((longP l a).then fun x a => ((intP l a).then fun ty a => (if knownB ty then bodyP l ty a else .error (a, 110)).then fun y b => .ok ((ty, y), b)).then fun y b => .ok ((x, y), b)).then fun y b => .ok ((x, y), b)).then fun y b => .ok ((x, y), b)).then fun y b => .ok ((x, y), b)).then fun x a => .ok ((⟨x.1, x.2.1, x.2.2.1, x.2.2.2.1, x.2.2.2.2.2⟩ : DlT), a) := fun l => by
    simp only [then_assoc, thenOk]
    show (longP l 0).then _ = _
    congr 1; funext se a; congr 1; funext xi a; congr 1; funext zx a; congr 1; funext ti a; congr 1; funext ty a
    split
    · rfl
    · rfl
  rw [e2]
  exact (congrArg (fun y => PR.then y _) h0).trans rfl
/-- the bytes tell the delta -/
theorem enc_inj {c d : DlT} (h1 : rightE c = 0) (h2 : rightE d = 0) (s1 : DlSm 1048576 c) (s2 : DlSm 1048576 d) (e : encB c = encB d) : c = d := by
  have a := read_fwd h1 s1 []
  have b := read_fwd h2 s2 []
  rw [e, b] at a
  exact (okInj a).1.symm
end Go.Proofs.YthpjneobmmpbnaaGreatDoor
