/- Readers and writers of bytes that fit one another (plain). No program; no condition. -/
import Derived.Test.YthpjneobmmpbnaaGreatDoorDLwR
namespace Go.Proofs.YthpjneobmmpbnaaGreatDoor
theorem Tr.eta {β : Type} (t : Tr β) : t = .mk t.v t.subs := by cases t; rfl
/-- what is written of a value is read back, and what is read was written -/
structure Cdc {α : Type} (D : α → Prop) (P : Bs → Nat → PR α) (B : α → Bs) : Prop where
  fwd : ∀ (a c : Bs) (x : α), D x → P (a ++ (B x ++ c)) a.length = .ok (x, a.length + (B x).length)
  inv : ∀ (l : Bs) (p : Nat) (x : α) (q : Nat), p ≤ l.length → P l p = .ok (x, q) → D x ∧ q ≤ l.length ∧ q = p + (B x).length ∧ ∃ c, l.drop p = B x ++ c
theorem thenOk {α β : Type} (a : α) (q : Nat) (f : α → Nat → PR β) : PR.then (.ok (a, q)) f = f a q := rfl
theorem then_assoc {α β γ : Type} (x : PR α) (f : α → Nat → PR β) (g : β → Nat → PR γ) : (x.then f).then g = x.then fun a q => (f a q).then g := by
  rcases x with e | ⟨a, q⟩ <;> rfl
theorem then_inv {α β : Type} {x : PR α} {f : α → Nat → PR β} {b : β} {q : Nat} (h : x.then f = .ok (b, q)) : ∃ a p, x = .ok (a, p) ∧ f a p = .ok (b, q) := by
  rcases x with e | ⟨a, p⟩
  · cases h
  · exact ⟨a, p, rfl, h⟩
theorem drop_more {l b c : Bs} {p q : Nat} (h : l.drop p = b ++ c) (hq : q = p + b.length) : l.drop q = c := by
  rw [hq, ← List.drop_drop, h, List.drop_left]
section
variable {α β : Type} {D : α → Prop} {P : Bs → Nat → PR α} {B : α → Bs}
theorem Cdc.bind (h : Cdc D P B) {E : α → β → Prop} {Q : α → Bs → Nat → PR β} {C : α → β → Bs} (k : ∀ x, D x → Cdc (E x) (Q x) (C x)) :
    Cdc (fun z : α × β => D z.1 ∧ E z.1 z.2) (fun l p => (P l p).then fun x a => (Q x l a).then fun y b => .ok ((x, y), b)) (fun z => B z.1 ++ C z.1 z.2) where
  fwd a c z hz := by
    obtain ⟨x, y⟩ := z
    obtain ⟨h1, h2⟩ := hz
    have e1 : a ++ ((B x ++ C x y) ++ c) = a ++ (B x ++ (C x y ++ c)) := by simp
    have e2 : a ++ (B x ++ (C x y ++ c)) = (a ++ B x) ++ (C x y ++ c) := by simp
    show ((P (a ++ ((B x ++ C x y) ++ c)) a.length).then _) = _
    rw [e1, h.fwd a _ x h1, thenOk, e2]
    have h3 := (k x h1).fwd (a ++ B x) c y h2
    rw [List.length_append] at h3
    rw [h3, thenOk, List.length_append, Nat.add_assoc]
  inv l p z q hp hz := by
    obtain ⟨x, a, h1, h2⟩ := then_inv hz
    obtain ⟨y, b, h3, h4⟩ := then_inv h2
    obtain ⟨rfl, rfl⟩ := okInj h4
    obtain ⟨d1, l1, q1, c1, e1⟩ := h.inv l p x a hp h1
    obtain ⟨d2, l2, q2, c2, e2⟩ := (k x d1).inv l a y b l1 h3
    refine ⟨⟨d1, d2⟩, l2, ?_, c2, ?_⟩
    · show b = p + (B x ++ C x y).length
      rw [List.length_append]; omega
    rw [drop_more e1 q1] at e2
    rw [e1, e2, List.append_assoc]
theorem Cdc.map (h : Cdc D P B) (f : α → β) (g : β → α) (E : β → Prop) (hE : ∀ y, E y → D (g y) ∧ f (g y) = y) (hD : ∀ x, D x → E (f x) ∧ g (f x) = x) :
    Cdc E (fun l p => (P l p).then fun x a => .ok (f x, a)) (fun y => B (g y)) where
  fwd a c y hy := by
    have := h.fwd a c (g y) (hE y hy).1
    show ((P (a ++ (B (g y) ++ c)) a.length).then _) = _
    rw [this, thenOk, (hE y hy).2]
  inv l p y q hp hy := by
    obtain ⟨x, a, h1, h2⟩ := then_inv hy
    obtain ⟨rfl, rfl⟩ := okInj h2
    obtain ⟨d1, l1, q1, e1⟩ := h.inv l p x a hp h1
    obtain ⟨h3, h4⟩ := hD x d1
    exact ⟨h3, l1, by rw [h4]; exact q1, by rw [h4]; exact e1⟩
theorem Cdc.congr (h : Cdc D P B) {D' : α → Prop} {P' : Bs → Nat → PR α} {B' : α → Bs} (hD : ∀ x, D x ↔ D' x) (hP : ∀ l p, P' l p = P l p) (hB : ∀ x, D' x → B' x = B x) : Cdc D' P' B' where
  fwd a c x hx := by rw [hP, hB x hx]; exact h.fwd a c x ((hD x).2 hx)
  inv l p x q hp hx := by
    rw [hP] at hx
    obtain ⟨d1, h1⟩ := h.inv l p x q hp hx
    have d2 := (hD x).1 d1
    rw [hB x d2]
    exact ⟨d2, h1⟩
/-- more bytes behind do not matter -/
theorem Cdc.ext (h : Cdc D P B) {l m : Bs} {p q : Nat} {x : α} (hp : p ≤ l.length) (hx : P l p = .ok (x, q)) : P (l ++ m) p = .ok (x, q) := by
  obtain ⟨d, h1, h2, c, h3⟩ := h.inv l p x q hp hx
  have h4 := h.fwd (l.take p) (c ++ m) x d
  rw [List.length_take, Nat.min_eq_left hp, ← h2] at h4
  rw [← h4]
  congr 1
  rw [← List.append_assoc (B x), ← h3, ← List.append_assoc, List.take_append_drop]
/-- the last of what is read, as a reader of nothing -/
theorem Cdc.nil : Cdc (fun _ : Unit => True) (fun _ p => .ok ((), p)) (fun _ => []) where
  fwd _ _ _ _ := rfl
  inv l p x q hp h := by
    obtain ⟨-, rfl⟩ := okInj h
    exact ⟨trivial, hp, rfl, _, rfl⟩
end
theorem beN_cons (b : UInt8) (l : Bs) : beN (b :: l) = b.toNat * 256 ^ l.length + beN l := by
  have go : ∀ (l : Bs) (a : Nat), l.foldl (fun a b => a * 256 + b.toNat) a = a * 256 ^ l.length + l.foldl (fun a b => a * 256 + b.toNat) 0 := by
    intro l
    induction l with
    | nil => intro a; simp
    | cons x l ih =>
      intro a
      rw [List.foldl_cons, List.foldl_cons, ih, ih (0 * 256 + x.toNat), List.length_cons, Nat.pow_succ]
      rw [Nat.add_mul, Nat.zero_mul, Nat.zero_add, Nat.mul_assoc, Nat.mul_comm 256, Nat.add_assoc]
  have := go l (0 * 256 + b.toNat)
  rw [Nat.zero_mul, Nat.zero_add] at this
  unfold beN
  rw [List.foldl_cons, Nat.zero_mul, Nat.zero_add]
  exact this
theorem beN_lt8 : ∀ (l : Bs), beN l < 256 ^ l.length
  | [] => by decide
  | b :: l => by
    have h1 := beN_lt8 l
    have h2 := b.toNat_lt
    rw [beN_cons, List.length_cons, Nat.pow_succ]
    have : b.toNat * 256 ^ l.length ≤ 255 * 256 ^ l.length := Nat.mul_le_mul_right _ (by omega)
    omega
theorem beB_mod (x n : Nat) : ∀ m, m ≤ n → beB (x % 256 ^ n) m = beB x m
  | 0, _ => rfl
  | m + 1, h => by
    rw [beB, beB, beB_mod x n m (by omega)]
    congr 1
    have e : x % 256 ^ n / 256 ^ m = x / 256 ^ m % 256 ^ (n - m) := by
      rw [← Nat.mod_mul_right_div_self, ← Nat.pow_add, show m + (n - m) = n by omega]
    rw [e]
    apply UInt8.toNat_inj.1
    rw [UInt8.toNat_ofNat', UInt8.toNat_ofNat']
    have e2 : (256 : Nat) ^ (n - m) = 256 * 256 ^ (n - m - 1) := by
      rw [← Nat.pow_succ']; congr 1; omega
    rw [show (2 : Nat) ^ 8 = 256 from rfl, e2, Nat.mod_mul_right_mod]
theorem beB_beN : ∀ (l : Bs), beB (beN l) l.length = l
  | [] => rfl
  | b :: l => by
    have h1 := beN_lt8 l
    rw [List.length_cons, beB, beN_cons]
    congr 1
    · rw [Nat.mul_comm, Nat.mul_add_div (Nat.pow_pos (by decide)), Nat.div_eq_of_lt h1, Nat.add_zero]
      exact UInt8.ofNat_toNat
    · have h2 := beB_mod (b.toNat * 256 ^ l.length + beN l) l.length l.length (Nat.le_refl _)
      rw [← h2, Nat.mul_comm, Nat.mul_add_mod, Nat.mod_eq_of_lt h1]
      exact beB_beN l
theorem beN_beB (x : Nat) : ∀ n, beN (beB x n) = x % 256 ^ n
  | 0 => by simp [beB, beN, Nat.mod_one]
  | n + 1 => by
    rw [beB, beN_cons, beB_len, beN_beB x n, UInt8.toNat_ofNat', show (2 : Nat) ^ 8 = 256 from rfl]
    have h := Nat.mod_mul (x := x) (a := 256 ^ n) (b := 256)
    have e : 256 ^ (n + 1) = 256 ^ n * 256 := by rw [Nat.pow_succ]
    rw [e, h, Nat.mul_comm]
    omega
theorem takeP_mid {a b c : Bs} {n : Nat} (h : b.length = n) : takeP (a ++ (b ++ c)) n a.length = .ok (b, a.length + n) := by
  unfold takeP
  rw [if_neg (by simp; omega)]
  rw [List.drop_left, ← h, List.take_left]
theorem takeP_inv {l : Bs} {n p q : Nat} {b : Bs} (hp : p ≤ l.length) (h : takeP l n p = .ok (b, q)) : b.length = n ∧ q ≤ l.length ∧ q = p + n ∧ l.drop p = b ++ l.drop q := by
  unfold takeP at h
  split at h
  · cases h
  · rename_i hn
    obtain ⟨rfl, rfl⟩ := okInj h
    refine ⟨by simp; omega, by omega, rfl, ?_⟩
    rw [← List.drop_drop, List.take_append_drop]
theorem i32_back {z : Int} (h : in32 z) : i32N (m32 z) = z := by unfold i32N m32; unfold in32 at h; split <;> omega
theorem m32_back {x : Nat} (h : x < 4294967296) : m32 (i32N x) = x ∧ in32 (i32N x) := by unfold i32N m32 in32; split <;> omega
theorem i64_back {z : Int} (h : in64 z) : i64N (m64 z) = z := by unfold i64N m64; unfold in64 at h; split <;> omega
theorem m64_back {x : Nat} (h : x < 18446744073709551616) : m64 (i64N x) = x ∧ in64 (i64N x) := by unfold i64N m64 in64; split <;> omega
theorem m32_lt (z : Int) : m32 z < 4294967296 := by unfold m32; omega
theorem m64_lt (z : Int) : m64 z < 18446744073709551616 := by unfold m64; omega
theorem intC : Cdc in32 intP (fun z => beB (m32 z) 4) where
  fwd a c x hx := by
    unfold intP
    rw [takeP_mid (beB_len _ _), thenOk, beN_beB, Nat.mod_eq_of_lt (m32_lt x), i32_back hx, beB_len]
  inv l p x q hp h := by
    obtain ⟨b, a, h1, h2⟩ := then_inv h
    obtain ⟨rfl, rfl⟩ := okInj h2
    obtain ⟨e1, e2, e3, e4⟩ := takeP_inv hp h1
    have h3 := beN_lt8 b
    rw [e1] at h3
    obtain ⟨h5, h6⟩ := m32_back h3
    refine ⟨h6, e2, by rw [beB_len]; exact e3, l.drop a, ?_⟩
    · rw [h5, ← e1, beB_beN]; exact e4
theorem longC : Cdc in64 longP (fun z => beB (m64 z) 8) where
  fwd a c x hx := by
    unfold longP
    rw [takeP_mid (beB_len _ _), thenOk, beN_beB, Nat.mod_eq_of_lt (m64_lt x), i64_back hx, beB_len]
  inv l p x q hp h := by
    obtain ⟨b, a, h1, h2⟩ := then_inv h
    obtain ⟨rfl, rfl⟩ := okInj h2
    obtain ⟨e1, e2, e3, e4⟩ := takeP_inv hp h1
    have h3 := beN_lt8 b
    rw [e1] at h3
    obtain ⟨h5, h6⟩ := m64_back h3
    refine ⟨h6, e2, by rw [beB_len]; exact e3, l.drop a, ?_⟩
    · rw [h5, ← e1, beB_beN]; exact e4
theorem sizeC {m : Nat} (hm : m ≤ 1048576) : Cdc (fun n => n ≤ m) (fun l p => sizeP l m p) (fun n => beB n 4) where
  fwd a c n hn := by
    have h1 := intC.fwd a c (n : Int) (by unfold in32; omega)
    have h2 : m32 (n : Int) = n := by unfold m32; omega
    rw [h2] at h1
    show sizeP _ _ _ = _
    unfold sizeP
    rw [h1, thenOk, if_neg (by omega)]; rfl
  inv l p n q hp h := by
    obtain ⟨z, a, h1, h2⟩ := then_inv h
    split at h2
    · cases h2
    rename_i hz
    obtain ⟨rfl, rfl⟩ := okInj h2
    obtain ⟨d, e1, e2, e3⟩ := intC.inv l p z a hp h1
    have h3 : m32 z = z.toNat := by unfold m32; unfold in32 at d; omega
    rw [h3] at e2 e3
    exact ⟨by omega, e1, e2, e3⟩
theorem bytesC {m : Nat} (hm : m ≤ 1048576) : Cdc (fun b : Bs => b.length ≤ m) (fun l p => bytesP l m p) bufB where
  fwd a c b hb := by
    have h1 := (sizeC hm).fwd a (b ++ c) b.length hb
    show bytesP _ _ _ = _
    unfold bytesP bufB
    rw [List.append_assoc, h1, thenOk]
    have h2 : (a ++ (beB b.length 4 ++ (b ++ c))).drop (a.length + (beB b.length 4).length) = b ++ c := by
      rw [← List.append_assoc, ← List.length_append, List.drop_left]
    rw [if_neg (by simp [beB_len]; omega), h2, List.take_left, List.length_append, Nat.add_assoc]
  inv l p b q hp h := by
    obtain ⟨n, a, h1, h2⟩ := then_inv h
    split at h2
    · cases h2
    rename_i hz
    obtain ⟨rfl, rfl⟩ := okInj h2
    obtain ⟨d, e1, e2, c, e3⟩ := (sizeC hm).inv l p n a hp h1
    have h4 : ((l.drop a).take n).length = n := by simp; omega
    refine ⟨by rw [h4]; exact d, by omega, ?_, l.drop (a + n), ?_⟩
    · unfold bufB; rw [List.length_append, h4, e2]; omega
    · unfold bufB
      rw [h4, e3, List.append_assoc, ← List.drop_drop, List.take_append_drop, drop_more e3 e2]
theorem textC {m : Nat} (hm : m ≤ 1048576) : Cdc (fun b : Bs => b.length ≤ m ∧ Lib.validD b = true) (fun l p => textP l m p) bufB where
  fwd a c b hb := by
    show textP _ _ _ = _
    unfold textP
    rw [(bytesC hm).fwd a c b hb.1, thenOk, if_pos hb.2]
  inv l p b q hp h := by
    obtain ⟨n, a, h1, h2⟩ := then_inv h
    split at h2
    · rename_i hv
      obtain ⟨rfl, rfl⟩ := okInj h2
      obtain ⟨d, e⟩ := (bytesC hm).inv l p n a hp h1
      exact ⟨⟨d, hv⟩, e⟩
    · cases h2
section
variable {α : Type} {D : α → Prop} {P : Bs → Nat → PR α} {B : α → Bs}
theorem repC (h : Cdc D P B) : ∀ n, Cdc (fun xs : List α => xs.length = n ∧ ∀ x ∈ xs, D x) (fun l p => repP (P l) n p) (fun xs => xs.flatMap B)
  | 0 => ⟨fun a c xs hx => by
      obtain rfl := List.length_eq_zero_iff.1 hx.1
      rfl, fun l p xs q hp h => by
      obtain ⟨rfl, rfl⟩ := okInj h
      exact ⟨⟨rfl, fun x hx => by cases hx⟩, hp, rfl, _, rfl⟩⟩
  | n + 1 => ⟨fun a c xs hx => by
      obtain ⟨hl, hd⟩ := hx
      match xs, hl with
      | x :: r, hl =>
        have h1 := h.fwd a (r.flatMap B ++ c) x (hd x (List.mem_cons_self ..))
        have h2 := (repC h n).fwd (a ++ B x) c r ⟨by simpa using hl, fun y hy => hd y (List.mem_cons_of_mem _ hy)⟩
        show ((P (a ++ ((x :: r).flatMap B ++ c)) a.length).then _) = _
        rw [List.flatMap_cons, List.append_assoc, h1, thenOk]
        rw [List.length_append] at h2
        rw [← List.append_assoc, h2, thenOk, List.length_append, Nat.add_assoc], fun l p xs q hp hx => by
      obtain ⟨x, a, h1, h2⟩ := then_inv hx
      obtain ⟨r, b, h3, h4⟩ := then_inv h2
      obtain ⟨rfl, rfl⟩ := okInj h4
      obtain ⟨d1, l1, q1, c1, e1⟩ := h.inv l p x a hp h1
      obtain ⟨⟨hl, d2⟩, l2, q2, c2, e2⟩ := (repC h n).inv l a r b l1 h3
      rw [drop_more e1 q1] at e2
      refine ⟨⟨by simpa using hl, fun y hy => ?_⟩, l2, ?_, c2, ?_⟩
      · rcases List.mem_cons.1 hy with rfl | hy
        · exact d1
        · exact d2 y hy
      · rw [List.flatMap_cons, List.length_append]; omega
      · rw [List.flatMap_cons, e1, e2, List.append_assoc]⟩
theorem flat_ge {k : Nat} (hk : ∀ x, D x → k ≤ (B x).length) : ∀ xs : List α, (∀ x ∈ xs, D x) → k * xs.length ≤ (xs.flatMap B).length
  | [], _ => by simp
  | x :: r, h => by
    have h1 := hk x (h x (List.mem_cons_self ..))
    have h2 := flat_ge hk r fun y hy => h y (List.mem_cons_of_mem _ hy)
    rw [List.length_cons, List.flatMap_cons, List.length_append, Nat.mul_succ]; omega
theorem listC (h : Cdc D P B) {m k : Nat} (hm : m ≤ 1048576) (hk0 : 1 ≤ k) (hk : ∀ x, D x → k ≤ (B x).length) :
    Cdc (fun xs : List α => xs.length ≤ m ∧ ∀ x ∈ xs, D x) (fun l p => listP l m k (P l) p) (fun xs => beB xs.length 4 ++ xs.flatMap B) where
  fwd a c xs hx := by
    have h1 := (sizeC hm).fwd a (xs.flatMap B ++ c) xs.length hx.1
    have h2 := (repC h xs.length).fwd (a ++ beB xs.length 4) c xs ⟨rfl, hx.2⟩
    show listP _ _ _ _ _ = _
    unfold listP countP
    rw [List.append_assoc, h1, thenOk]
    have h3 := flat_ge hk xs hx.2
    have h4 : ¬ (1 ≤ k ∧ ((a ++ (beB xs.length 4 ++ (xs.flatMap B ++ c))).length - (a.length + (beB xs.length 4).length)) / k < xs.length) := by
      rintro ⟨-, h5⟩
      rw [Nat.div_lt_iff_lt_mul hk0, Nat.mul_comm] at h5
      simp only [List.length_append, beB_len] at h5
      omega
    rw [if_neg h4, thenOk]
    rw [List.length_append] at h2
    rw [← List.append_assoc, h2, List.length_append, Nat.add_assoc]
  inv l p xs q hp hx := by
    obtain ⟨n, a, h1, h2⟩ := then_inv hx
    obtain ⟨n', a', h3, h4⟩ := then_inv h1
    split at h4
    · cases h4
    obtain ⟨rfl, rfl⟩ := okInj h4
    obtain ⟨d, e1, e2, c, e3⟩ := (sizeC hm).inv l p n' a' hp h3
    obtain ⟨⟨hl, hd⟩, l2, q2, c2, e4⟩ := (repC h n').inv l a' xs q e1 h2
    rw [drop_more e3 e2] at e4
    refine ⟨⟨by omega, hd⟩, l2, ?_, c2, ?_⟩
    · rw [List.length_append, hl]; omega
    · rw [e3, e4, hl, List.append_assoc]
end
end Go.Proofs.YthpjneobmmpbnaaGreatDoor
