/- Plain laws: an address's text is that address's; by an entry of so many bits may whose address has those bits alike. No program in sight. -/
import Derived.Test.YtmchfdmnngngiaaDoorAclQ
namespace Go.Proofs.YtmchfdmnngngiaaDoor
theorem until_app (c : UInt8) : ∀ (l r : List UInt8), (∀ b ∈ l, b ≠ c) → untilN c (l ++ c :: r) = l.length
  | [], r, _ => by simp [untilN]
  | b :: l, r, h => by
    have hb : b ≠ c := h b (List.mem_cons_self ..)
    rw [List.cons_append, untilN, if_neg hb, until_app c l r (fun x hx => h x (List.mem_cons_of_mem _ hx))]; rfl
theorem until_none (c : UInt8) : ∀ (l : List UInt8), (∀ b ∈ l, b ≠ c) → untilN c l = l.length
  | [], _ => rfl
  | b :: l, h => by
    have hb : b ≠ c := h b (List.mem_cons_self ..)
    rw [untilN, if_neg hb, until_none c l (fun x hx => h x (List.mem_cons_of_mem _ hx))]; rfl
theorem dec3_chars : ∀ n : Fin 256, ∀ b ∈ dec3 n.val, b ≠ 46 ∧ b ≠ 47 := by decide +kernel
theorem dec3_dot {n : Nat} (h : n ≤ 255) : ∀ b ∈ dec3 n, b ≠ 46 := fun b hb => (dec3_chars ⟨n, by omega⟩ b hb).1
theorem dec3_slash {n : Nat} (h : n ≤ 255) : ∀ b ∈ dec3 n, b ≠ 47 := fun b hb => (dec3_chars ⟨n, by omega⟩ b hb).2
theorem addrF_more (st : Int → Int → Int) (k : Nat) (acc : Int) (n : Nat) (h : n ≤ 255) (r : List UInt8) : addrF st (k + 1) acc (dec3 n ++ 46 :: r) = addrF st k (st acc n) r := by
  have hu := until_app 46 (dec3 n) r (dec3_dot h)
  have ht : (dec3 n ++ 46 :: r).take (dec3 n).length = dec3 n := by simp
  have hd : (dec3 n ++ 46 :: r).drop ((dec3 n).length + 1) = r := by simp
  have hr := decR_of (dec3 n) 255 n (by omega) (by omega) rfl
  rw [addrF, hu, ht, hd, hr, if_neg (by simp; try omega)]
theorem addrF_last (st : Int → Int → Int) (acc : Int) (n : Nat) (h : n ≤ 255) : addrF st 0 acc (dec3 n) = some (st acc n) := by
  have hu := until_none 46 (dec3 n) (dec3_dot h)
  have hr := decR_of (dec3 n) 255 n (by omega) (by omega) rfl
  rw [addrF, hu, List.take_length, hr, if_neg (by simp; try omega)]
def addrT (x : Nat) : List UInt8 := dec3 (x / 16777216) ++ 46 :: (dec3 (x / 65536 % 256) ++ 46 :: (dec3 (x / 256 % 256) ++ 46 :: dec3 (x % 256)))
def adrS (x : Nat) : ByteArray := ⟨(addrT x).toArray⟩
def netS (x n : Nat) : ByteArray := ⟨(addrT x ++ 47 :: dec3 n).toArray⟩
theorem adr_adrS (x : Nat) (h : x < 4294967296) : adr (adrS x) = some (x : Int) := by
  have e : (adrS x).data.toList = addrT x := rfl
  unfold adr
  rw [e, addr_eq]
  unfold addrT
  rw [addrF_more _ _ _ _ (by omega), addrF_more _ _ _ _ (by omega), addrF_more _ _ _ _ (by omega), addrF_last _ _ _ (by omega)]
  unfold stA
  congr 1
  omega
theorem addrT_slash (x : Nat) (h : x < 4294967296) : ∀ b ∈ addrT x, b ≠ 47 := by
  intro b hb
  unfold addrT at hb
  simp only [List.mem_append, List.mem_cons] at hb
  rcases hb with hb | rfl | hb | rfl | hb | rfl | hb
  · exact dec3_slash (by omega) b hb
  · decide
  · exact dec3_slash (by omega) b hb
  · decide
  · exact dec3_slash (by omega) b hb
  · decide
  · exact dec3_slash (by omega) b hb
theorem netHead_netS (x n : Nat) (h : x < 4294967296) : netHead (netS x n) = adrS x := by
  have e : (netS x n).data.toList = addrT x ++ 47 :: dec3 n := rfl
  unfold netHead adrS
  rw [e, until_app 47 _ _ (addrT_slash x h)]
  simp
theorem netTail_netS (x n : Nat) (h : x < 4294967296) : (netTail (netS x n)).data.toList = dec3 n := by
  have e : (netS x n).data.toList = addrT x ++ 47 :: dec3 n := rfl
  unfold netTail
  rw [e, until_app 47 _ _ (addrT_slash x h)]
  simp
theorem netBits_netS (x n : Nat) (h : x < 4294967296) (hn : n ≤ 32) : netBits (netS x n) = n := by
  have e : (netS x n).data.toList = addrT x ++ 47 :: dec3 n := rfl
  have ht := netTail_netS x n h
  unfold netBits
  rw [ht, e, until_app 47 _ _ (addrT_slash x h), if_neg (by simp), dec_eq _ _ (by omega), decR_of (dec3 n) 32 n (by omega) (by omega) rfl]
theorem netHead_adrS (x : Nat) (h : x < 4294967296) : netHead (adrS x) = adrS x := by
  have e : (adrS x).data.toList = addrT x := rfl
  unfold netHead
  rw [e, until_none 47 _ (addrT_slash x h), List.take_length]
  rfl
theorem netBits_adrS (x : Nat) (h : x < 4294967296) : netBits (adrS x) = 32 := by
  have e : (adrS x).data.toList = addrT x := rfl
  unfold netBits
  rw [e, until_none 47 _ (addrT_slash x h), if_pos rfl]
theorem netOk_netS (x n : Nat) (h : x < 4294967296) (hn : n ≤ 32) : netOk (netS x n) = true := by
  unfold netOk
  rw [netHead_netS x n h, netBits_netS x n h hn, adr_adrS x h]
  simp
theorem netOk_adrS (x : Nat) (h : x < 4294967296) : netOk (adrS x) = true := by
  unfold netOk
  rw [netHead_adrS x h, netBits_adrS x h, adr_adrS x h]
  rfl
theorem ip_world : ¬ sIp = sWorld := by decide
theorem ip_digest : ¬ sIp = sDigest := by decide
theorem may_ip (t : ByteArray) (y : Nat) (p : Int) (x n : Nat) (hy : y < 4294967296) (hok : netOk t = true) (ha : netA t = x) (hn : netBits t = n) :
    mayP [(31, sIp, t)] p [(sIp, adrS y)] = (decide (topB x n = topB y n) && hit 31 p) := by
  have hr : rightP (31, sIp, t) = true := by
    rw [rightP_eq]
    rw [if_neg ip_world, if_neg ip_digest, if_pos rfl, hok]
    rfl
  have hl : likeP (sIp, t) [(sIp, adrS y)] = decide (topB x n = topB y n) := by
    unfold likeP ipLike
    rw [if_neg ip_world, if_neg ip_digest, ha, hn]
    simp only [List.any_cons, List.any_nil, Bool.or_false]
    rw [adr_adrS y hy]
    simp
  unfold mayP lets
  simp only [List.any_cons, List.any_nil, Bool.or_false, List.isEmpty_cons, Bool.false_or]
  rw [hr, hl, show decide (sIp = sSuper) = false from by decide, Bool.false_or, Bool.true_and, Bool.and_comm]
theorem may_net (x y n : Nat) (p : Int) (hx : x < 4294967296) (hy : y < 4294967296) (hn : n ≤ 32) : mayP [(31, sIp, netS x n)] p [(sIp, adrS y)] = (decide (topB x n = topB y n) && hit 31 p) :=
  may_ip _ y p x n hy (netOk_netS x n hx hn) (by unfold netA; rw [netHead_netS x n hx, adr_adrS x hx]; rfl) (netBits_netS x n hx hn)
theorem may_alone (x y : Nat) (p : Int) (hx : x < 4294967296) (hy : y < 4294967296) : mayP [(31, sIp, adrS x)] p [(sIp, adrS y)] = (decide (x = y) && hit 31 p) := by
  rw [may_ip _ y p x 32 hy (netOk_adrS x hx) (by unfold netA; rw [netHead_adrS x hx, adr_adrS x hx]; rfl) (netBits_adrS x hx)]
  congr 1
  unfold topB
  refine decide_eq_decide.2 ?_
  simp
  omega
theorem topB_zero (x y : Nat) (hx : x < 4294967296) (hy : y < 4294967296) : topB x (0 : Nat) = topB y (0 : Nat) := by
  unfold topB
  simp
  omega
end Go.Proofs.YtmchfdmnngngiaaDoor
