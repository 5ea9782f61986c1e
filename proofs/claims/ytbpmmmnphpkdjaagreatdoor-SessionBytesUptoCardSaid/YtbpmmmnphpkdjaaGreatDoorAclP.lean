/- Plain facts: what acl's functions tell, in plain Lean: an identity, an entry, what is kept of a list, who may. No program in sight; no condition. -/
import Derived.Test.YtbpmmmnphpkdjaaGreatDoorAddrP
import Derived.Lib.CutLaws
namespace Go.Proofs.YtbpmmmnphpkdjaaGreatDoor

theorem indexByte_until (c : UInt8) : ∀ l : List UInt8, Lib.indexByte l c = if untilN c l = l.length then -1 else (untilN c l : Int)
  | [] => rfl
  | b :: r => by
    have ih := indexByte_until c r
    have hle := untilN_le c r
    unfold Lib.indexByte untilN
    by_cases h : b = c
    · subst h; simp
    · have h' : (b == c) = false := by simp [h]
      rw [h', if_neg h, ih]
      by_cases h2 : untilN c r = r.length
      · simp [h2]
      · have h3 : ¬ ((untilN c r : Int) = -1) := by omega
        simp [h2]
        try omega
theorem cut_until (c : UInt8) (l : List UInt8) : Lib.cut l [c] = if untilN c l = l.length then (l, [], false) else (l.take (untilN c l), l.drop (untilN c l + 1), true) := by
  have hi := index_one c l
  unfold Lib.cut
  rw [hi]
  by_cases h : untilN c l = l.length
  · simp [h]
  · have : ¬ ((untilN c l : Int) = -1) := by omega
    simp [h]
    try omega
abbrev IdV := ByteArray × ByteArray
abbrev AclV := Int × ByteArray × ByteArray
def sWorld : ByteArray := ⟨#[119, 111, 114, 108, 100]⟩
def sAnyone : ByteArray := ⟨#[97, 110, 121, 111, 110, 101]⟩
def sDigest : ByteArray := ⟨#[100, 105, 103, 101, 115, 116]⟩
def sIp : ByteArray := ⟨#[105, 112]⟩
def sSuper : ByteArray := ⟨#[115, 117, 112, 101, 114]⟩
def sAuth : ByteArray := ⟨#[97, 117, 116, 104]⟩
/-- a number and the next byte's -/
def stA (a n : Int) : Int := a * 256 + n
def adr (s : ByteArray) : Option Int := addrP stA s.data.toList
def digestP (s : ByteArray) : Bool := decide (0 < untilN 58 s.data.toList) && decide (untilN 58 s.data.toList < s.size)
/-- an address's text, how many bits count (-1: none) -/
def netHead (s : ByteArray) : ByteArray := ⟨(s.data.toList.take (untilN 47 s.data.toList)).toArray⟩
def netTail (s : ByteArray) : ByteArray := ⟨(s.data.toList.drop (untilN 47 s.data.toList + 1)).toArray⟩
def netBits (s : ByteArray) : Int := if untilN 47 s.data.toList = s.data.toList.length then 32 else decP (netTail s).data.toList 32
def netA (s : ByteArray) : Int := (adr (netHead s)).getD 0
def netOk (s : ByteArray) : Bool := (adr (netHead s)).isSome && decide (0 ≤ netBits s)
def identP (x : IdV) : Bool :=
  textOk x.1 && textOk x.2 && (if x.1 = sDigest then digestP x.2 else if x.1 = sIp then (adr x.2).isSome else decide (x.1 = sSuper))
def rightP (a : AclV) : Bool :=
  decide (0 ≤ a.1) && decide (a.1 ≤ 31) && textOk a.2.1 && textOk a.2.2 &&
    (if a.2.1 = sWorld then decide (a.2.2 = sAnyone) else if a.2.1 = sDigest then digestP a.2.2 else if a.2.1 = sIp then netOk a.2.2 else false)
def putP (l : List AclV) (a : AclV) : List AclV := if l.any (fun b => decide (b = a)) then l else l ++ [a]
def authP (a : AclV) : Bool := decide (a.2 = (sAuth, ByteArray.empty)) && decide (0 ≤ a.1) && decide (a.1 ≤ 31)
def idStep (p : Int) (o : List AclV) (x : IdV) : List AclV := if x.1 = sDigest then putP o (p, x) else o
def fixStep (ids : List IdV) (o : List AclV) (a : AclV) : Option (List AclV) :=
  if rightP a then some (putP o a)
  else if authP a && ids.any (fun x => decide (x.1 = sDigest)) then some (ids.foldl (idStep a.1) o) else none
def fixF (ids : List IdV) : List AclV → List AclV → Option (List AclV)
  | o, [] => some o
  | o, a :: r => match fixStep ids o a with
    | none => none
    | some o' => fixF ids o' r
def fixP (l : List AclV) (ids : List IdV) : Option (List AclV) :=
  if l.length = 0 ∨ 16 < l.length then none
  else match fixF ids [] l with
    | none => none
    | some o => if 16 < o.length then none else some o
/-- the highest n bits of an address -/
def topB (a n : Int) : Int := a / 2 ^ (32 - n).toNat
def ipLike (a n : Int) (x : IdV) : Bool := decide (x.1 = sIp) && (match adr x.2 with | some y => decide (topB a n = topB y n) | none => false)
def likeP (x : IdV) (ids : List IdV) : Bool :=
  if x.1 = sWorld then true else if x.1 = sDigest then ids.any (fun y => decide (y = x)) else ids.any (ipLike (netA x.2) (netBits x.2))
/-- have two lists of bits one in common? -/
def hit (a p : Int) : Bool := decide (BitVec.ofInt 32 a &&& BitVec.ofInt 32 p ≠ 0#32)
def lets (p : Int) (ids : List IdV) (a : AclV) : Bool := rightP a && hit a.1 p && likeP a.2 ids
def mayP (l : List AclV) (p : Int) (ids : List IdV) : Bool := l.isEmpty || ids.any (fun x => decide (x.1 = sSuper)) || l.any (lets p ids)
end Go.Proofs.YtbpmmmnphpkdjaaGreatDoor
