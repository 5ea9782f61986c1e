/- The cells of an identity and of an entry; '==' at them. No condition. -/
import Derived.Test.YtbpmmmnphpkdjaaGreatDoorSl
import Derived.Test.YtbpmmmnphpkdjaaGreatDoorAclP
import Derived.Test.YtbpmmmnphpkdjaaGreatDoorProg
import Derived.Lib.SlicesS
namespace Go.Proofs.YtbpmmmnphpkdjaaGreatDoor
open Go.RowKit

def encId (x : IdV) : List Value := [.string x.1, .string x.2]
def encAcl (x : AclV) : List Value := [.int .i32 x.1, .string x.2.1, .string x.2.2]
abbrev SlId (w : World) (B : Nat) (A : Option Addr) (n : Nat) (zs : List IdV) : Prop := Sl w B encId 2 A n zs
abbrev SlAcl (w : World) (B : Nat) (A : Option Addr) (n : Nat) (zs : List AclV) : Prop := Sl w B encAcl 3 A n zs
theorem SlId.at_ {w : World} {B n j : Nat} {A : Option Addr} {zs : List IdV} (h : Sl w B encId 2 A n zs) (hj : j < n) :
    ∃ b off, A = some ⟨b, off, none⟩ ∧ b < B ∧ w.cell? ⟨b, off + j * 2, none⟩ = some (.string zs[j]!.1) ∧ w.cell? ⟨b, off + j * 2 + 1, none⟩ = some (.string zs[j]!.2) := by
  obtain ⟨b, off, e, hb, hc⟩ := h.cells hj
  exact ⟨b, off, e, hb, hc 0 _ rfl, hc 1 _ rfl⟩
theorem SlAcl.at_ {w : World} {B n j : Nat} {A : Option Addr} {zs : List AclV} (h : Sl w B encAcl 3 A n zs) (hj : j < n) :
    ∃ b off, A = some ⟨b, off, none⟩ ∧ b < B ∧ w.cell? ⟨b, off + j * 3, none⟩ = some (.int .i32 zs[j]!.1) ∧ w.cell? ⟨b, off + j * 3 + 1, none⟩ = some (.string zs[j]!.2.1) ∧ w.cell? ⟨b, off + j * 3 + 2, none⟩ = some (.string zs[j]!.2.2) := by
  obtain ⟨b, off, e, hb, hc⟩ := h.cells hj
  exact ⟨b, off, e, hb, hc 0 _ rfl, hc 1 _ rfl, hc 2 _ rfl⟩

theorem bytes_ext {a b : ByteArray} (h : a.toList = b.toList) : a = b := (Lib.bytes_beq_iff a b).1 (by rw [h]; simp)
theorem beq_dec (a b : ByteArray) : (a.toList == b.toList) = decide (a = b) := by
  by_cases h : a = b
  · subst h; simp
  · rw [decide_eq_false h]
    exact beq_eq_false_iff_ne.2 (fun e => h (bytes_ext e))

theorem toList_iff (a b : ByteArray) : (a.toList = b.toList) ↔ a = b := ⟨bytes_ext, fun e => by rw [e]⟩
section
variable (w : World) (a b c d : ByteArray) (p q : Int)
theorem fieldsId : Tryz.prog.underlying 155 = some (.struct (Tryz.prog.fieldsOf 155)) := by kernel_rfl
theorem stoodId : Tryz.prog.stoodInHeld 155 = false := by kernel_rfl
theorem fieldsAcl : Tryz.prog.underlying 246 = some (.struct (Tryz.prog.fieldsOf 246)) := by kernel_rfl
theorem stoodAcl : Tryz.prog.stoodInHeld 246 = false := by kernel_rfl
theorem equalId (k : Nat) : (Op.equalIn (k + 2) 155 (.agg #[.string a, .string b]) (.agg #[.string c, .string d])).run Tryz.prog w = .ok (decide ((a, b) = (c, d))) w := by
  have u3 := Tryz.underlying9
  have a3 := Tryz.isAgg9
  have z3 := Tryz.sizeOf9
  rw [run_equalIn_agg w (k + 1) 155 _ _ fieldsId stoodId]
  simp only [Program.fieldsOf, Tryz.underlying155]
  go_simp
  simp only [toList_iff]
  by_cases h1 : a = c <;> by_cases h2 : b = d <;> simp [h1, h2]
theorem equalAcl (k : Nat) : (Op.equalIn (k + 3) 246 (.agg #[.int .i32 p, .string a, .string b]) (.agg #[.int .i32 q, .string c, .string d])).run Tryz.prog w = .ok (decide ((p, a, b) = (q, c, d))) w := by
  have u3 := Tryz.underlying9
  have a3 := Tryz.isAgg9
  have z3 := Tryz.sizeOf9
  have u1 := Tryz.underlying21
  have a1 := Tryz.isAgg21
  have z1 := Tryz.sizeOf21
  have a2 := Tryz.isAgg155
  have z2 := Tryz.sizeOf155
  have hI := fun w : World => equalId w a b c d k
  rw [run_equalIn_agg w (k + 2) 246 _ _ fieldsAcl stoodAcl]
  simp only [Program.fieldsOf, Tryz.underlying246]
  go_simp
  by_cases h0 : p = q <;> by_cases h1 : a = c <;> by_cases h2 : b = d <;> simp [h0, h1, h2]
theorem eqId : (binOp .eql 155 (.agg #[.string a, .string b]) (.agg #[.string c, .string d])).run Tryz.prog w = .ok (.bool (decide ((a, b) = (c, d)))) w := by
  rw [run_eql_struct, show (10000 : Nat) = 9998 + 2 from rfl, equalId]; rfl
theorem neqId : (binOp .neq 155 (.agg #[.string a, .string b]) (.agg #[.string c, .string d])).run Tryz.prog w = .ok (.bool (!decide ((a, b) = (c, d)))) w := by
  rw [run_neq_struct, show (10000 : Nat) = 9998 + 2 from rfl, equalId]; rfl
theorem eqAcl : (binOp .eql 246 (.agg #[.int .i32 p, .string a, .string b]) (.agg #[.int .i32 q, .string c, .string d])).run Tryz.prog w = .ok (.bool (decide ((p, a, b) = (q, c, d)))) w := by
  rw [run_eql_struct, show (10000 : Nat) = 9997 + 3 from rfl, equalAcl]; rfl
theorem neqAcl : (binOp .neq 246 (.agg #[.int .i32 p, .string a, .string b]) (.agg #[.int .i32 q, .string c, .string d])).run Tryz.prog w = .ok (.bool (!decide ((p, a, b) = (q, c, d)))) w := by
  rw [run_neq_struct, show (10000 : Nat) = 9997 + 3 from rfl, equalAcl]; rfl
end
end Go.Proofs.YtbpmmmnphpkdjaaGreatDoor
