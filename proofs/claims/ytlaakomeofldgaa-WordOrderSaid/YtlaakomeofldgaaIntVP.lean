/- '==' and '!=' of two integers. -/
import Derived.Test.YtlaakomeofldgaaIntKit
import Derived.Laws.StructEq
import Derived.Test.YtlaakomeofldgaaIntB
import Derived.Test.YtlaakomeofldgaaIntOf
namespace Go.Proofs.Gv
open Go Go.RowKit

/-- Sign and bytes are equal. -/
def eqI (a : Bool) (s : ByteArray) (b : Bool) (t : ByteArray) : Bool := (a == b) && (s.toList == t.toList)
theorem eqI_iff {a b : Bool} {s t : ByteArray} : eqI a s b t = true ↔ a = b ∧ s = t := by
  unfold eqI
  rw [Bool.and_eq_true, beq_iff_eq, beq_iff_eq, ByteArray.toList_eq, ByteArray.toList_eq]
  constructor
  · rintro ⟨h1, h2⟩; exact ⟨h1, by rcases s with ⟨⟨x⟩⟩; rcases t with ⟨⟨y⟩⟩; simpa using h2⟩
  · rintro ⟨rfl, rfl⟩; exact ⟨rfl, rfl⟩
theorem eqS (a b : Bool) (s t : ByteArray) (w : World) :
    (Op.equalIn 10000 49 (.agg #[.bool a, .string s]) (.agg #[.bool b, .string t])).run Try.prog w = .ok (eqI a s b t) w := by
  have hS : Try.prog.underlying 49 = some (.struct (Try.prog.fieldsOf 49)) := by kernel_rfl
  have hp : Try.prog.stoodInHeld 49 = false := by kernel_rfl
  have u4 := Try.underlying4
  have a4 := Try.isAgg4
  have z4 := Try.sizeOf4
  have u9 := Try.underlying9
  have a9 := Try.isAgg9
  have z9 := Try.sizeOf9
  rw [show (10000 : Nat) = 9999 + 1 from rfl, run_equalIn_agg w 9999 49 _ _ hS hp]
  simp only [Program.fieldsOf, Try.underlying49]
  go_simp
  unfold eqI
  by_cases h : s.toList = t.toList <;> cases a <;> cases b <;> simp [h]
@[go_sem ↓] theorem run_eqlS (a b : Bool) (s t : ByteArray) (w : World) :
    (binOp .eql 49 (.agg #[.bool a, .string s]) (.agg #[.bool b, .string t])).run Try.prog w = .ok (.bool (eqI a s b t)) w := by
  rw [run_eql_struct, eqS]; rfl
@[go_sem ↓] theorem run_neqS (a b : Bool) (s t : ByteArray) (w : World) :
    (binOp .neq 49 (.agg #[.bool a, .string s]) (.agg #[.bool b, .string t])).run Try.prog w = .ok (.bool (!eqI a s b t)) w := by
  rw [run_neq_struct, eqS]; rfl
@[go_sem] theorem eqGuardS : Try.prog.eqGuardType Try.prog.depth 49 = false := by kernel_rfl
end Go.Proofs.Gv

namespace Go.Proofs.Gv
open Go Go.RowKit

theorem Add_V (a b : Int) (w : World) (ha : (mg a.natAbs).size ≤ 15000000) (hb : (mg b.natAbs).size ≤ 15000000) :
    Calls Try.prog 44 #[.agg #[.bool (sgn a), .string (mg a.natAbs)], .agg #[.bool (sgn b), .string (mg b.natAbs)]] w (RetI w (a + b)) := by
  have := Add_any (sgn a) (sgn b) (mg a.natAbs) (mg b.natAbs) w ha hb
  rwa [iv_V, iv_V] at this
theorem Mul_V (a b : Int) (w : World) (ha : (mg a.natAbs).size ≤ 15000000) (hb : (mg b.natAbs).size ≤ 15000000) :
    Calls Try.prog 63 #[.agg #[.bool (sgn a), .string (mg a.natAbs)], .agg #[.bool (sgn b), .string (mg b.natAbs)]] w (RetI w (a * b)) := by
  have := Mul_any (sgn a) (sgn b) (mg a.natAbs) (mg b.natAbs) w ha hb
  rwa [iv_V, iv_V] at this
/-- Canonical bytes of a number below a power of 2. -/
theorem size_pow {z : Int} {k : Nat} (h : z.natAbs < 256 ^ k) : (mg z.natAbs).size ≤ k := size_mg h

theorem mg_zero : mg 0 = ⟨#[]⟩ := by
  have h := byt_len_le 0 0 (by decide)
  have : byt 0 = [] := List.eq_nil_of_length_eq_zero (by omega)
  unfold mg; rw [this]
end Go.Proofs.Gv
