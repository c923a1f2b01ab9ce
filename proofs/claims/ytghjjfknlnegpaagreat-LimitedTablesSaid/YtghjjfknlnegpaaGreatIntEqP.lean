/- integer.shift: a number times a power of 2, with one digit more. -/
import Derived.Test.YtghjjfknlnegpaaGreatRows
import Derived.Test.YtghjjfknlnegpaaGreatKitP
import Derived.RegionTactic
import Derived.Test.YtghjjfknlnegpaaGreatDivMath
import Derived.Test.YtghjjfknlnegpaaGreatCompareP
import Derived.Test.YtghjjfknlnegpaaGreatShelf
import Derived.Shelf.Small.Bits
import Derived.Test.YtghjjfknlnegpaaGreatIntKit
import Derived.Laws.StructEq
set_option linter.unusedSimpArgs false
set_option linter.unusedVariables false
namespace Go.Proofs.Gv
open Go Go.RowKit

/-- The carry into digit k of x * p. -/
def hc (x p k : Nat) : Nat := x % B32 ^ k * p / B32 ^ k
end Go.Proofs.Gv

namespace Go.Proofs.Gv
open Go Go.RowKit

theorem Dr.step (w : World) : Dr w w.drew := ⟨1, rfl⟩

end Go.Proofs.Gv

namespace Go.Proofs.Gv
open Go Go.RowKit

/-- Sign and bytes are equal. -/
def eqI (a : Bool) (s : ByteArray) (b : Bool) (t : ByteArray) : Bool := (a == b) && (s.toList == t.toList)
theorem eqS (a b : Bool) (s t : ByteArray) (w : World) :
    (Op.equalIn 10000 29 (.agg #[.bool a, .string s]) (.agg #[.bool b, .string t])).run Tryz.prog w = .ok (eqI a s b t) w := by
  have hS : Tryz.prog.underlying 29 = some (.struct (Tryz.prog.fieldsOf 29)) := by kernel_rfl
  have hp : Tryz.prog.stoodInHeld 29 = false := by kernel_rfl
  have u4 := Tryz.underlying4
  have a4 := Tryz.isAgg4
  have z4 := Tryz.sizeOf4
  have u9 := Tryz.underlying9
  have a9 := Tryz.isAgg9
  have z9 := Tryz.sizeOf9
  rw [show (10000 : Nat) = 9999 + 1 from rfl, run_equalIn_agg w 9999 29 _ _ hS hp]
  simp only [Program.fieldsOf, Tryz.underlying29]
  go_simp
  unfold eqI
  by_cases h : s.toList = t.toList <;> cases a <;> cases b <;> simp [h]
@[go_sem ↓] theorem run_eqlS (a b : Bool) (s t : ByteArray) (w : World) :
    (binOp .eql 29 (.agg #[.bool a, .string s]) (.agg #[.bool b, .string t])).run Tryz.prog w = .ok (.bool (eqI a s b t)) w := by
  rw [run_eql_struct, eqS]; rfl
@[go_sem ↓] theorem run_neqS (a b : Bool) (s t : ByteArray) (w : World) :
    (binOp .neq 29 (.agg #[.bool a, .string s]) (.agg #[.bool b, .string t])).run Tryz.prog w = .ok (.bool (!eqI a s b t)) w := by
  rw [run_neq_struct, eqS]; rfl
@[go_sem] theorem eqGuardS : Tryz.prog.eqGuardType Tryz.prog.depth 29 = false := by kernel_rfl
end Go.Proofs.Gv
