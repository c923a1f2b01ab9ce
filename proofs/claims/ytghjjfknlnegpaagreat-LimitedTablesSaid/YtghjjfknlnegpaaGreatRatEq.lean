/- '==' and '!=' of two rational numbers. -/
import Derived.Test.YtghjjfknlnegpaaGreatIntEqP
set_option linter.unusedSimpArgs false
set_option linter.unusedVariables false
namespace Go.Proofs.Gv
open Go Go.RowKit
/-- All four cells are equal. -/
def eqQ (a : Bool) (s : ByteArray) (c : Bool) (u : ByteArray) (b : Bool) (t : ByteArray) (d : Bool) (v : ByteArray) : Bool := eqI a s b t && eqI c u d v
theorem eqS' (k : Nat) (a b : Bool) (s t : ByteArray) (w : World) :
    (Op.equalIn (k + 2) 29 (.agg #[.bool a, .string s]) (.agg #[.bool b, .string t])).run Tryz.prog w = .ok (eqI a s b t) w := by
  have hS : Tryz.prog.underlying 29 = some (.struct (Tryz.prog.fieldsOf 29)) := by kernel_rfl
  have hp : Tryz.prog.stoodInHeld 29 = false := by kernel_rfl
  have u4 := Tryz.underlying4
  have a4 := Tryz.isAgg4
  have z4 := Tryz.sizeOf4
  have u9 := Tryz.underlying9
  have a9 := Tryz.isAgg9
  have z9 := Tryz.sizeOf9
  rw [run_equalIn_agg w (k + 1) 29 _ _ hS hp]
  simp only [Program.fieldsOf, Tryz.underlying29]
  go_simp
  unfold eqI
  by_cases h : s.toList = t.toList <;> cases a <;> cases b <;> simp [h]
theorem eqR (a b c d : Bool) (s t u v : ByteArray) (w : World) :
    (Op.equalIn 10000 108 (.agg #[.bool a, .string s, .bool c, .string u]) (.agg #[.bool b, .string t, .bool d, .string v])).run Tryz.prog w = .ok (eqQ a s c u b t d v) w := by
  have hS : Tryz.prog.underlying 108 = some (.struct (Tryz.prog.fieldsOf 108)) := by kernel_rfl
  have hp : Tryz.prog.stoodInHeld 108 = false := by kernel_rfl
  have a4 := Tryz.isAgg29
  have z4 := Tryz.sizeOf29
  have e1 : ∀ (a b : Bool) (s t : ByteArray) (w : World), (Op.equalIn 9999 29 (.agg #[.bool a, .string s]) (.agg #[.bool b, .string t])).run Tryz.prog w = .ok (eqI a s b t) w := eqS' 9997
  rw [show (10000 : Nat) = 9999 + 1 from rfl, run_equalIn_agg w 9999 108 _ _ hS hp]
  simp only [Program.fieldsOf, Tryz.underlying108]
  go_simp
  unfold eqQ
  cases eqI a s b t <;> cases eqI c u d v <;> simp
@[go_sem ↓] theorem run_eqlR (a b c d : Bool) (s t u v : ByteArray) (w : World) :
    (binOp .eql 108 (.agg #[.bool a, .string s, .bool c, .string u]) (.agg #[.bool b, .string t, .bool d, .string v])).run Tryz.prog w = .ok (.bool (eqQ a s c u b t d v)) w := by
  rw [run_eql_struct, eqR]; rfl
@[go_sem ↓] theorem run_neqR (a b c d : Bool) (s t u v : ByteArray) (w : World) :
    (binOp .neq 108 (.agg #[.bool a, .string s, .bool c, .string u]) (.agg #[.bool b, .string t, .bool d, .string v])).run Tryz.prog w = .ok (.bool (!eqQ a s c u b t d v)) w := by
  rw [run_neq_struct, eqR]; rfl
@[go_sem] theorem eqGuardR : Tryz.prog.eqGuardType Tryz.prog.depth 108 = false := by kernel_rfl
@[go_sem ↓] theorem field_num (a b : Bool) (s t : ByteArray) (w : World) : (Instr.field 108 (.agg #[.bool a, .string s, .bool b, .string t]) 0).run Tryz.prog w = .ok (.agg #[.bool a, .string s]) w := by kernel_rfl
@[go_sem ↓] theorem field_den (a b : Bool) (s t : ByteArray) (w : World) : (Instr.field 108 (.agg #[.bool a, .string s, .bool b, .string t]) 1).run Tryz.prog w = .ok (.agg #[.bool b, .string t]) w := by kernel_rfl
end Go.Proofs.Gv
