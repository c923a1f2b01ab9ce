/- limited.Table; limited.Check at lengths within the limit. -/
import Derived.Test.YtghjjfknlnegpaaGreatLcn
set_option linter.unusedSimpArgs false
set_option linter.unusedVariables false
namespace Go.Proofs.Gv
open Go Go.RowKit Go.Maps

@[go_sem ↓] theorem field_rows (n : Int) (S T : Option Addr) (n1 c1 m1 d1 : Nat) (w : World) : (Instr.field 51 (.agg #[.int .i64 n, .slice S n1 c1, .slice T m1 d1]) 2).run Tryz.prog w = .ok (.slice T m1 d1) w := by kernel_rfl
/-- A row of the table, as integers. -/
noncomputable def rowX (O : List Nat) (n r : Nat) : List (Bool × ByteArray) := (List.range ((n + 1) * (n + 1))).map fun x => (oB (tb O n r (x / (n + 1)) (x % (n + 1))), oS (tb O n r (x / (n + 1)) (x % (n + 1))))
/-- The table. -/
noncomputable def tabX (Ws : List Nat) (m : Nat) : List (List (Bool × ByteArray)) := (List.range (m + 1)).map fun j => rowX (owL Ws) Ws.length (m - j)
theorem rowX_len (O : List Nat) (n r : Nat) : (rowX O n r).length = (n + 1) * (n + 1) := by unfold rowX; simp
theorem tabX_len (Ws : List Nat) (m : Nat) : (tabX Ws m).length = m + 1 := by unfold tabX; simp
theorem nn_le {n : Nat} (h : n ≤ 12) : (n + 1) * (n + 1) ≤ 169 := Nat.mul_le_mul (show n + 1 ≤ 13 by omega) (show n + 1 ≤ 13 by omega)
end Go.Proofs.Gv
