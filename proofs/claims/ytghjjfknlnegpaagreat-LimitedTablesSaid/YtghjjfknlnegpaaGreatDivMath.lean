/- Long division: the plain arithmetic. -/
import Derived.Test.YtghjjfknlnegpaaGreatKitP
set_option linter.unusedSimpArgs false
set_option linter.unusedVariables false
namespace Go.Proofs.Gv

/-- a with b on top of its first k digits. -/
def join (k a b : Nat) : Nat := a + b * B32 ^ k
/-- The head of a number with m + 2 digits. -/
theorem head2 {z m : Nat} (hz : z < B32 ^ (m + 2)) : z / B32 ^ m = D z (m + 1) * B32 + D z m := by
  rw [div_step z m, div_step z (m + 1), Nat.div_eq_of_lt hz, Nat.zero_mul, Nat.zero_add]
theorem head3 {z m : Nat} (hz : z < B32 ^ (m + 3)) : z / B32 ^ m = (D z (m + 2) * B32 + D z (m + 1)) * B32 + D z m := by
  rw [div_step z m, head2 (m := m + 1) hz]

section
variable {Y W m g r : Nat}
/-- Y has m + 2 digits, the first one great; W is less than Y * B32. -/
structure Pair (Y W m : Nat) : Prop where
  hY : Y < B32 ^ (m + 2)
  vt : 2147483648 ≤ D Y (m + 1)
  hW : W < Y * B32

theorem Pair.pos (h : Pair Y W m) : 0 < Y := by
  have := h.hW
  rcases Nat.eq_zero_or_pos Y with e | e
  · subst e; omega
  · exact e
theorem Pair.W_lt (h : Pair Y W m) : W < B32 ^ (m + 3) := by
  have h1 : Y * B32 < B32 ^ (m + 2) * B32 := Nat.mul_lt_mul_of_pos_right h.hY B32_pos
  rw [← Nat.pow_succ] at h1
  exact Nat.lt_trans h.hW h1
/-- The first two digits of the window. -/
def wtop (W m : Nat) : Nat := D W (m + 2) * B32 + D W (m + 1)
theorem Pair.split (h : Pair Y W m) : Y = (D Y (m + 1) * B32 + D Y m) * B32 ^ m + Y % B32 ^ m ∧ W = (wtop W m * B32 + D W m) * B32 ^ m + W % B32 ^ m := by
  have e1 := Nat.div_add_mod Y (B32 ^ m)
  have e2 := Nat.div_add_mod W (B32 ^ m)
  rw [head2 h.hY, Nat.mul_comm] at e1
  rw [head3 h.W_lt, Nat.mul_comm] at e2
  exact ⟨e1.symm, e2.symm⟩
end
end Go.Proofs.Gv
