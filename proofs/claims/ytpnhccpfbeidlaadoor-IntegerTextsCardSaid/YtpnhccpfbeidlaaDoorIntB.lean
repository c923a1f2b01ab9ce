/- integer.Add, Sub: what they compute. -/
import Derived.Test.YtpnhccpfbeidlaaDoorIntA
import Derived.Test.YtpnhccpfbeidlaaDoorSub
import Derived.Test.YtpnhccpfbeidlaaDoorDivide
namespace Go.Proofs.Gv
open Go Go.RowKit

theorem nlen_add (x y : Nat) : nlen (x + y) ≤ nlen x + nlen y + 1 := by
  rw [nlen_le_iff]
  have h1 := Nat.lt_of_lt_of_le (lt_pow_nlen x) (Nat.pow_le_pow_right B32_pos (show nlen x ≤ nlen x + nlen y by omega))
  have h2 := Nat.lt_of_lt_of_le (lt_pow_nlen y) (Nat.pow_le_pow_right B32_pos (show nlen y ≤ nlen x + nlen y by omega))
  have h3 : 2 * B32 ^ (nlen x + nlen y) ≤ B32 * B32 ^ (nlen x + nlen y) := Nat.mul_le_mul_right _ (by decide)
  rw [Nat.pow_succ, Nat.mul_comm (B32 ^ _)]
  omega

end Go.Proofs.Gv
