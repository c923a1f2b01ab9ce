/- WordNext: the plain laws. -/
import Derived.Test.YtjnlfmhckdijlaaUnL
set_option linter.unusedSimpArgs false
set_option linter.unusedVariables false
namespace Go.Proofs.Gv
open Go Go.RowKit

theorem zeros_size (n : Nat) : (⟨(List.replicate n 48).toArray⟩ : ByteArray).size = n := by
  show ((List.replicate n 48).toArray).size = n
  simp
/-- Once all is divided off, the letters left are 0. -/
theorem un_rest {q n A k j : Nat} (hz : A / q ^ k = 0) (hj : j < n - k) : unD q n A j = 48 := by
  unfold unD
  rw [show n - 1 - j = k + (n - 1 - j - k) by omega, Nat.pow_add, ← Nat.div_div_eq_div_mul, hz, Nat.zero_div, Nat.zero_mod]
  rfl
end Go.Proofs.Gv
