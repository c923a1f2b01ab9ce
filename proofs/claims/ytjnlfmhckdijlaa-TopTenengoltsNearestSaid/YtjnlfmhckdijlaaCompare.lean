/- integer.compare: the order of two naturals. -/
import Derived.Test.YtjnlfmhckdijlaaRows
import Derived.Test.YtjnlfmhckdijlaaKit
set_option linter.unusedSimpArgs false
set_option linter.unusedVariables false
namespace Go.Proofs.Gv
open Go Go.RowKit

/-- The digits from m on agree. -/
def Agree (x y m : Nat) : Prop := x / B32 ^ m = y / B32 ^ m
theorem Agree.top {x y : Nat} (h : nlen x = nlen y) : Agree x y (nlen x) := by
  unfold Agree
  rw [Nat.div_eq_of_lt (lt_pow_nlen x), h, Nat.div_eq_of_lt (lt_pow_nlen y)]
theorem Agree.step {x y m : Nat} (h : Agree x y (m + 1)) (e : D x m = D y m) : Agree x y m := by
  unfold Agree at h ⊢
  rw [div_step x m, div_step y m, h, e]
theorem Agree.lt {x y m : Nat} (h : Agree x y (m + 1)) (e : D x m < D y m) : x < y := by
  unfold Agree at h
  have h1 : x / B32 ^ m < y / B32 ^ m := by rw [div_step x m, div_step y m, h]; omega
  exact Nat.lt_of_div_lt_div h1
theorem Agree.all {x y : Nat} (h : Agree x y 0) : x = y := by simpa [Agree] using h

end Go.Proofs.Gv
