/- integer.shift: a number times a power of 2, with one digit more. -/
import Derived.Test.YtjnlfmhckdijlaaSub
import Derived.RegionTactic
set_option linter.unusedSimpArgs false
set_option linter.unusedVariables false
namespace Go.Proofs.Gv
open Go Go.RowKit

/-- The carry into digit k of x * p. -/
def hc (x p k : Nat) : Nat := x % B32 ^ k * p / B32 ^ k
end Go.Proofs.Gv
