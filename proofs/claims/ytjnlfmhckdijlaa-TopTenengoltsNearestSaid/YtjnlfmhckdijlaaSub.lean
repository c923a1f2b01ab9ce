/- integer.subtract: the difference of two naturals. -/
import Derived.Test.YtjnlfmhckdijlaaRows
import Derived.Test.YtjnlfmhckdijlaaKit
set_option linter.unusedSimpArgs false
set_option linter.unusedVariables false
namespace Go.Proofs.Gv
open Go Go.RowKit

/-- The borrow out of digit k of x - y. -/
def bw (x y k : Nat) : Nat := if x % B32 ^ k < y % B32 ^ k then 1 else 0
end Go.Proofs.Gv
