/- great of the statements on integers. -/
import Derived.Test.YtjnlfmhckdijlaaAwake01
set_option linter.unusedSimpArgs false
set_option linter.unusedVariables false
namespace Go.Proofs.Gv
open Go Go.RowKit

/-- The rows of integers that great is handed. -/
def gr (L : List (Bool × ByteArray)) : Bool := L.any fun x => decide (60 < x.2.size)

end Go.Proofs.Gv
