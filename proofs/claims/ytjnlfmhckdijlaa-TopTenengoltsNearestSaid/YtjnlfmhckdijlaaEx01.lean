/- The examples of the chapter on integers. -/
import Derived.Test.YtjnlfmhckdijlaaIntV
import Derived.Test.YtjnlfmhckdijlaaIntKit
import Derived.Test.YtjnlfmhckdijlaaSub
import Derived.Deep.RegionHeld3
import Derived.Test.YtjnlfmhckdijlaaDivide
import Derived.Test.YtjnlfmhckdijlaaDivmem
import Derived.Test.YtjnlfmhckdijlaaShelf
import Derived.Shelf.Small.Bits
import Derived.Test.YtjnlfmhckdijlaaKit
import Derived.Test.YtjnlfmhckdijlaaRootI
import Derived.Test.YtjnlfmhckdijlaaPrint
set_option linter.unusedSimpArgs false
set_option linter.unusedVariables false
namespace Go.Proofs.Gv
open Go Go.RowKit

theorem vsize {z : Int} (h : z.natAbs < 256 ^ 60) : (mg z.natAbs).size ≤ 60 := size_mg h
theorem vs {z : Int} (h : z.natAbs < 256 ^ 60) : (mg z.natAbs).size ≤ 1000000 := Nat.le_trans (vsize h) (by decide)
end Go.Proofs.Gv
