/- integer.divide: quotient and remainder of naturals. -/
import Derived.Test.YtjnlfmhckdijlaaShift
import Derived.Test.YtjnlfmhckdijlaaDivMath
import Derived.Test.YtjnlfmhckdijlaaCompare
import Derived.Test.YtjnlfmhckdijlaaShelf
import Derived.Shelf.Small.Bits
import Derived.Test.YtjnlfmhckdijlaaKit
set_option linter.unusedSimpArgs false
set_option linter.unusedVariables false
namespace Go.Proofs.Gv
open Go Go.RowKit

theorem Dr.step (w : World) : Dr w w.drew := ⟨1, rfl⟩

end Go.Proofs.Gv
