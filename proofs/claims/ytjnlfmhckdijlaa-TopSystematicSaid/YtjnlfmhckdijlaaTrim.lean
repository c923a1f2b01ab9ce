/- integer.trim: the slice without the zeros at its end. -/
import Derived.Test.YtjnlfmhckdijlaaRows
import Derived.Test.YtjnlfmhckdijlaaKit
set_option linter.unusedSimpArgs false
set_option linter.unusedVariables false
namespace Go.Proofs.Gv
open Go Go.RowKit

theorem Try.info71z : (Try.prog.info? 71).map (fun i => (i.zero, i.size, i.bytes)) = some (some (.int .u32 0), 1, 4) := by kernel_rfl

end Go.Proofs.Gv
