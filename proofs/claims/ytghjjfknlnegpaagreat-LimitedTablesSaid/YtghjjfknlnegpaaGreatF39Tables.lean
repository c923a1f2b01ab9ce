/- LimitedTables: the law returns true for every input, and leaves what was there as it was. -/
import Derived.Test.YtghjjfknlnegpaaGreatRows
import Derived.WalkKit
import Derived.ProofKit
import Derived.OpenShut
import Derived.ShutString
import Derived.HandedShaped
import Derived.Shelf.Vars
import Derived.Lib.SmallJoins
import Derived.Below
import Derived.ChangeSame
import Derived.Test.YtghjjfknlnegpaaGreatRowUP
import Derived.Deep.Slices
import Derived.Deep.Fields
import Derived.Carry
import Derived.Test.YtghjjfknlnegpaaGreatZlt
import Derived.Test.YtghjjfknlnegpaaGreatRefPwrP
namespace Go.Proofs.YtghjjfknlnegpaaGreat.limitedTables
open Go.ChangeShapes Go.WideShapes Go.ChangeAt Go.RowKit Go.Joins
open Go.ChangeMaps (open_string shut_string)
set_option linter.unusedVariables false

theorem own : ownKnob Tryz.prog.godebug = none := by kernel_rfl
theorem cellsI : Tryz.prog.cellsOf 29 = 2 := by kernel_rfl

end Go.Proofs.YtghjjfknlnegpaaGreat.limitedTables
