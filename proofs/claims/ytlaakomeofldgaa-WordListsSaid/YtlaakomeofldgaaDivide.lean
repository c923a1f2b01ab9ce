/- integer.divide: quotient and remainder of naturals. -/
import Derived.Test.YtlaakomeofldgaaShift
import Derived.Test.YtlaakomeofldgaaDivMath
import Derived.Test.YtlaakomeofldgaaCompare
import Derived.Test.YtlaakomeofldgaaShelf
import Derived.Test.YtlaakomeofldgaaKit
namespace Go.Proofs.Gv
open Go Go.RowKit

theorem Below.dr {B : Nat} {w w' : World} (h : Dr w w') : Below B w w' := by
  obtain ⟨n, rfl⟩ := h
  exact ⟨rfl, rfl, rfl, Nat.le_refl _, fun _ _ => rfl⟩

theorem Dr.step (w : World) : Dr w w.drew := ⟨1, rfl⟩

end Go.Proofs.Gv
