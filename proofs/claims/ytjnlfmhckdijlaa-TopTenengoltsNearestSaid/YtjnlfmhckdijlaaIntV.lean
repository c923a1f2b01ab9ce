/- Add, Mul, Of at canonical integers. -/
import Derived.Test.YtjnlfmhckdijlaaIntKit
import Derived.Test.YtjnlfmhckdijlaaSub
import Derived.Deep.RegionHeld3
import Derived.Test.YtjnlfmhckdijlaaDivide
import Derived.Laws.StructEq
set_option linter.unusedSimpArgs false
set_option linter.unusedVariables false
namespace Go.Proofs.Gv
open Go Go.RowKit

theorem mg_zero : mg 0 = ⟨#[]⟩ := by
  have h := byt_len_le 0 0 (by decide)
  have : byt 0 = [] := List.eq_nil_of_length_eq_zero (by omega)
  unfold mg; rw [this]
end Go.Proofs.Gv
