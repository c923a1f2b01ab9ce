/- awake of the chapter on integers: it returns true. -/
import Derived.Test.YtjnlfmhckdijlaaEx01
import Derived.Test.YtjnlfmhckdijlaaIntKit
import Derived.Laws.StructEq
import Derived.Deep.RegionHeld3
set_option linter.unusedSimpArgs false
set_option linter.unusedVariables false
namespace Go.Proofs.Gv
open Go Go.RowKit

/-- One call more that makes memory alone. -/
theorem bstep {w W W1 W' : World} (h : Below w.heap.size w W) (hb : Below W1.heap.size W1 W') (e1 : W1.heap = W.heap := by rfl) (e2 : W1.os = W.os := by rfl) (e3 : W1.tape = W.tape := by rfl) (e4 : W1.output = W.output := by rfl) : Below w.heap.size w W' := by
  have hb' : Below W.heap.size W W' := ⟨hb.os.trans e2, hb.tape.trans e3, hb.output.trans e4, by rw [← e1]; exact hb.size, fun k hk => by rw [← e1]; exact hb.block k (by rw [e1]; exact hk)⟩
  exact h.trans (hb'.mono h.size)

end Go.Proofs.Gv
