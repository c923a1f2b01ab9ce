/- The rows of a long division. -/
import Derived.Test.YtjnlfmhckdijlaaDivide
import Derived.Test.YtjnlfmhckdijlaaDivMath
import Derived.Test.YtjnlfmhckdijlaaShift
set_option linter.unusedSimpArgs false
set_option linter.unusedVariables false
namespace Go.Proofs.Gv
open Go Go.RowKit

/-- The three rows of a long division. -/
structure DivMem (w wr : World) (gv gq n M K : Nat) (f h : Nat → Nat) (Y : Nat) : Prop where
  u : wr.rowIs w.heap.size 71 n (u32s f)
  v : wr.rowIs gv 71 (M + 1) (u32s (D Y))
  q : wr.rowIs gq 71 K (u32s h)
  b : Below w.heap.size w wr
  l1 : w.heap.size < gv
  l2 : gv < gq
section
variable {w wr : World} {gv gq n M K : Nat} {f f' h h' : Nat → Nat} {Y : Nat}
theorem DivMem.congr (m : DivMem w wr gv gq n M K f h Y) (e : ∀ i, i < n → f i = f' i) : DivMem w wr gv gq n M K f' h Y :=
  ⟨m.u.congr fun i hi => by unfold u32s; rw [e i hi], m.v, m.q, m.b, m.l1, m.l2⟩
end

section
variable {Y W M T g r : Nat}
end
end Go.Proofs.Gv
