/- The examples of the chapter on integers. -/
import Derived.Test.YtghjjfknlnegpaaGreatStrP
import Derived.Test.YtghjjfknlnegpaaGreatIntKit
import Derived.Test.YtghjjfknlnegpaaGreatRows
import Derived.Test.YtghjjfknlnegpaaGreatKitP
import Derived.Deep.RegionHeld3
import Derived.Test.YtghjjfknlnegpaaGreatIntEqP
import Derived.Test.YtghjjfknlnegpaaGreatShelf
import Derived.Shelf.Small.Bits
import Derived.Laws.BitsLemmas
import Derived.Laws.CopyOwn
import Derived.BigRegion
import Derived.Test.YtghjjfknlnegpaaGreatCompareP
import Derived.Test.YtghjjfknlnegpaaGreatPrint
set_option linter.unusedSimpArgs false
set_option linter.unusedVariables false
namespace Go.Proofs.Gv
open Go Go.RowKit

theorem vsize {z : Int} (h : z.natAbs < 256 ^ 60) : (mg z.natAbs).size ≤ 60 := size_mg h
theorem vs {z : Int} (h : z.natAbs < 256 ^ 60) : (mg z.natAbs).size ≤ 1000000 := Nat.le_trans (vsize h) (by decide)
/-- Boxes of integers. -/
def Boxes (L : List (Nat × Bool × ByteArray)) (W : World) : Prop := ∀ x ∈ L, W.heap[x.1]? = some (.cells #[.bool x.2.1, .string x.2.2] 29 (0, 0))
theorem Boxes.nil (W : World) : Boxes [] W := fun x h => by cases h
theorem Boxes.below {L : List (Nat × Bool × ByteArray)} {W W1 W' : World} (h : Boxes L W) (hb : Below W1.heap.size W1 W') (e : W1.heap = W.heap := by rfl) : Boxes L W' := fun x hx => by
  have h1 := h x hx
  rw [hb.block _ (by rw [e]; exact (Array.getElem?_eq_some_iff.1 h1).1), e]
  exact h1
theorem Boxes.push {L : List (Nat × Bool × ByteArray)} {W : World} (h : Boxes L W) (n : Bool) (s : ByteArray) : Boxes ((W.heap.size, n, s) :: L) (W.alloc (.cells #[.bool n, .string s] 29)) := fun x hx => by
  rcases List.mem_cons.1 hx with rfl | hx
  · exact heap_alloc_new W _
  · have h1 := h x hx
    rw [Below.heap_alloc W _ _ (Array.getElem?_eq_some_iff.1 h1).1]
    exact h1
end Go.Proofs.Gv

namespace Go.Proofs.Gv
open Go Go.RowKit

/-- One call more that makes memory alone. -/
theorem bstep {w W W1 W' : World} (h : Below w.heap.size w W) (hb : Below W1.heap.size W1 W') (e1 : W1.heap = W.heap := by rfl) (e2 : W1.os = W.os := by rfl) (e3 : W1.tape = W.tape := by rfl) (e4 : W1.output = W.output := by rfl) : Below w.heap.size w W' := by
  have hb' : Below W.heap.size W W' := ⟨hb.os.trans e2, hb.tape.trans e3, hb.output.trans e4, by rw [← e1]; exact hb.size, fun k hk => by rw [← e1]; exact hb.block k (by rw [e1]; exact hk)⟩
  exact h.trans (hb'.mono h.size)

end Go.Proofs.Gv
