/- The examples of the chapter on integers. -/
import Derived.Test.YtlaakomeofldgaaIntVP
import Derived.Test.YtlaakomeofldgaaIntD
import Derived.Test.YtlaakomeofldgaaIntOf
import Derived.Test.YtlaakomeofldgaaIntB
import Derived.Test.YtlaakomeofldgaaIntKit
import Derived.Deep.RegionHeld3
import Derived.Test.YtlaakomeofldgaaBits
import Derived.Test.YtlaakomeofldgaaRootI
import Derived.Test.YtlaakomeofldgaaPrint
namespace Go.Proofs.Gv
open Go Go.RowKit

theorem vsize {z : Int} (h : z.natAbs < 256 ^ 60) : (mg z.natAbs).size ≤ 60 := size_mg h
theorem vs {z : Int} (h : z.natAbs < 256 ^ 60) : (mg z.natAbs).size ≤ 1000000 := Nat.le_trans (vsize h) (by decide)
theorem div_uniq {a b q r q' r' : Int} (h : DivSpec a b q r) (h' : DivSpec a b q' r') : q = q' ∧ r = r' := by
  obtain ⟨e, h⟩ := h
  obtain ⟨e', h'⟩ := h'
  have hq : (q - q') * b = r' - r := by rw [Int.sub_mul]; omega
  have hz : q - q' = 0 := by
    rcases Int.lt_trichotomy (q - q') 0 with h1 | h1 | h1
    · rcases h with h | h <;> rcases h' with h' | h'
      · have : (q - q') * b ≤ (-1) * b := Int.mul_le_mul_of_nonneg_right (by omega) (by omega)
        omega
      · omega
      · omega
      · have : (-1) * b ≤ (q - q') * b := Int.mul_le_mul_of_nonpos_right (by omega) (by omega)
        omega
    · exact h1
    · rcases h with h | h <;> rcases h' with h' | h'
      · have : 1 * b ≤ (q - q') * b := Int.mul_le_mul_of_nonneg_right (by omega) (by omega)
        omega
      · omega
      · omega
      · have : (q - q') * b ≤ 1 * b := Int.mul_le_mul_of_nonpos_right (by omega) (by omega)
        omega
  have : q = q' := by omega
  subst this
  exact ⟨rfl, by omega⟩

/-- Boxes of integers. -/
def Boxes (L : List (Nat × Bool × ByteArray)) (W : World) : Prop := ∀ x ∈ L, W.heap[x.1]? = some (.cells #[.bool x.2.1, .string x.2.2] 49 (0, 0))
theorem Boxes.nil (W : World) : Boxes [] W := fun x h => by cases h
theorem Boxes.below {L : List (Nat × Bool × ByteArray)} {W W1 W' : World} (h : Boxes L W) (hb : Below W1.heap.size W1 W') (e : W1.heap = W.heap := by rfl) : Boxes L W' := fun x hx => by
  have h1 := h x hx
  rw [hb.block _ (by rw [e]; exact (Array.getElem?_eq_some_iff.1 h1).1), e]
  exact h1
theorem Boxes.push {L : List (Nat × Bool × ByteArray)} {W : World} (h : Boxes L W) (n : Bool) (s : ByteArray) : Boxes ((W.heap.size, n, s) :: L) (W.alloc (.cells #[.bool n, .string s] 49)) := fun x hx => by
  rcases List.mem_cons.1 hx with rfl | hx
  · exact heap_alloc_new W _
  · have h1 := h x hx
    rw [Below.heap_alloc W _ _ (Array.getElem?_eq_some_iff.1 h1).1]
    exact h1
end Go.Proofs.Gv
