/- grooveref07: Border, Period, Find, Reverse. -/
import Derived.Test.YtlaakomeofldgaaAwk07
namespace Go.Proofs.Gv
open Go Go.RowKit

theorem below_append {n₀ : Nat} {a w w1 : World} {e : TypeId} {size k : Nat} {v : Value} {xs : List Value} {tmp : Obj} (h : Below n₀ a w) (hn : n₀ ≤ w.heap.size) (ho : w.ownsRow n₀ e size v k xs) (hg : (w.alloc tmp).grownBy w1 v.ownBlock) : Below n₀ a w1 :=
  (h.alloc hn tmp).grown hg (by simp; omega) (fun k e => (ho.lt k e).1)

end Go.Proofs.Gv
