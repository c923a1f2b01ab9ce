/- grooveref39.lists: the lists of the levels. -/
import Derived.Test.YtghjjfknlnegpaaGreatLpc
import Derived.Test.YtghjjfknlnegpaaGreatMtp
import Derived.Test.YtghjjfknlnegpaaGreatRowUP
import Derived.Test.YtghjjfknlnegpaaGreatLawValP
import Derived.Deep.LoopGhost
import Derived.Test.YtghjjfknlnegpaaGreatIntKit
import Derived.Test.YtghjjfknlnegpaaGreatRows
import Derived.Test.YtghjjfknlnegpaaGreatKitP
import Derived.Deep.RegionHeld3
import Derived.Test.YtghjjfknlnegpaaGreatIntEqP
import Derived.Test.YtghjjfknlnegpaaGreatShelf
import Derived.Shelf.Small.Bits
import Derived.Test.YtghjjfknlnegpaaGreatMixP
import Derived.Test.YtghjjfknlnegpaaGreatOwnBP
import Derived.Maps.AppendAt
import Derived.Test.YtghjjfknlnegpaaGreatFront
import Derived.Test.YtghjjfknlnegpaaGreatLawP
import Derived.Test.YtghjjfknlnegpaaGreatHordP
import Derived.Deep.AppendLies
import Derived.Test.YtghjjfknlnegpaaGreatLcn
import Derived.Test.YtghjjfknlnegpaaGreatLnp
import Derived.Test.YtghjjfknlnegpaaGreatLtab
import Derived.Test.YtghjjfknlnegpaaGreatLlnP
set_option linter.unusedSimpArgs false
set_option linter.unusedVariables false
namespace Go.Proofs.Gv
open Go Go.RowKit Go.Maps

/-- The flags of the reference: whether an element is a package. -/
def ngI (L : List (Nat × Bool)) : List (Nat × Bool) := L.map fun x => (x.1, !x.2)
/-- The rows of the levels. -/
structure LvM (W : World) (skip : Option Nat) (Lv : List Value) (A : List Nat) (k : Nat) : Prop where
  len : Lv.length = k
  row : ∀ (i : Nat) (v : Value), Lv[i]? = some v → ∃ g c, v = .slice (some ⟨g, 0, none⟩) (lvI A (i + 1)).length c ∧ (lvI A (i + 1)).length ≤ c ∧ c ≤ maxLen ∧ g < W.heap.size ∧ skip ≠ some g ∧ ItS W g (ngI (lvI A (i + 1)))
theorem LvM.below {W W' : World} {skip : Option Nat} {Lv : List Value} {A : List Nat} {k : Nat} (h : LvM W skip Lv A k) (hb : Below W.heap.size W W') : LvM W' skip Lv A k := by
  refine ⟨h.len, fun i v hi => ?_⟩
  obtain ⟨g, c, h1, h2, h3, h4, h5, h6⟩ := h.row i v hi
  exact ⟨g, c, h1, h2, h3, Nat.lt_of_lt_of_le h4 hb.size, h5, h6.below hb⟩
end Go.Proofs.Gv

namespace Go.Proofs.Gv
open Go Go.RowKit Go.Maps

theorem PkR.belowM {W W' : World} {g : Nat} {P : List (Nat × Nat)} (h : PkR W g P) (hb : Below W.heap.size W W') : PkR W' g P := fun j t s hj => by
  obtain ⟨gj, h1, h2, h3⟩ := h j t s hj
  exact ⟨gj, cellBelow h1 hb, cellBelow h2 hb, cellBelow h3 hb⟩
end Go.Proofs.Gv
