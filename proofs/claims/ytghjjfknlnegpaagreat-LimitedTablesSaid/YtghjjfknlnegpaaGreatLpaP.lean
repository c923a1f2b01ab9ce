/- Package-merge, plainly: the lists of the levels, how many are taken, and that the counts are lengths of least cost. -/
import Derived.Test.YtghjjfknlnegpaaGreatHordP
import Derived.Test.YtghjjfknlnegpaaGreatHuf
import Derived.Test.YtghjjfknlnegpaaGreatHufM
import Derived.Test.YtghjjfknlnegpaaGreatRowUP
import Derived.Test.YtghjjfknlnegpaaGreatLawP
import Derived.Test.YtghjjfknlnegpaaGreatOwnBP
import Derived.Test.YtghjjfknlnegpaaGreatMixP
import Derived.Deep.AppendLies
import Derived.Test.YtghjjfknlnegpaaGreatLcn
set_option linter.unusedSimpArgs false
set_option linter.unusedVariables false
namespace Go.Proofs.Gv

/-- two ordered lists in one: those of the first ahead of equal ones of the second. -/
def mgI : List (Nat × Bool) → List (Nat × Bool) → List (Nat × Bool)
  | [], b => b
  | x :: a, b => go x a (mgI a) b
where go (x : Nat × Bool) (a : List (Nat × Bool)) (rec : List (Nat × Bool) → List (Nat × Bool)) : List (Nat × Bool) → List (Nat × Bool)
  | [] => x :: a
  | y :: b => if x.1 ≤ y.1 then x :: rec (y :: b) else y :: go x a rec b
def pkI : List (Nat × Bool) → List (Nat × Bool)
  | x :: y :: l => (x.1 + y.1, false) :: pkI l
  | _ => []
def sgI (A : List Nat) : List (Nat × Bool) := A.map (·, true)
def lvI (A : List Nat) : Nat → List (Nat × Bool)
  | 0 => []
  | t + 1 => mgI (sgI A) (pkI (lvI A t))
def sgN (l : List (Nat × Bool)) : Nat := l.countP (·.2)
/-- what is taken, from the level of a number on downwards. -/
def tkI (A : List Nat) : Nat → Nat → List (Nat × Nat)
  | 0, _ => []
  | t + 1, m => (m, sgN ((lvI A (t + 1)).take m)) :: tkI A t (2 * (m - sgN ((lvI A (t + 1)).take m)))
/-! The first of a level weigh least. -/
end Go.Proofs.Gv

namespace Go.Proofs.Gv

def auL (Ws : List Nat) : List Nat := (owL Ws).reverse
end Go.Proofs.Gv

namespace Go.Proofs.Gv
open Go Go.RowKit Go.Maps

/-- A row of items as cells. -/
def itV (L : List (Nat × Bool)) : List Value := L.flatMap fun x => [.bool false, .string (mg x.1), .bool x.2]
/-- A row of items reads. -/
def ItS (W : World) (b : Nat) (L : List (Nat × Bool)) : Prop := ∀ (m : Nat) (u : Value), (itV L)[m]? = some u → W.cell? ⟨b, m, none⟩ = some u
theorem ItS.below {W W' : World} {b : Nat} {L : List (Nat × Bool)} (h : ItS W b L) (hb : Below W.heap.size W W') : ItS W' b L := fun m u hm => (hb.cell (World.block_lt_of_cell? _ _ (h m u hm))).trans (h m u hm)
theorem ItS.grown {W W' : World} {b : Nat} {L : List (Nat × Bool)} {row : Option Nat} (h : ItS W b L) (hg : W.grownBy W' row) (hne : row ≠ some b) : ItS W' b L := fun m u hm =>
  (World.cell?_of_block (hg.block b (World.block_lt_of_cell? _ ⟨b, m, none⟩ (h m u hm)) (fun e => hne e.symm))).trans (h m u hm)
theorem ItS.set {W : World} {b p o : Nat} {v : Value} {L : List (Nat × Bool)} (h : ItS W b L) (hne : b ≠ p) : ItS (W.setCell ⟨p, o, none⟩ v) b L := fun m u hm => (World.cell?_setCell_other _ _ _ _ (fun e => hne (congrArg Addr.block e).symm)).trans (h m u hm)
theorem ItS.of {W : World} {g : Nat} {L : List (Nat × Bool)} (h : OwnAt W g (itV L)) : ItS W g L := fun _ _ hm => h.at hm
end Go.Proofs.Gv
