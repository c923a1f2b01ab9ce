/- grooveref39.Lengths: printed by mk_mln.py. -/
import Derived.Test.YtghjjfknlnegpaaGreatMtp
import Derived.Test.YtghjjfknlnegpaaGreatRowUP
import Derived.Test.YtghjjfknlnegpaaGreatLawValP
import Derived.Deep.LoopGhost
import Derived.Test.YtghjjfknlnegpaaGreatIntKit
import Derived.Test.YtghjjfknlnegpaaGreatRows
import Derived.Test.YtghjjfknlnegpaaGreatKitP
import Derived.Deep.RegionHeld3
import Derived.Test.YtghjjfknlnegpaaGreatIntEqP
import Derived.Test.YtghjjfknlnegpaaGreatShelf
import Derived.Shelf.Small.Bits
import Derived.Test.YtghjjfknlnegpaaGreatMixP
import Derived.Test.YtghjjfknlnegpaaGreatOwnBP
import Derived.Maps.AppendAt
import Derived.Test.YtghjjfknlnegpaaGreatFront
import Derived.Test.YtghjjfknlnegpaaGreatLawP
import Derived.Test.YtghjjfknlnegpaaGreatHordP
import Derived.Deep.AppendLies
import Derived.Test.YtghjjfknlnegpaaGreatLcn
import Derived.Test.YtghjjfknlnegpaaGreatLnp
import Derived.Test.YtghjjfknlnegpaaGreatLtab
import Derived.Test.YtghjjfknlnegpaaGreatLlnP
set_option linter.unusedSimpArgs false
set_option linter.unusedVariables false
namespace Go.Proofs.Gv
open Go Go.RowKit Go.Maps

/-- What stays as it is while the reference puts the lengths in their places. -/
structure KR9 (n S T Go N m : Nat) (gs : Nat → Nat) (O ord : List Nat) (W : World) : Prop where
  s : SumT W S O n
  o : BC W Go (natV ord)
  r : ∀ j, j ≤ m → W.cell? ⟨T, j, none⟩ = some (.slice (some ⟨gs j, 0, none⟩) N N) ∧ RowT W (gs j) O n (m - j)
theorem KR9.row {n S T Go N m : Nat} {gs : Nat → Nat} {O ord : List Nat} {W W' : World} {row : Option Nat} (h : KR9 n S T Go N m gs O ord W) (hg : W.grownBy W' row) (h2 : row ≠ some S) (h3 : row ≠ some T) (h4 : row ≠ some Go) (h5 : ∀ j, j ≤ m → row ≠ some (gs j)) : KR9 n S T Go N m gs O ord W' :=
  ⟨h.s.byGrown hg h2, h.o.byGrown hg h4, fun j hj => ⟨(World.cell?_of_block (hg.block _ (World.block_lt_of_cell? _ _ (h.r j hj).1) (fun e => h3 e.symm))).trans (h.r j hj).1, (h.r j hj).2.byGrown hg (h5 j hj)⟩⟩
theorem KR9.below {n S T Go N m : Nat} {gs : Nat → Nat} {O ord : List Nat} {W W' : World} (h : KR9 n S T Go N m gs O ord W) (hb : Below W.heap.size W W') : KR9 n S T Go N m gs O ord W' :=
  h.row (gRow hb none) (by simp) (by simp) (by simp) (fun _ _ => by simp)
end Go.Proofs.Gv
