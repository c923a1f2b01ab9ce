/- Layer 02: the contracts of rational, said of numbers. -/
import Derived.Test.YtghjjfknlnegpaaGreatEuclidP
import Derived.Test.YtghjjfknlnegpaaGreatRat
import Derived.Test.YtghjjfknlnegpaaGreatShelf
import Derived.Shelf.Small.Bits
import Derived.Test.YtghjjfknlnegpaaGreatKitP
import Derived.Lib.SlTrimSet
import Derived.Test.YtghjjfknlnegpaaGreatIntKit
import Derived.Test.YtghjjfknlnegpaaGreatRows
import Derived.Shelf.Strings.SlTrimAscii
import Derived.Lib.ConvBytes
import Derived.Test.YtghjjfknlnegpaaGreatLawKit
import Derived.Test.YtghjjfknlnegpaaGreatLawValP
import Derived.Deep.LoopGhost
import Derived.OpenShut
import Derived.Test.YtghjjfknlnegpaaGreatBs
import Derived.Test.YtghjjfknlnegpaaGreatRatEq
import Derived.Laws.EntriesVeiled
import Derived.Test.YtghjjfknlnegpaaGreatRowUP
import Derived.Deep.Slices
import Derived.Deep.Fields
import Derived.ChangeSame
import Derived.Carry
import Derived.Lib.SmallJoins
import Derived.Test.YtghjjfknlnegpaaGreatLawP
import Derived.Test.YtghjjfknlnegpaaGreatHordP
import Derived.Test.YtghjjfknlnegpaaGreatHuf
import Derived.Test.YtghjjfknlnegpaaGreatHufM
set_option linter.unusedSimpArgs false
set_option linter.unusedVariables false
namespace Go.Proofs.Gv
open Go Go.RowKit

theorem Rp.le {n : Bool} {s : ByteArray} {a z : Int} (h : Rp n s a) (hz : z.natAbs ≤ a.natAbs) : Rp (sgn z) (mg z.natAbs) z := by
  refine ⟨iv_V z, Nat.le_trans (size_mg ?_) h.sz⟩
  have h1 := iv_lt n s
  rw [h.val] at h1
  omega
theorem Rp.one : Rp false (mg 1) 1 := Rp.V (z := 1) 1 (by decide) (by decide)
section
variable {na ma nb mb : Bool} {sa ta sb tb : ByteArray} {a b : Rat}
end
end Go.Proofs.Gv

namespace Go.Proofs.Gv
open Go Go.RowKit Go.ChangeShapes Go.WideShapes Go.Deep

/-- A row of bytes. -/
def BSl (W : World) (a : Option Addr) (L : List Nat) : Prop := ∀ (i x : Nat), L[i]? = some x → ∃ A, a = some A ∧ W.cell? (A.add i) = some (.int .u8 (x : Int))
theorem BSl.below {W W' : World} {a : Option Addr} {L : List Nat} (h : BSl W a L) (hb : Below W.heap.size W W') : BSl W' a L := fun i x hi => by
  obtain ⟨A, e, hc⟩ := h i x hi
  exact ⟨A, e, (hb.cell (World.block_lt_of_cell? _ _ hc)).trans hc⟩
end Go.Proofs.Gv

namespace Go.Proofs.Gv
open Go Go.RowKit Go.Maps

@[go_sem] theorem run_max5z {P : Program} {w : World} (ts : Array TypeId) (t : TypeId) : (Builtin.max_ ts t #[.int .i64 0, .int .i64 0, .int .i64 0, .int .i64 0, .int .i64 0]).run P w = .ok (.int .i64 0) w := by
  first
  | rfl
  | simp [Builtin.max_, go_sem]
end Go.Proofs.Gv
