/- Lengths at any address: slices.Max, measure.Fits, limited.fits (printed by mk_zna.py). -/
import Derived.Test.YtghjjfknlnegpaaGreatLtt
import Derived.Test.YtghjjfknlnegpaaGreatMtp
import Derived.Test.YtghjjfknlnegpaaGreatRowUP
import Derived.Test.YtghjjfknlnegpaaGreatLawValP
import Derived.Deep.LoopGhost
import Derived.Test.YtghjjfknlnegpaaGreatIntKit
import Derived.Test.YtghjjfknlnegpaaGreatRows
import Derived.Test.YtghjjfknlnegpaaGreatKitP
import Derived.Deep.RegionHeld3
import Derived.Test.YtghjjfknlnegpaaGreatIntEqP
import Derived.Test.YtghjjfknlnegpaaGreatShelf
import Derived.Shelf.Small.Bits
import Derived.Test.YtghjjfknlnegpaaGreatMixP
import Derived.Test.YtghjjfknlnegpaaGreatOwnBP
import Derived.Maps.AppendAt
import Derived.Test.YtghjjfknlnegpaaGreatFront
import Derived.Test.YtghjjfknlnegpaaGreatZtb
import Derived.BigQuiet
import Derived.Deep.QuietTactic
import Derived.Laws.BitsLemmas
import Derived.Test.YtghjjfknlnegpaaGreatStrP
set_option linter.unusedSimpArgs false
set_option linter.unusedVariables false
namespace Go.Proofs.Gv
open Go Go.RowKit Go.Maps

/-- Cells in a row, at any address. -/
def NAt (W : World) (A : Addr) (l : List Value) : Prop := ∀ (i : Nat) (v : Value), l[i]? = some v → W.cell? (A.add i) = some v
theorem NAt.at {W : World} {A : Addr} {l : List Value} (h : NAt W A l) (i : Nat) (v : Value) (hi : l[i]? = some v) : W.cell? (A.add i) = some v := h i v hi
theorem NAt.below {W W' : World} {A : Addr} {l : List Value} (h : NAt W A l) (hb : Below W.heap.size W W') : NAt W' A l := fun i v hi =>
  (hb.cell (World.block_lt_of_cell? W _ (h i v hi))).trans (h i v hi)
theorem NAt.alloc {W : World} {A : Addr} {l : List Value} (h : NAt W A l) (b) : NAt (W.alloc b) A l := h.below ((Below.refl _ _).alloc (Nat.le_refl _) b)
end Go.Proofs.Gv

namespace Go.Proofs.Gv
open Go Go.RowKit Go.Maps

/-- A slice of one-cell values at any address. -/
def RowO (W : World) (v : Value) (L : List Value) : Prop := ∃ (a : Option Addr) (c : Nat), v = .slice a L.length c ∧ ∀ (i : Nat) (x : Value), L[i]? = some x → ∃ g, a = some g ∧ W.cell? (g.add i) = some x
theorem RowO.below {W W' : World} {v : Value} {L : List Value} (h : RowO W v L) (hb : Below W.heap.size W W') : RowO W' v L := by
  obtain ⟨a, c, rfl, hat⟩ := h
  refine ⟨a, c, rfl, fun i x hi => ?_⟩
  obtain ⟨g, rfl, hc⟩ := hat i x hi
  exact ⟨g, rfl, (hb.cell (World.block_lt_of_cell? W _ hc)).trans hc⟩
end Go.Proofs.Gv

namespace Go.Proofs.Gv
open Go Go.RowKit Go.Maps

/-- Numbers at any address. -/
def NSx (W : World) (a : Option Addr) (xs : List Int) : Prop := ∀ (i : Nat) (x : Int), xs[i]? = some x → ∃ G, a = some G ∧ W.cell? (G.add i) = some (.int .i64 x)
theorem NSx.below {W W' : World} {a : Option Addr} {xs : List Int} (h : NSx W a xs) (hb : Below W.heap.size W W') : NSx W' a xs := fun i x hi => by
  obtain ⟨G, rfl, c⟩ := h i x hi
  exact ⟨G, rfl, cellBelow c hb⟩
theorem LTb.ok {Ws : List Nat} {k : Nat} {w w' : World} {e : Ending} (h0 : limE (VL Ws) k = 0) (h : LTb (VL Ws) k w e w') :
    ∃ T, e = .returned (.tuple #[.slice (some ⟨T, 0, none⟩) (k + 1) (k + 1), .int .i64 0]) ∧ RwS w' (.slice (some ⟨T, 0, none⟩) (k + 1) (k + 1)) (tabX Ws k) ∧ Below w.heap.size w w' := by
  obtain ⟨v, rfl, ht, hb⟩ := h
  rcases ht with ⟨h1, -⟩ | ⟨-, Us, T, e1, rfl, hr⟩
  · exact absurd h0 h1
  · obtain rfl := VLinj9 e1
    rw [Int.toNat_natCast] at hr ⊢
    exact ⟨T, by rw [h0], hr, hb⟩
end Go.Proofs.Gv

namespace Go.Proofs.Gv
open Go Go.RowKit

/-- The boxes of Power: the result, out, square. -/
structure PwSt (w W : World) (b6 b7 : Nat) (zo zs : Int) : Prop where
  be : Below w.heap.size w W
  r : Bx W (w.heap.size + 1) false ⟨#[]⟩
  o : Bx W b6 (sgn zo) (mg zo.natAbs)
  q : Bx W b7 (sgn zs) (mg zs.natAbs)
  l6 : w.heap.size + 1 < b6
  l7 : w.heap.size + 1 < b7
  ne : b6 ≠ b7
theorem PwSt.below {w W W' : World} {b6 b7 : Nat} {zo zs : Int} (h : PwSt w W b6 b7 zo zs) (hb : Below W.heap.size W W') : PwSt w W' b6 b7 zo zs :=
  ⟨bstep h.be hb, h.r.below hb, h.o.below hb, h.q.below hb, h.l6, h.l7, h.ne⟩
end Go.Proofs.Gv
