/- Add, Mul, Of at canonical integers. -/
import Derived.Test.YtghjjfknlnegpaaGreatIntKit
import Derived.Test.YtghjjfknlnegpaaGreatRows
import Derived.Test.YtghjjfknlnegpaaGreatKitP
import Derived.Deep.RegionHeld3
import Derived.Test.YtghjjfknlnegpaaGreatIntEqP
import Derived.Test.YtghjjfknlnegpaaGreatDivMath
import Derived.Test.YtghjjfknlnegpaaGreatProg
import Derived.Laws.IdiomStrings
import Derived.Laws.BytesArg
import Derived.Sort.Row
set_option linter.unusedSimpArgs false
set_option linter.unusedVariables false
namespace Go.Proofs.Gv
open Go Go.RowKit

theorem mg_zero : mg 0 = ⟨#[]⟩ := by
  have h := byt_len_le 0 0 (by decide)
  have : byt 0 = [] := List.eq_nil_of_length_eq_zero (by omega)
  unfold mg; rw [this]
end Go.Proofs.Gv

namespace Go.Proofs.Gv

section
variable {X Y M k g : Nat}
/-- The number in u in front of the step k, and behind it with the window b. -/
def num (X k b : Nat) : Nat := join k (X % B32 ^ k) b
section
variable {W : Nat}
end
end

end Go.Proofs.Gv

namespace Go.Proofs.Gv
open Go Go.RowKit

/-- The three rows of a long division. -/
structure DivMem (w wr : World) (gv gq n M K : Nat) (f h : Nat → Nat) (Y : Nat) : Prop where
  u : wr.rowIs w.heap.size 66 n (u32s f)
  v : wr.rowIs gv 66 (M + 1) (u32s (D Y))
  q : wr.rowIs gq 66 K (u32s h)
  b : Below w.heap.size w wr
  l1 : w.heap.size < gv
  l2 : gv < gq
section
variable {w wr : World} {gv gq n M K : Nat} {f f' h h' : Nat → Nat} {Y : Nat}
theorem DivMem.congr (m : DivMem w wr gv gq n M K f h Y) (e : ∀ i, i < n → f i = f' i) : DivMem w wr gv gq n M K f' h Y :=
  ⟨m.u.congr fun i hi => by unfold u32s; rw [e i hi], m.v, m.q, m.b, m.l1, m.l2⟩
end

section
variable {Y W M T g r : Nat}
end
end Go.Proofs.Gv

namespace Go.Proofs.Gv
open Go Go.RowKit

/-- Block g holds the bytes f 0 .. f (n - 1), and none of them is frozen. -/
structure BRow (W : World) (g n : Nat) (f : Nat → UInt8) : Prop where
  lt : g < W.heap.size
  cell : ∀ j, j < n → W.cell? ⟨g, j, none⟩ = some (.int .u8 (f j).toNat)
  fz : ∀ j, j < n → W.frozen? ⟨g, j, none⟩ = false

theorem BRow.congr {W : World} {g n : Nat} {f h : Nat → UInt8} (H : BRow W g n f) (e : ∀ j, j < n → f j = h j) : BRow W g n h :=
  ⟨H.lt, fun j hj => by rw [H.cell j hj, e j hj], H.fz⟩
theorem BRow.same {W W' : World} {g n : Nat} {f : Nat → UInt8} (H : BRow W g n f) (e : W'.heap = W.heap := by rfl) : BRow W' g n f :=
  ⟨by rw [e]; exact H.lt, fun j hj => by rw [World.cell?_of_block (w := W) (by rw [e])]; exact H.cell j hj, fun j hj => by
    have := H.fz j hj
    unfold World.frozen? at this ⊢
    rw [e]; exact this⟩
theorem BRow.below {W W' : World} {B g n : Nat} {f : Nat → UInt8} (H : BRow W g n f) (hb : Below B W W') (hg : g < B) : BRow W' g n f :=
  ⟨Nat.lt_of_lt_of_le H.lt hb.size, fun j hj => (hb.cell (p := ⟨g, j, none⟩) hg).trans (H.cell j hj), fun j hj => (hb.frozen (p := ⟨g, j, none⟩) hg).trans (H.fz j hj)⟩
theorem BRow.set {W : World} {g n : Nat} {f : Nat → UInt8} (H : BRow W g n f) (k : Nat) (hk : k < n) (c : UInt8) : BRow (W.setCell ⟨g, k, none⟩ (.int .u8 c.toNat)) g n (fun j => if j = k then c else f j) := by
  refine ⟨by simpa using H.lt, fun j hj => ?_, fun j hj => by rw [World.frozen?_setCell]; exact H.fz j hj⟩
  by_cases e : j = k
  · subst e
    rw [if_pos rfl, World.cell?_setCell_same _ _ _ (H.cell j hj)]
  · rw [if_neg e]
    exact (World.cell?_setCell_other W _ _ _ (fun h => e (by have := congrArg Addr.off h; simpa using this.symm))).trans (H.cell j hj)
end Go.Proofs.Gv
