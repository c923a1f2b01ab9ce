/- The rows of a long division. -/
import Derived.Test.YtlaakomeofldgaaDivide
import Derived.Test.YtlaakomeofldgaaDivMath2
namespace Go.Proofs.Gv
open Go Go.RowKit

/-- The three rows of a long division. -/
structure DivMem (w wr : World) (gv gq n M K : Nat) (f h : Nat → Nat) (Y : Nat) : Prop where
  u : wr.rowIs w.heap.size 96 n (u32s f)
  v : wr.rowIs gv 96 (M + 1) (u32s (D Y))
  q : wr.rowIs gq 96 K (u32s h)
  b : Below w.heap.size w wr
  l1 : w.heap.size < gv
  l2 : gv < gq
section
variable {w wr : World} {gv gq n M K : Nat} {f f' h h' : Nat → Nat} {Y : Nat}
theorem DivMem.dr {wr' : World} (m : DivMem w wr gv gq n M K f h Y) (hd : Dr wr wr') : DivMem w wr' gv gq n M K f h Y := by
  obtain ⟨k, rfl⟩ := hd
  exact ⟨m.u, m.v, m.q, m.b.trans (Below.dr (Dr.of _ _)), m.l1, m.l2⟩
theorem DivMem.congr (m : DivMem w wr gv gq n M K f h Y) (e : ∀ i, i < n → f i = f' i) : DivMem w wr gv gq n M K f' h Y :=
  ⟨m.u.congr fun i hi => by unfold u32s; rw [e i hi], m.v, m.q, m.b, m.l1, m.l2⟩
end

section
variable {Y W M T g r : Nat}
end
/-- The rows behind a long division. -/
structure TailMem (w wr : World) (gq gr n M K : Nat) (f h r : Nat → Nat) : Prop where
  u : wr.rowIs w.heap.size 96 n (u32s f)
  q : wr.rowIs gq 96 K (u32s h)
  r : wr.rowIs gr 96 M (u32s r)
  b : Below w.heap.size w wr
  l1 : w.heap.size < gq
  l2 : gq < gr
theorem TailMem.dr {w wr wr' : World} {gq gr n M K : Nat} {f h r : Nat → Nat} (m : TailMem w wr gq gr n M K f h r) (hd : Dr wr wr') : TailMem w wr' gq gr n M K f h r := by
  obtain ⟨k, rfl⟩ := hd
  exact ⟨m.u, m.q, m.r, m.b.trans (Below.dr (Dr.of _ _)), m.l1, m.l2⟩
end Go.Proofs.Gv
