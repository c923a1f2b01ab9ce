/- Long division: one step, in plain arithmetic. -/
import Derived.Test.YtpdanbnfommbhaaDivMath
import Derived.Test.YtpdanbnfommbhaaDivideP
import Derived.Test.YtpdanbnfommbhaaIntKit
import Derived.Test.YtpdanbnfommbhaaMul
import Derived.Test.YtpdanbnfommbhaaShelf
import Derived.Test.YtpdanbnfommbhaaKit
import Derived.Laws.BitsLemmas
import Derived.Laws.CopyOwn
import Derived.BigRegion
import Derived.Test.YtpdanbnfommbhaaCompare
import Derived.Deep.RegionHeld3
import Derived.Test.YtpdanbnfommbhaaIntNegP
set_option linter.unusedSimpArgs false
set_option linter.unusedVariables false
namespace Go.Proofs.Gv

section
variable {X Y M k g : Nat}
/-- The number in u in front of the step k, and behind it with the window b. -/
def num (X k b : Nat) : Nat := join k (X % B32 ^ k) b
section
variable {W : Nat}
end
end

end Go.Proofs.Gv

namespace Go.Proofs.Gv
open Go Go.RowKit

/-- The three rows of a long division. -/
structure DivMem (w wr : World) (gv gq n M K : Nat) (f h : Nat → Nat) (Y : Nat) : Prop where
  u : wr.rowIs w.heap.size 66 n (u32s f)
  v : wr.rowIs gv 66 (M + 1) (u32s (D Y))
  q : wr.rowIs gq 66 K (u32s h)
  b : Below w.heap.size w wr
  l1 : w.heap.size < gv
  l2 : gv < gq
section
variable {w wr : World} {gv gq n M K : Nat} {f f' h h' : Nat → Nat} {Y : Nat}
theorem DivMem.congr (m : DivMem w wr gv gq n M K f h Y) (e : ∀ i, i < n → f i = f' i) : DivMem w wr gv gq n M K f' h Y :=
  ⟨m.u.congr fun i hi => by unfold u32s; rw [e i hi], m.v, m.q, m.b, m.l1, m.l2⟩
end

section
variable {Y W M T g r : Nat}
end
end Go.Proofs.Gv

namespace Go.Proofs.Gv
open Go Go.RowKit

open Classical in
/-- While the root is made: the box of n, the box of the digits, the result's block. -/
structure RtSt (w wr : World) (bx : Nat) (n x : Nat) (Ax : Option Addr) (cx : Nat) : Prop where
  cn : wr.cell? ⟨w.heap.size + 1, 0, none⟩ = some (.int .i64 n)
  cb : wr.cell? ⟨bx, 0, none⟩ = some (.slice Ax (nlen x) cx)
  nx : Nt wr wr.heap.size Ax cx x
  r0 : ∃ v, wr.cell? ⟨w.heap.size + 1 + 1, 0, none⟩ = some v
  r1 : ∃ v, wr.cell? ⟨w.heap.size + 1 + 1, 1, none⟩ = some v
  g0 : wr.frozen? ⟨w.heap.size + 1 + 1, 0, none⟩ = false
  g1 : wr.frozen? ⟨w.heap.size + 1 + 1, 1, none⟩ = false
  ln : w.heap.size + 1 + 1 < bx
  lx : bx < wr.heap.size
  be : Below w.heap.size w wr
theorem RtSt.next {w wr W' : World} {bx n x : Nat} {Ax : Option Addr} {cx : Nat} (h : RtSt w wr bx n x Ax cx) (hb : Below wr.heap.size wr W') : RtSt w W' bx n x Ax cx := by
  have h1 := h.ln
  have h2 := h.lx
  have h3 := h.be.size
  exact ⟨(hb.cell (p := ⟨w.heap.size + 1, 0, none⟩) (by show w.heap.size + 1 < _; omega)).trans h.cn, (hb.cell (p := ⟨bx, 0, none⟩) h2).trans h.cb, h.nx.next hb,
    h.r0.imp fun v hv => (hb.cell (p := ⟨w.heap.size + 1 + 1, 0, none⟩) (by show w.heap.size + 1 + 1 < _; omega)).trans hv, h.r1.imp fun v hv => (hb.cell (p := ⟨w.heap.size + 1 + 1, 1, none⟩) (by show w.heap.size + 1 + 1 < _; omega)).trans hv,
    (hb.frozen (p := ⟨w.heap.size + 1 + 1, 0, none⟩) (by show w.heap.size + 1 + 1 < _; omega)).trans h.g0, (hb.frozen (p := ⟨w.heap.size + 1 + 1, 1, none⟩) (by show w.heap.size + 1 + 1 < _; omega)).trans h.g1,
    h1, Nat.lt_of_lt_of_le h2 hb.size, h.be.trans (hb.mono h3)⟩
end Go.Proofs.Gv
