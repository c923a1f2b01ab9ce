/- word.Rank: the number of lesser words. -/
import Derived.Test.YtjnlfmhckdijlaaChk
import Derived.Test.YtjnlfmhckdijlaaNext
import Derived.Test.YtjnlfmhckdijlaaIntV
import Derived.Deep.RegionHeld3
set_option linter.unusedSimpArgs false
set_option linter.unusedVariables false
namespace Go.Proofs.Gv
open Go Go.RowKit

/-- While the letters are read: the sum's block, the base's block, the result's block. -/
structure RkSt (w wr : World) (bs bb : Nat) (z q : Int) : Prop where
  s0 : wr.cell? ⟨bs, 0, none⟩ = some (.bool (sgn z))
  s1 : wr.cell? ⟨bs, 1, none⟩ = some (.string (mg z.natAbs))
  f0 : wr.frozen? ⟨bs, 0, none⟩ = false
  f1 : wr.frozen? ⟨bs, 1, none⟩ = false
  b0 : wr.cell? ⟨bb, 0, none⟩ = some (.bool (sgn q))
  b1 : wr.cell? ⟨bb, 1, none⟩ = some (.string (mg q.natAbs))
  r0 : ∃ v, wr.cell? ⟨w.heap.size, 0, none⟩ = some v
  r1 : ∃ v, wr.cell? ⟨w.heap.size, 1, none⟩ = some v
  g0 : wr.frozen? ⟨w.heap.size, 0, none⟩ = false
  g1 : wr.frozen? ⟨w.heap.size, 1, none⟩ = false
  ls : bs < wr.heap.size
  lb : bb < wr.heap.size
  be : Below w.heap.size w wr
  hs : w.heap.size < bs
  hb : bs < bb

/-- A call that makes memory alone. -/
theorem RkSt.next {w wr W W' : World} {bs bb : Nat} {z q : Int} (h : RkSt w wr bs bb z q) (hb : Below W.heap.size W W') (e1 : W.heap = wr.heap := by rfl) (e2 : W.os = wr.os := by rfl) (e3 : W.tape = wr.tape := by rfl) (e4 : W.output = wr.output := by rfl) : RkSt w W' bs bb z q := by
  have hb' : Below wr.heap.size wr W' := ⟨hb.os.trans e2, hb.tape.trans e3, hb.output.trans e4, by rw [← e1]; exact hb.size, fun k hk => by rw [← e1]; exact hb.block k (by rw [e1]; exact hk)⟩
  have hw := h.be.size
  exact ⟨(hb'.cell (p := ⟨bs, 0, none⟩) h.ls).trans h.s0, (hb'.cell (p := ⟨bs, 1, none⟩) h.ls).trans h.s1, (hb'.frozen (p := ⟨bs, 0, none⟩) h.ls).trans h.f0, (hb'.frozen (p := ⟨bs, 1, none⟩) h.ls).trans h.f1,
    (hb'.cell (p := ⟨bb, 0, none⟩) h.lb).trans h.b0, (hb'.cell (p := ⟨bb, 1, none⟩) h.lb).trans h.b1,
    h.r0.imp fun v hv => (hb'.cell (p := ⟨w.heap.size, 0, none⟩) (Nat.lt_trans h.hs h.ls)).trans hv, h.r1.imp fun v hv => (hb'.cell (p := ⟨w.heap.size, 1, none⟩) (Nat.lt_trans h.hs h.ls)).trans hv,
    (hb'.frozen (p := ⟨w.heap.size, 0, none⟩) (Nat.lt_trans h.hs h.ls)).trans h.g0, (hb'.frozen (p := ⟨w.heap.size, 1, none⟩) (Nat.lt_trans h.hs h.ls)).trans h.g1,
    Nat.lt_of_lt_of_le h.ls hb'.size, Nat.lt_of_lt_of_le h.lb hb'.size, h.be.trans (hb'.mono hw), h.hs, h.hb⟩
theorem RkSt.same {w wr wr' : World} {bs bb : Nat} {z q : Int} (h : RkSt w wr bs bb z q) (e1 : wr'.heap = wr.heap := by rfl) (e2 : wr'.os = wr.os := by rfl) (e3 : wr'.tape = wr.tape := by rfl) (e4 : wr'.output = wr.output := by rfl) : RkSt w wr' bs bb z q :=
  h.next (W := wr') (Below.refl _ _) e1 e2 e3 e4

end Go.Proofs.Gv
