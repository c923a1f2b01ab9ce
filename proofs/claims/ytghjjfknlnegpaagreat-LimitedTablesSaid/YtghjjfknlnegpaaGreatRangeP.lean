/- The least free node is taken out of the map. -/
import Derived.Test.YtghjjfknlnegpaaGreatHmapP
import Derived.Deep.LoopGhost
import Derived.RangeFuncWrites
import Derived.RangeFuncNested
import Derived.RangeFuncLeaves
import Derived.RangeFuncBox
set_option linter.unusedSimpArgs false
set_option linter.unusedVariables false
namespace Go.Proofs.Gv
open Go Go.RowKit Go.Maps

theorem BC.grown {W W' : World} {b : Nat} {L : List Value} {row : Option Nat} (h : BC W b L) (hg : W.grownBy W' row) (hne : some b ≠ row) : BC W' b L := by
  have e := hg.block b h.lt hne
  exact ⟨Nat.lt_of_lt_of_le h.lt hg.size, fun i v hi => (World.cell?_of_block (w := W) (w' := W') (a := ⟨b, i, none⟩) e).trans (h.cell i v hi), fun i hi => (World.frozen?_of_block (w := W) (w' := W') (a := ⟨b, i, none⟩) e).trans (h.fz i hi)⟩
theorem BC.drew {W : World} {b : Nat} {L : List Value} (h : BC W b L) : BC W.drew b L := ⟨h.lt, h.cell, h.fz⟩
end Go.Proofs.Gv

namespace Go.Proofs.Gv
open Go Go.RowKit

/-- Between the rounds: what lay there lies there, but for the blocks of X. -/
structure Own2 (X : Nat → Prop) (W W' : World) : Prop where
  os : W'.os = W.os
  tape : W'.tape = W.tape
  output : W'.output = W.output
  size : W.heap.size ≤ W'.heap.size
  same : ∀ k, k < W.heap.size → ¬ X k → W'.heap[k]? = W.heap[k]?
theorem Own2.refl (X : Nat → Prop) (W : World) : Own2 X W W := ⟨rfl, rfl, rfl, Nat.le_refl _, fun _ _ _ => rfl⟩
theorem Own2.trans {X : Nat → Prop} {A B C : World} (h : Own2 X A B) (k : Own2 X B C) : Own2 X A C :=
  ⟨k.os.trans h.os, k.tape.trans h.tape, k.output.trans h.output, Nat.le_trans h.size k.size, fun i hi hx => (k.same i (Nat.lt_of_lt_of_le hi h.size) hx).trans (h.same i hi hx)⟩
theorem Own2.below {X : Nat → Prop} {A B C : World} (h : Own2 X A B) (k : Below B.heap.size B C) : Own2 X A C :=
  h.trans ⟨k.os, k.tape, k.output, k.size, fun i hi _ => k.block i hi⟩
theorem Own2.setCell {X : Nat → Prop} {A B : World} (h : Own2 X A B) {p : Addr} (hp : X p.block) (u : Value) : Own2 X A (B.setCell p u) :=
  h.trans ⟨rfl, rfl, rfl, by simp [World.setCell], fun i _ hx => Below.heap_setCell _ _ _ _ (fun e => hx (e ▸ hp))⟩

variable {F : Fence} {n : Nat} {P : Program}

end Go.Proofs.Gv
