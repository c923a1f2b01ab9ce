/- A loop over an iterator that changes variables of its own between the rounds; the body always goes on. -/
import Derived.RangeFuncWrites
import Derived.RangeFuncNested
import Derived.RangeFuncLeaves
import Derived.RangeFuncBox
set_option linter.unusedSimpArgs false
set_option linter.unusedVariables false
namespace Go.Proofs.Gv
open Go Go.RowKit

/-- Between the rounds: what lay there lies there, but for the blocks of X. -/
structure Own2 (X : Nat → Prop) (W W' : World) : Prop where
  os : W'.os = W.os
  tape : W'.tape = W.tape
  output : W'.output = W.output
  size : W.heap.size ≤ W'.heap.size
  same : ∀ k, k < W.heap.size → ¬ X k → W'.heap[k]? = W.heap[k]?
theorem Own2.refl (X : Nat → Prop) (W : World) : Own2 X W W := ⟨rfl, rfl, rfl, Nat.le_refl _, fun _ _ _ => rfl⟩
theorem Own2.trans {X : Nat → Prop} {A B C : World} (h : Own2 X A B) (k : Own2 X B C) : Own2 X A C :=
  ⟨k.os.trans h.os, k.tape.trans h.tape, k.output.trans h.output, Nat.le_trans h.size k.size, fun i hi hx => (k.same i (Nat.lt_of_lt_of_le hi h.size) hx).trans (h.same i hi hx)⟩
theorem Own2.below {X : Nat → Prop} {A B C : World} (h : Own2 X A B) (k : Below B.heap.size B C) : Own2 X A C :=
  h.trans ⟨k.os, k.tape, k.output, k.size, fun i hi _ => k.block i hi⟩
theorem Own2.setCell {X : Nat → Prop} {A B : World} (h : Own2 X A B) {p : Addr} (hp : X p.block) (u : Value) : Own2 X A (B.setCell p u) :=
  h.trans ⟨rfl, rfl, rfl, by simp [World.setCell], fun i _ hx => Below.heap_setCell _ _ _ _ (fun e => hx (e ▸ hp))⟩

variable {F : Fence} {n : Nat} {P : Program}

/-- What the iterator's contract says: at whatever invariant of the caller's that lives through the iterator's own steps. -/
def Gives {α : Type} (F : Fence) (n : Nat) (P : Program) (g : Nat) (lb : Array Value) (encs : α → Array Value) (X : Nat → Prop) (Kp : World → World → Prop) (Sm S : List α → World → Prop) (w : World) : Prop :=
  ∀ (l : Nat) (J : List α → World → Prop) (W : World), Below w.heap.size w W → (∀ pre A B, J pre A → Own2 X A B → J pre B) →
    (∀ pre x W1, J pre W1 → Sm (pre ++ [x]) W1 → YieldAt F (n - 1) P l (encs x) W1 fun e W' => e = .returned (.bool true) ∧ J (pre ++ [x]) W' ∧ Kp W1 W') →
    J [] W → CallsIn F n P g (#[.func (.yield l) #[] #[]] ++ lb) W fun e W' => (∃ v, e = .returned v) ∧ ∃ xs, S xs W' ∧ J xs W'

end Go.Proofs.Gv
