/- Merges that come in, plainly: which are taken, and their depths; depths by parents. -/
import Derived.Test.YtjlgjodjakkjgaaDoorHufSP
import Derived.Test.YtjlgjodjakkjgaaDoorHordP
import Derived.Maps.RangeWalk
import Derived.Maps.OwnSet
import Derived.Maps.OwnOps
import Derived.Deep.LoopGhost
import Derived.RangeFuncWrites
import Derived.RangeFuncNested
import Derived.RangeFuncLeaves
import Derived.RangeFuncBox
set_option linter.unusedSimpArgs false
set_option linter.unusedVariables false
namespace Go.Proofs.Gv

def freeI (l : List (Nat × Bool)) (a : Int) : Bool := decide (0 ≤ a) && ((l[a.toNat]?).map (·.2)).getD false
theorem Ms.lt {q : Nat} {l : List (Nat × Bool)} {ms : List (List (Nat × Nat))} (h : Ms q l ms) : ∀ (a : List (List (Nat × Nat))) (ns : List (Nat × Nat)) (b : List (List (Nat × Nat))), ms = a ++ ns :: b → ∀ x ∈ ns, x.1 < l.length + a.length := by
  induction h with
  | nil _ => intro a ns b e; simp at e
  | @cons l l' ns0 ms hT _ _ ih =>
    intro a ns b e x hx
    cases a with
    | nil =>
      simp only [List.nil_append, List.cons.injEq] at e
      obtain ⟨rfl, rfl⟩ := e
      have := (List.getElem?_eq_some_iff.1 (hT.took.at_ x hx).1).1
      simpa using this
    | cons y a =>
      simp only [List.cons_append, List.cons.injEq] at e
      have := ih a ns b e.2 x hx
      rw [List.length_append, hT.took.size] at this
      simp only [List.length_cons, List.length_nil] at this ⊢
      omega
/-- The weight of a merged node is the sum of the two. -/
theorem Took.len {l l' : List (Nat × Bool)} {ns : List (Nat × Nat)} (h : Took l l' ns) : l'.map (·.1) = l.map (·.1) := by
  apply List.ext_getElem?
  intro i
  rw [List.getElem?_map, List.getElem?_map]
  exact h.wt i
end Go.Proofs.Gv

namespace Go.Proofs.Gv
open Go Go.RowKit Go.Maps

/-- How an element reads: as a number. -/
noncomputable def RI (v : Value) : Option (DataW Unit × List MemPlace) := open Classical in if h : ∃ z : Nat, v = VN z then some (.lit (.int .i64 (h.choose : Int)), []) else none
/-- Block b is a map of at most n entries: the free nodes of l. -/
structure MapL (W : World) (b n : Nat) (l : List (Nat × Bool)) : Prop where
  ex : ∃ D : DataW Unit, W.ownsMap Tryd.prog 3 RI b n D ∧ Maps.size D = cf l ∧ (∀ x : Int, Maps.has D (.int .i64 x) = freeI l x) ∧ ∀ (i v : Nat), l[i]? = some (v, true) → ∀ zd, D.atKey (.int .i64 (i : Int)) zd = .lit (.int .i64 (v : Int))
theorem MapL.kept {W W' : World} {b n : Nat} {l : List (Nat × Bool)} {row : Option Nat} (h : MapL W b n l) (hg : W.grownBy W' row) (hne : some b ≠ row) : MapL W' b n l := by
  obtain ⟨D, h1, h2⟩ := h.ex
  exact ⟨D, h1.kept hg hne, h2⟩
theorem MapL.lt {W : World} {b n : Nat} {l : List (Nat × Bool)} (h : MapL W b n l) : b < W.heap.size := by
  obtain ⟨D, h1, h2⟩ := h.ex
  exact h1.lt
theorem Below.grows {W W' : World} (h : Below W.heap.size W W') : W.grownBy W' none := ⟨h.os, h.tape, h.output, h.size, fun i hi _ => h.block i hi⟩
theorem MapL.below {W W' : World} {b n : Nat} {l : List (Nat × Bool)} (h : MapL W b n l) (hb : Below W.heap.size W W') : MapL W' b n l := h.kept (Below.grows hb) (by simp)
end Go.Proofs.Gv

namespace Go.Proofs.Gv
open Go Go.RowKit Go.Maps

theorem BC.grown {W W' : World} {b : Nat} {L : List Value} {row : Option Nat} (h : BC W b L) (hg : W.grownBy W' row) (hne : some b ≠ row) : BC W' b L := by
  have e := hg.block b h.lt hne
  exact ⟨Nat.lt_of_lt_of_le h.lt hg.size, fun i v hi => (World.cell?_of_block (w := W) (w' := W') (a := ⟨b, i, none⟩) e).trans (h.cell i v hi), fun i hi => (World.frozen?_of_block (w := W) (w' := W') (a := ⟨b, i, none⟩) e).trans (h.fz i hi)⟩
theorem BC.drew {W : World} {b : Nat} {L : List Value} (h : BC W b L) : BC W.drew b L := ⟨h.lt, h.cell, h.fz⟩
end Go.Proofs.Gv

namespace Go.Proofs.Gv
open Go Go.RowKit

/-- Between the rounds: what lay there lies there, but for the blocks of X. -/
structure Own2 (X : Nat → Prop) (W W' : World) : Prop where
  os : W'.os = W.os
  tape : W'.tape = W.tape
  output : W'.output = W.output
  size : W.heap.size ≤ W'.heap.size
  same : ∀ k, k < W.heap.size → ¬ X k → W'.heap[k]? = W.heap[k]?
theorem Own2.refl (X : Nat → Prop) (W : World) : Own2 X W W := ⟨rfl, rfl, rfl, Nat.le_refl _, fun _ _ _ => rfl⟩
theorem Own2.trans {X : Nat → Prop} {A B C : World} (h : Own2 X A B) (k : Own2 X B C) : Own2 X A C :=
  ⟨k.os.trans h.os, k.tape.trans h.tape, k.output.trans h.output, Nat.le_trans h.size k.size, fun i hi hx => (k.same i (Nat.lt_of_lt_of_le hi h.size) hx).trans (h.same i hi hx)⟩
theorem Own2.below {X : Nat → Prop} {A B C : World} (h : Own2 X A B) (k : Below B.heap.size B C) : Own2 X A C :=
  h.trans ⟨k.os, k.tape, k.output, k.size, fun i hi _ => k.block i hi⟩
theorem Own2.setCell {X : Nat → Prop} {A B : World} (h : Own2 X A B) {p : Addr} (hp : X p.block) (u : Value) : Own2 X A (B.setCell p u) :=
  h.trans ⟨rfl, rfl, rfl, by simp [World.setCell], fun i _ hx => Below.heap_setCell _ _ _ _ (fun e => hx (e ▸ hp))⟩

variable {F : Fence} {n : Nat} {P : Program}

end Go.Proofs.Gv
