/- The examples of the chapter on integers. -/
import Derived.Test.YtpdanbnfommbhaaIntNegP
import Derived.Test.YtpdanbnfommbhaaIntC
import Derived.Test.YtpdanbnfommbhaaPrintP
import Derived.Test.YtpdanbnfommbhaaIntOf
import Derived.Test.YtpdanbnfommbhaaShelf
import Derived.Test.YtpdanbnfommbhaaKit
import Derived.Deep.RegionHeld3
import Derived.Deep.DeepCutAuto
import Derived.BigQuiet
import Derived.Deep.QuietTactic
set_option linter.unusedSimpArgs false
set_option linter.unusedVariables false
namespace Go.Proofs.Gv
open Go Go.RowKit

theorem vsize {z : Int} (h : z.natAbs < 256 ^ 60) : (mg z.natAbs).size ≤ 60 := size_mg h
theorem vs {z : Int} (h : z.natAbs < 256 ^ 60) : (mg z.natAbs).size ≤ 1000000 := Nat.le_trans (vsize h) (by decide)
/-- Boxes of integers. -/
def Boxes (L : List (Nat × Bool × ByteArray)) (W : World) : Prop := ∀ x ∈ L, W.heap[x.1]? = some (.cells #[.bool x.2.1, .string x.2.2] 33 (0, 0))
theorem Boxes.nil (W : World) : Boxes [] W := fun x h => by cases h
theorem Boxes.below {L : List (Nat × Bool × ByteArray)} {W W1 W' : World} (h : Boxes L W) (hb : Below W1.heap.size W1 W') (e : W1.heap = W.heap := by rfl) : Boxes L W' := fun x hx => by
  have h1 := h x hx
  rw [hb.block _ (by rw [e]; exact (Array.getElem?_eq_some_iff.1 h1).1), e]
  exact h1
theorem Boxes.push {L : List (Nat × Bool × ByteArray)} {W : World} (h : Boxes L W) (n : Bool) (s : ByteArray) : Boxes ((W.heap.size, n, s) :: L) (W.alloc (.cells #[.bool n, .string s] 33)) := fun x hx => by
  rcases List.mem_cons.1 hx with rfl | hx
  · exact heap_alloc_new W _
  · have h1 := h x hx
    rw [Below.heap_alloc W _ _ (Array.getElem?_eq_some_iff.1 h1).1]
    exact h1
end Go.Proofs.Gv

namespace Go.Proofs.Gv
open Go Go.RowKit

/-- One call more that makes memory alone. -/
theorem bstep {w W W1 W' : World} (h : Below w.heap.size w W) (hb : Below W1.heap.size W1 W') (e1 : W1.heap = W.heap := by rfl) (e2 : W1.os = W.os := by rfl) (e3 : W1.tape = W.tape := by rfl) (e4 : W1.output = W.output := by rfl) : Below w.heap.size w W' := by
  have hb' : Below W.heap.size W W' := ⟨hb.os.trans e2, hb.tape.trans e3, hb.output.trans e4, by rw [← e1]; exact hb.size, fun k hk => by rw [← e1]; exact hb.block k (by rw [e1]; exact hk)⟩
  exact h.trans (hb'.mono h.size)

end Go.Proofs.Gv

namespace Go.Proofs.Gv
open Go Go.RowKit

/-- The box b holds the integer (n, s). -/
structure Bx (W : World) (b : Nat) (n : Bool) (s : ByteArray) : Prop where
  c0 : W.cell? ⟨b, 0, none⟩ = some (.bool n)
  c1 : W.cell? ⟨b, 1, none⟩ = some (.string s)
  z0 : W.frozen? ⟨b, 0, none⟩ = false
  z1 : W.frozen? ⟨b, 1, none⟩ = false
  lt : b < W.heap.size
theorem Bx.below {W W1 W' : World} {b : Nat} {n : Bool} {s : ByteArray} (h : Bx W b n s) (hb : Below W1.heap.size W1 W') (e : W1.heap = W.heap := by rfl) : Bx W' b n s := by
  have hlt : b < W1.heap.size := by rw [e]; exact h.lt
  have hc : ∀ o, W1.cell? ⟨b, o, none⟩ = W.cell? ⟨b, o, none⟩ := fun o => World.cell?_of_block (by rw [e])
  have hf : ∀ o, W1.frozen? ⟨b, o, none⟩ = W.frozen? ⟨b, o, none⟩ := fun o => by unfold World.frozen?; rw [e]
  exact ⟨(hb.cell (p := ⟨b, 0, none⟩) hlt).trans ((hc 0).trans h.c0), (hb.cell (p := ⟨b, 1, none⟩) hlt).trans ((hc 1).trans h.c1),
    (hb.frozen (p := ⟨b, 0, none⟩) hlt).trans ((hf 0).trans h.z0), (hb.frozen (p := ⟨b, 1, none⟩) hlt).trans ((hf 1).trans h.z1), Nat.lt_of_lt_of_le hlt hb.size⟩
theorem Bx.alloc {W : World} {b : Nat} {n : Bool} {s : ByteArray} (h : Bx W b n s) (o : Obj) : Bx (W.alloc o) b n s := by
  have hb := (Below.refl W.heap.size W).alloc (Nat.le_refl _) o
  exact h.below hb
theorem Bx.new (W : World) (b : Nat) (n : Bool) (s : ByteArray) (hb : b = W.heap.size) : Bx (W.alloc (.cells #[.bool n, .string s] 33)) b n s := by
  subst hb
  obtain ⟨a, b, c, d, e⟩ := blk_facts (heap_alloc_new W (.cells #[.bool n, .string s] 33))
  exact ⟨a, b, c, d, e⟩
theorem Bx.set {W : World} {b : Nat} {n n' : Bool} {s s' : ByteArray} (h : Bx W b n s) : Bx ((W.setCell ⟨b, 0, none⟩ (.bool n')).setCell ⟨b, 1, none⟩ (.string s')) b n' s' := by
  have e1 : (W.setCell ⟨b, 0, none⟩ (.bool n')).cell? ⟨b, 1, none⟩ = some (.string s) := (World.cell?_setCell_other _ _ _ _ (fun e => by have := congrArg Addr.off e; simp at this)).trans h.c1
  refine ⟨?_, World.cell?_setCell_same _ _ _ e1, ?_, ?_, by simpa using h.lt⟩
  · exact (World.cell?_setCell_other _ _ _ _ (fun e => by have := congrArg Addr.off e; simp at this)).trans (World.cell?_setCell_same _ _ _ h.c0)
  · rw [World.frozen?_setCell, World.frozen?_setCell]; exact h.z0
  · rw [World.frozen?_setCell, World.frozen?_setCell]; exact h.z1
theorem Bx.other {W : World} {b c : Nat} {n : Bool} {s : ByteArray} {u v : Value} (h : Bx W b n s) (hne : b ≠ c) : Bx ((W.setCell ⟨c, 0, none⟩ u).setCell ⟨c, 1, none⟩ v) b n s := by
  have e : ∀ (X : World) (o p : Nat) (y : Value), (X.setCell ⟨c, p, none⟩ y).cell? ⟨b, o, none⟩ = X.cell? ⟨b, o, none⟩ := fun X o p y => World.cell?_setCell_other _ _ _ _ (fun e => hne (congrArg Addr.block e).symm)
  refine ⟨(e _ _ _ _).trans ((e _ _ _ _).trans h.c0), (e _ _ _ _).trans ((e _ _ _ _).trans h.c1), ?_, ?_, by simpa using h.lt⟩
  · rw [World.frozen?_setCell, World.frozen?_setCell]; exact h.z0
  · rw [World.frozen?_setCell, World.frozen?_setCell]; exact h.z1
/-- Boxes of integers, by their cells. -/
def Bxs (L : List (Nat × Bool × ByteArray)) (W : World) : Prop := ∀ x ∈ L, Bx W x.1 x.2.1 x.2.2
theorem Bxs.nil (W : World) : Bxs [] W := fun x h => by cases h
theorem Bxs.cons {L : List (Nat × Bool × ByteArray)} {W : World} {b : Nat} {n : Bool} {s : ByteArray} (h : Bxs L W) (hb : Bx W b n s) : Bxs ((b, n, s) :: L) W := fun x hx => by
  rcases List.mem_cons.1 hx with rfl | hx
  · exact hb
  · exact h x hx
theorem Bxs.below {L : List (Nat × Bool × ByteArray)} {W W1 W' : World} (h : Bxs L W) (hb : Below W1.heap.size W1 W') (e : W1.heap = W.heap := by rfl) : Bxs L W' := fun x hx => (h x hx).below hb e
end Go.Proofs.Gv
