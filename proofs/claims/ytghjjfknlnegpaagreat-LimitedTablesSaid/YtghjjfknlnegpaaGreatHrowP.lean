/- maps.Collect over slices.All: a map of all weights. -/
import Derived.Test.YtghjjfknlnegpaaGreatRangeP
import Derived.Test.YtghjjfknlnegpaaGreatVw
import Derived.RangeFuncCalls
import Derived.Shelf.Abstract
import Derived.OwnWalkIn
import Derived.TacticsInMore
import Derived.LoopNIn
import Derived.LoopIn
import Derived.Maps.OwnIn
import Derived.Sort.LoopGhostIn
import Derived.Deep.AppendLies
set_option linter.unusedSimpArgs false
set_option linter.unusedVariables false
namespace Go.Proofs.Gv
open Go Go.RowKit Go.Maps
attribute [local go_sem] Oper.semAt_some

def VL (Ws : List Nat) : List (Bool × ByteArray) := Ws.map fun z => (false, mg z)
/-- Blocks below n0, but for mb, lie as they lay. -/
structure KB (n0 mb : Nat) (W W' : World) : Prop where
  size : W.heap.size ≤ W'.heap.size
  same : ∀ k, k < n0 → k ≠ mb → W'.heap[k]? = W.heap[k]?
theorem KB.trans {n0 mb : Nat} {A B C : World} (h : KB n0 mb A B) (k : KB n0 mb B C) : KB n0 mb A C :=
  ⟨Nat.le_trans h.size k.size, fun i hi hne => (k.same i hi hne).trans (h.same i hi hne)⟩
end Go.Proofs.Gv

namespace Go.Proofs.Gv
open Go Go.RowKit Go.Maps

def natV (l : List Nat) : List Value := l.map fun (k : Nat) => .int .i64 k
/-- L is a row of slices, each of which reads as a row of numbers. -/
structure Rows (W : World) (b0 : Nat) (skip : Option Nat) (L : List Value) (ms : List (List Nat)) : Prop where
  len : L.length = ms.length
  row : ∀ (i : Nat) (ns : List Nat), ms[i]? = some ns → ∃ g cap, L[i]? = some (.slice (some ⟨g, 0, none⟩) ns.length cap) ∧ b0 ≤ g ∧ g < W.heap.size ∧ skip ≠ some g ∧ ∀ (j k : Nat), ns[j]? = some k → W.cell? ⟨g, j, none⟩ = some (.int .i64 (k : Int))
theorem Rows.nil (W : World) (b0 : Nat) (skip : Option Nat) : Rows W b0 skip [] [] := ⟨rfl, fun i ns h => by simp at h⟩
theorem Rows.grown {W W' : World} {b0 : Nat} {skip row : Option Nat} {L : List Value} {ms : List (List Nat)} (h : Rows W b0 skip L ms) (hg : W.grownBy W' row) (hr : row = skip ∨ ∀ c, row = some c → c < b0 ∨ W.heap.size ≤ c) : Rows W' b0 skip L ms := by
  refine ⟨h.len, fun i ns hi => ?_⟩
  obtain ⟨g, cap, h1, h2, h3, h4, h5⟩ := h.row i ns hi
  refine ⟨g, cap, h1, h2, Nat.lt_of_lt_of_le h3 hg.size, h4, fun j k hj => ?_⟩
  refine (World.cell?_of_block (hg.block g h3 ?_)).trans (h5 j k hj)
  rintro e
  rcases hr with rfl | hr
  · exact h4 e.symm
  · have := hr g e.symm; omega
theorem own_grown {W W' : World} {base : Nat} {e : TypeId} {size n : Nat} {v : Value} {xs : List Value} {row : Option Nat} (h : W.ownsRow base e size v n xs) (hg : W.grownBy W' row) (hne : ∀ g, v.ownBlock = some g → row ≠ some g) : W'.ownsRow base e size v n xs := by
  refine ⟨h.1, ?_⟩
  rcases h.2 with h0 | ⟨g, cap, cur, rfl, hb, hgc, hr⟩
  · exact .inl h0
  · refine .inr ⟨g, cap, cur, rfl, hb, ?_, hr⟩
    exact (hg.block g (Array.getElem?_eq_some_iff.1 hgc).1 (fun e => hne g rfl e.symm)).trans hgc
theorem own_base {W : World} {base : Nat} {e : TypeId} {size n : Nat} {v : Value} {xs : List Value} (h : W.ownsRow base e size v n xs) {g : Nat} (hg : v.ownBlock = some g) : base ≤ g ∧ g < W.heap.size := by
  rcases h.2 with ⟨rfl, h0⟩ | ⟨g', cap, cur, rfl, hb, hgc, hr⟩
  · cases hg
  · cases hg
    exact ⟨hb, (Array.getElem?_eq_some_iff.1 hgc).1⟩
/- The padding, a node at a time. -/
end Go.Proofs.Gv
