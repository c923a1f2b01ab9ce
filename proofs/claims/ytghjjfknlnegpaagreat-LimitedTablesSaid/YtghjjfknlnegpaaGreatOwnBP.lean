/- huffman.tree: all merges. -/
import Derived.Test.YtghjjfknlnegpaaGreatHrowP
import Derived.Deep.RegionHeld3
import Derived.Laws.OwnMore
import Derived.Test.YtghjjfknlnegpaaGreatFront
import Derived.OwnWalk
import Derived.Lib.SliceRun
set_option linter.unusedSimpArgs false
set_option linter.unusedVariables false
namespace Go.Proofs.Gv
open Go Go.RowKit Go.Maps
attribute [local go_sem] Oper.semAt_some

/-- A slice value reads as L. -/
def RowAt (W : World) (v : Value) (L : List Value) : Prop := ∃ (a : Option Addr) (c : Nat), v = .slice a L.length c ∧ ∀ (i : Nat) (x : Value), L[i]? = some x → ∃ g, a = some ⟨g, 0, none⟩ ∧ W.cell? ⟨g, i, none⟩ = some x
end Go.Proofs.Gv

namespace Go.Proofs.Gv
open Go Go.RowKit Go.Maps

theorem natV_len (d : List Nat) : (natV d).length = d.length := by unfold natV; simp
end Go.Proofs.Gv

namespace Go.Proofs.Gv
open Go Go.RowKit Go.Maps

/-- A slice of the call's own of n numbers, of which the first read as d. -/
def Nums (W W' : World) (v : Value) (d : List Nat) : Prop := ∃ g c, v = .slice (some ⟨g, 0, none⟩) d.length c ∧ W.heap.size ≤ g ∧ g < W'.heap.size ∧ ∀ (i k : Nat), d[i]? = some k → W'.cell? ⟨g, i, none⟩ = some (.int .i64 (k : Int))
end Go.Proofs.Gv

namespace Go.Proofs.Gv
open Go Go.RowKit Go.Maps

def prods (Ws ds : List Nat) : List Nat := (Ws.zip ds).map fun x => x.1 * x.2
def csum (Ws ds : List Nat) : Nat := (prods Ws ds).sum
end Go.Proofs.Gv

namespace Go.Proofs.Gv
open Go Go.RowKit Go.Maps

theorem RowAt.below {W W' : World} {v : Value} {L : List Value} (h : RowAt W v L) (hb : Below W.heap.size W W') : RowAt W' v L := by
  obtain ⟨a, c, rfl, hat⟩ := h
  refine ⟨a, c, rfl, fun i x hi => ?_⟩
  obtain ⟨g, rfl, hc⟩ := hat i x hi
  exact ⟨g, rfl, (hb.cell (p := ⟨g, i, none⟩) (World.block_lt_of_cell? W _ hc)).trans hc⟩
end Go.Proofs.Gv

namespace Go.Proofs.Gv
open Go Go.RowKit Go.Maps

/-- Merges as cells. -/
def mrgV : List (Int × Int) → List Value
  | [] => []
  | x :: r => .int .i64 x.1 :: .int .i64 x.2 :: mrgV r
/-- A slice value of merges. -/
def MrgAt (W : World) (v : Value) (ps : List (Int × Int)) : Prop := ∃ (a : Option Addr) (c : Nat), v = .slice a ps.length c ∧ ∀ (i : Nat) (x : Value), (mrgV ps)[i]? = some x → ∃ g, a = some ⟨g, 0, none⟩ ∧ W.cell? ⟨g, i, none⟩ = some x
end Go.Proofs.Gv

namespace Go.Proofs.Gv
open Go Go.RowKit Go.Maps

/-- Integers as cells. -/
def inV : List (Bool × ByteArray) → List Value
  | [] => []
  | x :: r => .bool x.1 :: .string x.2 :: inV r
end Go.Proofs.Gv

namespace Go.Proofs.Gv
open Go Go.RowKit Go.Maps

theorem BC.byGrown {W W' : World} {b : Nat} {l : List Value} {row : Option Nat} (h : BC W b l) (hg : W.grownBy W' row) (hr : row ≠ some b) : BC W' b l := BC.heap h (hg.block b h.lt (fun e => hr e.symm)) hg.size
theorem gRow {w w' : World} (h : Below w.heap.size w w') (row : Option Nat) : w.grownBy w' row := ⟨h.os, h.tape, h.output, h.size, fun i hi _ => h.block i hi⟩
end Go.Proofs.Gv
