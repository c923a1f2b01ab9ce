/- limited: reading the table; the cost of a place; the least of costs. -/
import Derived.Test.YtghjjfknlnegpaaGreatHordP
import Derived.Test.YtghjjfknlnegpaaGreatOwnBP
import Derived.Test.YtghjjfknlnegpaaGreatMixP
import Derived.Deep.AppendLies
set_option linter.unusedSimpArgs false
set_option linter.unusedVariables false
namespace Go.Proofs.Gv
open Go Go.RowKit Go.Maps

/-- A cost as an integer: -1 where there is no room. -/
def oB : Option Nat → Bool | none => true | some _ => false
def oS : Option Nat → ByteArray | none => mg 1 | some x => mg x
/-- The row of the table r levels above the last one lies in block g. -/
def RowT (W : World) (g : Nat) (O : List Nat) (n r : Nat) : Prop := ∀ k i, k ≤ n → i ≤ n → W.cell? ⟨g, (k * (n + 1) + i) * 2, none⟩ = some (.bool (oB (tb O n r k i))) ∧ W.cell? ⟨g, (k * (n + 1) + i) * 2 + 1, none⟩ = some (.string (oS (tb O n r k i)))
/-- The sums lie in block s. -/
def SumT (W : World) (s : Nat) (O : List Nat) (n : Nat) : Prop := ∀ i, i ≤ n → W.cell? ⟨s, i * 2, none⟩ = some (.bool false) ∧ W.cell? ⟨s, i * 2 + 1, none⟩ = some (.string (mg (O.drop i).sum))
theorem RowT.below {W W' : World} {g n r : Nat} {O : List Nat} (h : RowT W g O n r) (hb : Below W.heap.size W W') : RowT W' g O n r := fun k i hk hi => by
  obtain ⟨c0, c1⟩ := h k i hk hi
  exact ⟨(hb.cell (World.block_lt_of_cell? _ _ c0)).trans c0, (hb.cell (World.block_lt_of_cell? _ _ c1)).trans c1⟩
theorem SumT.below {W W' : World} {s n : Nat} {O : List Nat} (h : SumT W s O n) (hb : Below W.heap.size W W') : SumT W' s O n := fun i hi => by
  obtain ⟨c0, c1⟩ := h i hi
  exact ⟨(hb.cell (World.block_lt_of_cell? _ _ c0)).trans c0, (hb.cell (World.block_lt_of_cell? _ _ c1)).trans c1⟩
theorem cellBelow {W W' : World} {p : Addr} {v : Value} (h : W.cell? p = some v) (hb : Below W.heap.size W W') : W'.cell? p = some v := (hb.cell (World.block_lt_of_cell? _ _ h)).trans h
theorem plc_le {n k i : Nat} (hk : k ≤ n) (hi : i ≤ n) : k * (n + 1) + i < (n + 1) * (n + 1) := by
  have : k * (n + 1) ≤ n * (n + 1) := Nat.mul_le_mul_right _ hk
  rw [Nat.add_mul, Nat.one_mul]
  omega
end Go.Proofs.Gv
