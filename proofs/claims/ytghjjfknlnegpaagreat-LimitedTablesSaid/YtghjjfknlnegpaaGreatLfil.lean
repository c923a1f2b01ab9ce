/- limited: the rows of the table while they are filled. -/
import Derived.Test.YtghjjfknlnegpaaGreatLtab
set_option linter.unusedSimpArgs false
set_option linter.unusedVariables false
namespace Go.Proofs.Gv
open Go Go.RowKit Go.Maps

theorem inV_at9 : ∀ (R : List (Bool × ByteArray)) (k : Nat) (b : Bool) (s : ByteArray), R[k]? = some (b, s) → (inV R)[k * 2]? = some (.bool b) ∧ (inV R)[k * 2 + 1]? = some (.string s)
  | [], k, b, s, h => by simp at h
  | x :: r, 0, b, s, h => by
    simp at h
    subst h
    exact ⟨rfl, rfl⟩
  | x :: r, k + 1, b, s, h => by
    obtain ⟨h1, h2⟩ := inV_at9 r k b s (by simpa using h)
    have e1 : (k + 1) * 2 = k * 2 + 1 + 1 := by omega
    rw [e1]
    simp only [inV, List.getElem?_cons_succ]
    exact ⟨h1, h2⟩
/-- A row of cells by its values. -/
def rwF (n : Nat) (f : Nat → Bool × ByteArray) : List (Bool × ByteArray) := (List.range n).map f
theorem rwF_at {n k : Nat} (f : Nat → Bool × ByteArray) (h : k < n) : (rwF n f)[k]? = some (f k) := by unfold rwF; rw [List.getElem?_map, List.getElem?_range h]; rfl
/-- The sums, from place i on. -/
def smF (O : List Nat) (i k : Nat) : Bool × ByteArray := (false, mg (if i ≤ k then (O.drop k).sum else 0))
/-- The first q numbers of a row of the table. -/
def tbF (O : List Nat) (n r q0 q : Nat) : Bool × ByteArray := if q < q0 then (oB (tb O n r (q / (n + 1)) (q % (n + 1))), oS (tb O n r (q / (n + 1)) (q % (n + 1)))) else (false, ⟨#[]⟩)
theorem div_at {n k i : Nat} (hi : i ≤ n) : (k * (n + 1) + i) / (n + 1) = k ∧ (k * (n + 1) + i) % (n + 1) = i := by
  constructor
  · rw [Nat.mul_comm, Nat.mul_add_div (by omega), Nat.div_eq_of_lt (by omega), Nat.add_zero]
  · rw [Nat.mul_comm, Nat.mul_add_mod, Nat.mod_eq_of_lt (by omega)]
theorem RowT.of {W : World} {g n r : Nat} {O : List Nat} (h : BC W g (inV (rwF ((n + 1) * (n + 1)) (tbF O n r ((n + 1) * (n + 1)))))) : RowT W g O n r := fun k i hk hi => by
  have hq := plc_le hk hi
  obtain ⟨d1, d2⟩ := div_at (k := k) hi
  have e := rwF_at (tbF O n r ((n + 1) * (n + 1))) hq
  unfold tbF at e
  rw [if_pos hq, d1, d2] at e
  obtain ⟨h0, h1⟩ := inV_at9 _ _ _ _ e
  exact ⟨h.at _ _ h0, h.at _ _ h1⟩
theorem SumT.of {W : World} {s n : Nat} {O : List Nat} (h : BC W s (inV (rwF (n + 1) (smF O 0)))) : SumT W s O n := fun i hi => by
  have e := rwF_at (smF O 0) (show i < n + 1 by omega)
  unfold smF at e
  rw [if_pos (Nat.zero_le _)] at e
  obtain ⟨h0, h1⟩ := inV_at9 _ _ _ _ e
  exact ⟨h.at _ _ h0, h.at _ _ h1⟩
theorem RowT.byGrown {W W' : World} {g n r : Nat} {O : List Nat} {row : Option Nat} (h : RowT W g O n r) (hg : W.grownBy W' row) (hr : row ≠ some g) : RowT W' g O n r := fun k i hk hi => by
  obtain ⟨c0, c1⟩ := h k i hk hi
  exact ⟨(World.cell?_of_block (hg.block _ (World.block_lt_of_cell? _ _ c0) (fun e => hr e.symm))).trans c0, (World.cell?_of_block (hg.block _ (World.block_lt_of_cell? _ _ c1) (fun e => hr e.symm))).trans c1⟩
theorem SumT.byGrown {W W' : World} {s n : Nat} {O : List Nat} {row : Option Nat} (h : SumT W s O n) (hg : W.grownBy W' row) (hr : row ≠ some s) : SumT W' s O n := fun i hi => by
  obtain ⟨c0, c1⟩ := h i hi
  exact ⟨(World.cell?_of_block (hg.block _ (World.block_lt_of_cell? _ _ c0) (fun e => hr e.symm))).trans c0, (World.cell?_of_block (hg.block _ (World.block_lt_of_cell? _ _ c1) (fun e => hr e.symm))).trans c1⟩
end Go.Proofs.Gv
