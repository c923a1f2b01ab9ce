/- limited.Packages: the lists of the levels, what is taken from each. -/
import Derived.Test.YtghjjfknlnegpaaGreatLpaP
import Derived.Test.YtghjjfknlnegpaaGreatAppQP
import Derived.Test.YtghjjfknlnegpaaGreatLlnP
import Derived.OrdersIn
import Derived.TacticsIn
import Derived.Test.YtghjjfknlnegpaaGreatMixP
import Derived.Test.YtghjjfknlnegpaaGreatGdptP
import Derived.Maps.AppendAt
set_option linter.unusedSimpArgs false
set_option linter.unusedVariables false
namespace Go.Proofs.Gv
open Go Go.RowKit Go.Maps Go.Shelf
attribute [local go_sem] Oper.semAt_some

/-- Rows of two numbers. -/
def PkR (W : World) (g : Nat) (P : List (Nat × Nat)) : Prop := ∀ (j t s : Nat), P[j]? = some (t, s) → ∃ gj, W.cell? ⟨g, j, none⟩ = some (.slice (some ⟨gj, 0, none⟩) 2 2) ∧ W.cell? ⟨gj, 0, none⟩ = some (.int .i64 (t : Int)) ∧ W.cell? ⟨gj, 1, none⟩ = some (.int .i64 (s : Int))
/-- What Packages answers. -/
def PkP (L : List (Bool × ByteArray)) (m : Int) (w : World) (e : Ending) (w' : World) : Prop :=
  (limE L m ≠ 0 → e = .returned (.tuple #[.slice none 0 0, .int .i64 (limE L m)])) ∧ (limE L m = 0 → ∃ Ws g c, L = VL Ws ∧ e = .returned (.tuple #[.slice (some ⟨g, 0, none⟩) m.toNat c, .int .i64 0]) ∧ m.toNat ≤ c ∧ c ≤ maxLen ∧ PkR w' g (tkI (auL Ws) m.toNat (2 * Ws.length - 2))) ∧ Below w.heap.size w w'
/-- The rows of the levels. -/
structure LvR (W : World) (skip : Option Nat) (Lv : List Value) (A : List Nat) (k : Nat) : Prop where
  len : Lv.length = k
  row : ∀ (i : Nat) (v : Value), Lv[i]? = some v → ∃ g c, v = .slice (some ⟨g, 0, none⟩) (lvI A (i + 1)).length c ∧ (lvI A (i + 1)).length ≤ c ∧ c ≤ maxLen ∧ g < W.heap.size ∧ skip ≠ some g ∧ ItS W g (lvI A (i + 1))
theorem LvR.below {W W' : World} {skip : Option Nat} {Lv : List Value} {A : List Nat} {k : Nat} (h : LvR W skip Lv A k) (hb : Below W.heap.size W W') : LvR W' skip Lv A k := by
  refine ⟨h.len, fun i v hi => ?_⟩
  obtain ⟨g, c, h1, h2, h3, h4, h5, h6⟩ := h.row i v hi
  exact ⟨g, c, h1, h2, h3, Nat.lt_of_lt_of_le h4 hb.size, h5, h6.below hb⟩
/-- Rows of two numbers, as they grow. -/
structure Rw2 (W : World) (base : Nat) (skip : Option Nat) (Lr : List Value) (P : List (Nat × Nat)) : Prop where
  len : Lr.length = P.length
  row : ∀ (i t s : Nat), P[i]? = some (t, s) → ∃ g, Lr[i]? = some (.slice (some ⟨g, 0, none⟩) 2 2) ∧ base ≤ g ∧ g < W.heap.size ∧ skip ≠ some g ∧ W.cell? ⟨g, 0, none⟩ = some (.int .i64 (t : Int)) ∧ W.cell? ⟨g, 1, none⟩ = some (.int .i64 (s : Int))
theorem Rw2.nil (W : World) (base : Nat) (skip : Option Nat) : Rw2 W base skip [] [] := ⟨rfl, fun i t s h => by cases h⟩
theorem Rw2.grown {W W' : World} {base : Nat} {skip row : Option Nat} {Lr : List Value} {P : List (Nat × Nat)} (h : Rw2 W base skip Lr P) (hg : W.grownBy W' row) (hne : ∀ g, base ≤ g → skip ≠ some g → row ≠ some g ∨ ∃ o, W.heap[g]? = some o ∧ o.isCells = false) : Rw2 W' base skip Lr P := by
  refine ⟨h.len, fun i t s hi => ?_⟩
  obtain ⟨g, h1, h2, h3, h4, h5, h6⟩ := h.row i t s hi
  have hr : row ≠ some g := by
    rcases hne g h2 h4 with h | ⟨o, ho, hc⟩
    · exact h
    · exfalso
      obtain ⟨o', ho', hc'⟩ := cells_of_cell h5
      rw [show W.heap[g]? = some o' from ho'] at ho
      cases ho
      rw [hc] at hc'
      cases hc'
  exact ⟨g, h1, h2, Nat.lt_of_lt_of_le h3 hg.size, h4, (World.cell?_of_block (hg.block g h3 (fun e => hr e.symm))).trans h5, (World.cell?_of_block (hg.block g h3 (fun e => hr e.symm))).trans h6⟩
theorem Rw2.set {W : World} {base p o : Nat} {skip : Option Nat} {Lr : List Value} {P : List (Nat × Nat)} {v : Value} (h : Rw2 W base skip Lr P) (hp : p < base) : Rw2 (W.setCell ⟨p, o, none⟩ v) base skip Lr P := by
  refine ⟨h.len, fun i t s hi => ?_⟩
  obtain ⟨g, h1, h2, h3, h4, h5, h6⟩ := h.row i t s hi
  exact ⟨g, h1, h2, by simpa using h3, h4, (World.cell?_setCell_other _ _ _ _ (fun e => by have := congrArg Addr.block e; simp at this; omega)).trans h5, (World.cell?_setCell_other _ _ _ _ (fun e => by have := congrArg Addr.block e; simp at this; omega)).trans h6⟩
/-- What is taken, as it is counted. -/
structure TkB (w0 : World) (p q : Nat) (A : List Nat) (m M j : Nat) (W : World) : Prop where
  os : W.os = w0.os
  tape : W.tape = w0.tape
  output : W.output = w0.output
  size : w0.heap.size ≤ W.heap.size
  same : ∀ b, b < w0.heap.size → b ≠ p → b ≠ q → W.heap[b]? = w0.heap[b]?
  row : ∃ v Lr, BC W p [v] ∧ W.ownsRow w0.heap.size 24 1 v j Lr ∧ Rw2 W w0.heap.size v.ownBlock Lr ((tkI A m M).take j)
  tk : ∃ mj : Nat, BC W q [.int .i64 (mj : Int)] ∧ mj ≤ (lvI A (m - j)).length ∧ tkI A m M = (tkI A m M).take j ++ tkI A (m - j) mj
theorem TkB.grown {w0 W W' : World} {p q m M j : Nat} {A : List Nat} {row : Option Nat} (h : TkB w0 p q A m M j W) (hp : p < w0.heap.size) (hq : q < w0.heap.size) (hg : W.grownBy W' row) (hr : ∀ l, row = some l → w0.heap.size ≤ l ∧ ∃ o, W.heap[l]? = some o ∧ o.isCells = false) : TkB w0 p q A m M j W' := by
  obtain ⟨v, Lr, h1, h2, h3⟩ := h.row
  obtain ⟨mj, k1, k2, k3⟩ := h.tk
  refine ⟨hg.os.trans h.os, hg.tape.trans h.tape, hg.output.trans h.output, Nat.le_trans h.size hg.size, fun b hb h1 h2 => (hg.block b (Nat.lt_of_lt_of_le hb h.size) (fun e => by have := (hr b e.symm).1; omega)).trans (h.same b hb h1 h2), ⟨v, Lr, h1.grown hg (fun e => by have := (hr p e.symm).1; omega), own_grown h2 hg (fun g hgv e => ?_), h3.grown hg (fun g hb hs => ?_)⟩, mj, k1.grown hg (fun e => by have := (hr q e.symm).1; omega), k2, k3⟩
  · obtain ⟨-, o, ho, hc⟩ := hr g e
    obtain ⟨_, _, _, u, hu, hcu⟩ := ownsRow_form h2 hgv
    rw [ho] at hu
    cases hu
    rw [hc] at hcu
    cases hcu
  · cases row with
    | none => exact .inl (by simp)
    | some l =>
      by_cases e : l = g
      · subst e
        exact .inr (hr l rfl).2
      · exact .inl (by simpa using e)
end Go.Proofs.Gv
