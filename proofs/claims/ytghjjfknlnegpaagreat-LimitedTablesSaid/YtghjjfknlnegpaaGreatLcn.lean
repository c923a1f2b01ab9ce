/- Tables as rows of rows: equal, cloned, changed. -/
import Derived.Test.YtghjjfknlnegpaaGreatLfi
import Derived.Test.YtghjjfknlnegpaaGreatIntEqP
import Derived.Test.YtghjjfknlnegpaaGreatOwnBP
import Derived.Deep.QuietTactic
set_option linter.unusedSimpArgs false
set_option linter.unusedVariables false
namespace Go.Proofs.Gv
open Go Go.RowKit Go.Maps

/-- A row of rows of integers. -/
def RwS (W : World) (v : Value) (M : List (List (Bool × ByteArray))) : Prop := ∃ (G : Addr) (c : Nat), v = .slice (some G) M.length c ∧ M.length ≤ c ∧ c ≤ maxLen ∧
  ∀ (i : Nat) (row : List (Bool × ByteArray)), M[i]? = some row → ∃ (Ai : Addr) (ci : Nat), W.cell? (G.add i) = some (.slice (some Ai) row.length ci) ∧ row.length ≤ ci ∧ ci ≤ maxLen ∧ Sl W (some Ai) row
theorem RwS.below {W W' : World} {v : Value} {M : List (List (Bool × ByteArray))} (h : RwS W v M) (hb : Below W.heap.size W W') : RwS W' v M := by
  obtain ⟨G, c, rfl, h1, h2, h3⟩ := h
  refine ⟨G, c, rfl, h1, h2, fun i row hi => ?_⟩
  obtain ⟨Ai, ci, c0, h4, h5, h6⟩ := h3 i row hi
  exact ⟨Ai, ci, (hb.cell (World.block_lt_of_cell? _ _ c0)).trans c0, h4, h5, h6.below hb⟩
section
variable (a b : Option Addr) (c d : Nat) (L M : List (Bool × ByteArray)) (hL : L.length ≤ 1000) (w : World) (hu : Sl w a L) (hv : Sl w b M)
include hL hu hv
end
/-- A block of one's own that begins with these values. -/
def OwnAt (W : World) (g : Nat) (vs : List Value) : Prop := ∃ l, BC W g l ∧ l.take vs.length = vs
theorem OwnAt.at {W : World} {g : Nat} {vs : List Value} (h : OwnAt W g vs) {i : Nat} {v : Value} (hi : vs[i]? = some v) : W.cell? ⟨g, i, none⟩ = some v := by
  obtain ⟨l, hb, ht⟩ := h
  refine hb.at i v ?_
  have hl := (List.getElem?_eq_some_iff.1 hi).1
  have h2 : (l.take vs.length)[i]? = some v := by rw [ht]; exact hi
  rw [List.getElem?_take, if_pos hl] at h2
  exact h2
theorem OwnAt.z {W : World} {g : Nat} {vs : List Value} (h : OwnAt W g vs) {i : Nat} (hi : i < vs.length) : W.frozen? ⟨g, i, none⟩ = false := by
  obtain ⟨l, hb, ht⟩ := h
  refine hb.z i ?_
  have := congrArg List.length ht
  rw [List.length_take] at this
  omega
theorem OwnAt.set {W : World} {g : Nat} {vs : List Value} (h : OwnAt W g vs) {i : Nat} (v : Value) (hi : i < vs.length) : OwnAt (W.setCell ⟨g, i, none⟩ v) g (vs.set i v) := by
  obtain ⟨l, hb, ht⟩ := h
  have hl := congrArg List.length ht
  rw [List.length_take] at hl
  refine ⟨_, hb.set i v (by omega), ?_⟩
  rw [List.length_set, List.take_set, ht]
theorem OwnAt.below {W W' : World} {g : Nat} {vs : List Value} (h : OwnAt W g vs) (hb : Below W.heap.size W W') : OwnAt W' g vs := by
  obtain ⟨l, h1, ht⟩ := h
  exact ⟨l, h1.below hb, ht⟩
theorem OwnAt.other {W : World} {g p : Nat} {vs : List Value} (h : OwnAt W g vs) (i : Nat) (v : Value) (hne : g ≠ p) : OwnAt (W.setCell ⟨p, i, none⟩ v) g vs := by
  obtain ⟨l, h1, ht⟩ := h
  exact ⟨l, h1.other i v hne, ht⟩
theorem OwnAt.of {W : World} {base k n : Nat} {e : TypeId} {v : Value} {vs : List Value} (h : W.ownsRow base e k v n vs) (hn : 1 ≤ n) (hl : vs.length = n * k) : ∃ g c, v = .slice (some ⟨g, 0, none⟩) n c ∧ n ≤ c ∧ c ≤ maxLen ∧ base ≤ g ∧ OwnAt W g vs := by
  have hh := h
  rcases h.2 with ⟨rfl, h0⟩ | ⟨g, cap, cur, rfl, hb, hg, hcap, hcm, hr⟩
  · omega
  · refine ⟨g, cap, rfl, hcap, hcm, hb, cur.toList, BC.of hg, ?_⟩
    rw [hl]
    exact hr.2
end Go.Proofs.Gv
