/- The offsets at which a word occurs in a word: plain Lean. -/
import Derived.Lib.IndexMore
import Derived.Test.YtlaakomeofldgaaBord
namespace Go.Proofs.Gv
open Go

/-- The offsets below n at which u occurs in s. -/
def occL (s u : List UInt8) (n : Nat) : List Nat := (List.range n).filter (Lib.occAt s u)
theorem occL_succ_hit {s u : List UInt8} {n : Nat} (h : Lib.occAt s u n = true) : occL s u (n + 1) = occL s u n ++ [n] := by
  unfold occL; rw [List.range_succ, List.filter_append]; simp [h]
theorem occL_succ_miss {s u : List UInt8} {n : Nat} (h : Lib.occAt s u n = false) : occL s u (n + 1) = occL s u n := by
  unfold occL; rw [List.range_succ, List.filter_append]; simp [h]
theorem occL_skip {s u : List UInt8} {n : Nat} (d : Nat) (h : ∀ j, n ≤ j → j < n + d → Lib.occAt s u j = false) : occL s u (n + d) = occL s u n := by
  induction d with
  | zero => rfl
  | succ d ih => rw [show n + (d + 1) = (n + d) + 1 by omega, occL_succ_miss (h _ (by omega) (by omega)), ih (fun j a b => h j a (by omega))]
theorem occL_length (s u : List UInt8) (n : Nat) : (occL s u n).length ≤ n := by
  unfold occL; exact Nat.le_trans (List.length_filter_le _ _) (by simp)
theorem occAt_room {s u : List UInt8} {i : Nat} (h : Lib.occAt s u i = true) (hi : i ≤ s.length) : i + u.length ≤ s.length := by
  unfold Lib.occAt at h
  have := (List.isPrefixOf_iff_prefix.mp h).length_le
  rw [List.length_drop] at this
  omega
theorem occAt_drop (s u : List UInt8) (i j : Nat) : Lib.occAt (s.drop i) u j = Lib.occAt s u (i + j) := by
  unfold Lib.occAt; rw [List.drop_drop]
/-- The next one, from n on. -/
theorem occ_next {s u : List UInt8} {n : Nat} (hn : n ≤ s.length) :
    (Lib.index (s.drop n) u = -1 ∧ occL s u (s.length + 1) = occL s u n) ∨
    (∃ i : Nat, Lib.index (s.drop n) u = i ∧ n + i ≤ s.length ∧ occL s u (n + i + 1) = occL s u n ++ [n + i]) := by
  rcases Lib.index_spec (s.drop n) u with ⟨h1, h2⟩ | ⟨i, h1, h2, h3, h4⟩
  · refine .inl ⟨h1, ?_⟩
    rw [show s.length + 1 = n + (s.length + 1 - n) by omega]
    refine occL_skip _ fun j a b => ?_
    have := h2 (j - n) (by rw [List.length_drop]; omega)
    rwa [occAt_drop, show n + (j - n) = j by omega] at this
  · refine .inr ⟨i, h1, by rw [List.length_drop] at h2; omega, ?_⟩
    rw [occAt_drop] at h3
    rw [occL_succ_hit h3, occL_skip]
    intro j a b
    have := h4 (j - n) (by omega)
    rwa [occAt_drop, show n + (j - n) = j by omega] at this
/-- From n on there is no room. -/
theorem occ_end {s u : List UInt8} {n : Nat} (h : s.length < n + u.length) (hn : n ≤ s.length + 1) : occL s u (s.length + 1) = occL s u n := by
  rw [show s.length + 1 = n + (s.length + 1 - n) by omega]
  refine occL_skip _ fun j a b => ?_
  rw [Bool.eq_false_iff]
  intro hj
  have := occAt_room hj (by omega)
  omega
end Go.Proofs.Gv
