/- Comparing integers: plain laws. -/
import Derived.Test.YtpnhccpfbeidlaaDoorLawVal
namespace Go.Proofs.Gv
open Go Go.RowKit

theorem cmpI_congr {a b c d : Int} (h1 : a < b ↔ c < d) (h2 : b < a ↔ d < c) : cmpI a b = cmpI c d := by
  unfold cmpI
  by_cases e1 : a < b
  · rw [if_pos e1, if_pos (h1.1 e1)]
  · rw [if_neg e1, if_neg (mt h1.2 e1)]
    by_cases e2 : b < a
    · rw [if_pos e2, if_pos (h2.1 e2)]
    · rw [if_neg e2, if_neg (mt h2.2 e2)]
theorem cmpI_cases (a b : Int) : (a < b ∧ cmpI a b = -1 ∧ cmpI b a = 1) ∨ (a = b ∧ cmpI a b = 0 ∧ cmpI b a = 0) ∨ (b < a ∧ cmpI a b = 1 ∧ cmpI b a = -1) := by
  rcases Int.lt_trichotomy a b with h | h | h
  · exact .inl ⟨h, cmpI_lt h, cmpI_gt h⟩
  · subst h; exact .inr (.inl ⟨rfl, cmpI_eq a, cmpI_eq a⟩)
  · exact .inr (.inr ⟨h, cmpI_gt h, cmpI_lt h⟩)

theorem cmpI_lt0 (a b : Int) : decide (cmpI a b < 0) = decide (a < b) := by
  rcases cmpI_cases a b with ⟨h, e, _⟩ | ⟨h, e, _⟩ | ⟨h, e, _⟩ <;> rw [e]
  · rw [show decide (a < b) = true from decide_eq_true h]; rfl
  · rw [show decide (a < b) = false from decide_eq_false (by omega)]; rfl
  · rw [show decide (a < b) = false from decide_eq_false (by omega)]; rfl
theorem cmpI_gt0 (a b : Int) : decide (0 < cmpI a b) = decide (b < a) := by
  rcases cmpI_cases a b with ⟨h, e, _⟩ | ⟨h, e, _⟩ | ⟨h, e, _⟩ <;> rw [e]
  · rw [show decide (b < a) = false from decide_eq_false (by omega)]; rfl
  · rw [show decide (b < a) = false from decide_eq_false (by omega)]; rfl
  · rw [show decide (b < a) = true from decide_eq_true h]; rfl
end Go.Proofs.Gv
