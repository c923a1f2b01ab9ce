/- Long division: the plain arithmetic. -/
import Derived.Test.YtjnlfmhckdijlaaNum
set_option linter.unusedSimpArgs false
set_option linter.unusedVariables false
namespace Go.Proofs.Gv

/-- Too great a guess. -/
theorem knuth_gt {g Yh Yl P Wh Wl : Nat} (hW : Wl < P) (h : Wh < g * Yh) : Wh * P + Wl < g * (Yh * P + Yl) := by
  have h1 : (Wh + 1) * P ≤ g * Yh * P := Nat.mul_le_mul_right _ h
  rw [Nat.add_mul] at h1
  rw [Nat.mul_add, ← Nat.mul_assoc]
  omega

/-- The head of a number with m + 2 digits. -/
theorem head2 {z m : Nat} (hz : z < B32 ^ (m + 2)) : z / B32 ^ m = D z (m + 1) * B32 + D z m := by
  rw [div_step z m, div_step z (m + 1), Nat.div_eq_of_lt hz, Nat.zero_mul, Nat.zero_add]
theorem head3 {z m : Nat} (hz : z < B32 ^ (m + 3)) : z / B32 ^ m = (D z (m + 2) * B32 + D z (m + 1)) * B32 + D z m := by
  rw [div_step z m, head2 (m := m + 1) hz]

/-- What the guesses of the long division keep: top = g * vt + r; the quotient is not greater. -/
structure Guess (Y W m top g r : Nat) : Prop where
  top : top = g * D Y (m + 1) + r
  ge : W / Y ≤ g
  le : g ≤ B32 + 1
  lt : r < B32

section
variable {Y W m g r : Nat}
/-- Y has m + 2 digits, the first one great; W is less than Y * B32. -/
structure Pair (Y W m : Nat) : Prop where
  hY : Y < B32 ^ (m + 2)
  vt : 2147483648 ≤ D Y (m + 1)
  hW : W < Y * B32

theorem Pair.pos (h : Pair Y W m) : 0 < Y := by
  have := h.hW
  rcases Nat.eq_zero_or_pos Y with e | e
  · subst e; omega
  · exact e
theorem Pair.quo (h : Pair Y W m) : W / Y < B32 := by
  rw [Nat.div_lt_iff_lt_mul h.pos, Nat.mul_comm]; exact h.hW
theorem Pair.W_lt (h : Pair Y W m) : W < B32 ^ (m + 3) := by
  have h1 : Y * B32 < B32 ^ (m + 2) * B32 := Nat.mul_lt_mul_of_pos_right h.hY B32_pos
  rw [← Nat.pow_succ] at h1
  exact Nat.lt_trans h.hW h1
/-- The first two digits of the window. -/
def wtop (W m : Nat) : Nat := D W (m + 2) * B32 + D W (m + 1)
theorem Pair.split (h : Pair Y W m) : Y = (D Y (m + 1) * B32 + D Y m) * B32 ^ m + Y % B32 ^ m ∧ W = (wtop W m * B32 + D W m) * B32 ^ m + W % B32 ^ m := by
  have e1 := Nat.div_add_mod Y (B32 ^ m)
  have e2 := Nat.div_add_mod W (B32 ^ m)
  rw [head2 h.hY, Nat.mul_comm] at e1
  rw [head3 h.W_lt, Nat.mul_comm] at e2
  exact ⟨e1.symm, e2.symm⟩
theorem Pair.top_le (h : Pair Y W m) : D W (m + 2) ≤ D Y (m + 1) := by
  have h1 : W / B32 ^ (m + 2) ≤ Y / B32 ^ (m + 1) := by
    rw [Nat.pow_succ, Nat.mul_comm, ← Nat.div_div_eq_div_mul]
    apply Nat.div_le_div_right
    have := Nat.div_lt_iff_lt_mul (x := W) (y := Y) B32_pos |>.2 h.hW
    omega
  have h2 : W / B32 ^ (m + 2) = D W (m + 2) := by
    rw [div_step W (m + 2), Nat.div_eq_of_lt h.W_lt, Nat.zero_mul, Nat.zero_add]
  have h3 : Y / B32 ^ (m + 1) = D Y (m + 1) := by
    rw [div_step Y (m + 1), Nat.div_eq_of_lt h.hY, Nat.zero_mul, Nat.zero_add]
  omega

/-- The guess before any test. -/
theorem Guess.start (h : Pair Y W m) : Guess Y W m (wtop W m) (wtop W m / D Y (m + 1)) (wtop W m % D Y (m + 1)) := by
  have hv := h.vt
  have hv2 := D_lt Y (m + 1)
  have hw := D_lt W (m + 1)
  have ht := h.top_le
  refine ⟨by rw [Nat.mul_comm]; exact (Nat.div_add_mod _ _).symm, ?_, ?_, ?_⟩
  · -- W / Y ≤ top / vt
    obtain ⟨e1, e2⟩ := h.split
    rw [Nat.le_div_iff_mul_le (by omega)]
    have h1 : W / Y * Y ≤ W := Nat.div_mul_le_self _ _
    have h2 : W / Y * (D Y (m + 1) * B32 ^ (m + 1)) ≤ W := Nat.le_trans (Nat.mul_le_mul_left _ (by
      conv => rhs; rw [e1]
      rw [Nat.add_mul, Nat.pow_succ, Nat.mul_comm (B32 ^ m), ← Nat.mul_assoc, Nat.add_assoc]; exact Nat.le_add_right _ _)) h1
    rw [← Nat.mul_assoc] at h2
    have h3 := (Nat.le_div_iff_mul_le (pow_pos (m + 1))).2 h2
    rwa [head2 (m := m + 1) h.W_lt] at h3
  · have : wtop W m / D Y (m + 1) < B32 + 2 := by
      rw [Nat.div_lt_iff_lt_mul (by omega)]
      unfold wtop
      have h4 : D W (m + 2) * B32 ≤ D Y (m + 1) * B32 := Nat.mul_le_mul_right _ ht
      have h5 : B32 = 4294967296 := rfl
      rw [Nat.add_mul, Nat.mul_comm B32 (D Y (m + 1))]
      omega
    omega
  · exact Nat.lt_trans (Nat.mod_lt _ (by omega)) hv2

/-- The test says: too great. -/
theorem Guess.tooBig (h : Pair Y W m) (k : Guess Y W m (wtop W m) g r) (ht : B32 ≤ g ∨ r * B32 + D W m < g * D Y m) : W / Y < g := by
  rcases ht with ht | ht
  · exact Nat.lt_of_lt_of_le h.quo ht
  · obtain ⟨e1, e2⟩ := h.split
    rw [Nat.div_lt_iff_lt_mul h.pos]
    have h1 : wtop W m * B32 + D W m < g * (D Y (m + 1) * B32 + D Y m) := by
      rw [k.top, Nat.mul_add, Nat.add_mul, Nat.mul_assoc]; omega
    have := knuth_gt (Wl := W % B32 ^ m) (Yl := Y % B32 ^ m) (Nat.mod_lt _ (pow_pos m)) h1
    rwa [← e1, ← e2] at this
theorem Guess.next (h : Pair Y W m) (k : Guess Y W m (wtop W m) g r) (ht : B32 ≤ g ∨ r * B32 + D W m < g * D Y m) :
    1 ≤ g ∧ wtop W m = (g - 1) * D Y (m + 1) + (r + D Y (m + 1)) ∧ W / Y ≤ g - 1 ∧ g - 1 ≤ B32 := by
  have h1 := k.tooBig h ht
  have h2 := k.le
  obtain ⟨g', rfl⟩ : ∃ g', g = g' + 1 := ⟨g - 1, by have := Nat.zero_lt_of_lt h1; omega⟩
  have h3 := k.top
  rw [Nat.add_mul] at h3
  rw [Nat.add_sub_cancel]
  generalize W / Y = q at *
  omega
end
end Go.Proofs.Gv
