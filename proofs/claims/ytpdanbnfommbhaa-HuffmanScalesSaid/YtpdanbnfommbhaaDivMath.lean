/- Long division: the plain arithmetic. -/
import Derived.Test.YtpdanbnfommbhaaNumP
set_option linter.unusedSimpArgs false
set_option linter.unusedVariables false
namespace Go.Proofs.Gv

/-- Too great a guess. -/
theorem knuth_gt {g Yh Yl P Wh Wl : Nat} (hW : Wl < P) (h : Wh < g * Yh) : Wh * P + Wl < g * (Yh * P + Yl) := by
  have h1 : (Wh + 1) * P ≤ g * Yh * P := Nat.mul_le_mul_right _ h
  rw [Nat.add_mul] at h1
  rw [Nat.mul_add, ← Nat.mul_assoc]
  omega

/-- a with b on top of its first k digits. -/
def join (k a b : Nat) : Nat := a + b * B32 ^ k
theorem join_div {k a b : Nat} (ha : a < B32 ^ k) : join k a b / B32 ^ k = b := by
  unfold join
  rw [Nat.add_mul_div_right _ _ (pow_pos k), Nat.div_eq_of_lt ha, Nat.zero_add]
theorem D_div (x i k : Nat) : D (x / B32 ^ k) i = D x (k + i) := by
  unfold D
  rw [Nat.div_div_eq_div_mul, ← Nat.pow_add]
theorem D_join_high {k a b : Nat} (ha : a < B32 ^ k) (i : Nat) : D (join k a b) (k + i) = D b i := by
  rw [← D_div, join_div ha]
theorem D_mod {x i k : Nat} (h : i < k) : D (x % B32 ^ k) i = D x i := by
  obtain ⟨m, rfl⟩ : ∃ m, k = i + (m + 1) := ⟨k - i - 1, by omega⟩
  unfold D
  rw [Nat.pow_add, Nat.mod_mul_right_div_self, Nat.pow_succ, Nat.mod_mul_left_mod]
theorem D_join_low {k a b i : Nat} (h : i < k) : D (join k a b) i = D a i := by
  rw [← D_mod (x := join k a b) h, ← D_mod (x := a) h]
  congr 1
  unfold join
  rw [Nat.add_mul_mod_self_right]
/-- The head of a number with m + 2 digits. -/
theorem head2 {z m : Nat} (hz : z < B32 ^ (m + 2)) : z / B32 ^ m = D z (m + 1) * B32 + D z m := by
  rw [div_step z m, div_step z (m + 1), Nat.div_eq_of_lt hz, Nat.zero_mul, Nat.zero_add]
theorem head3 {z m : Nat} (hz : z < B32 ^ (m + 3)) : z / B32 ^ m = (D z (m + 2) * B32 + D z (m + 1)) * B32 + D z m := by
  rw [div_step z m, head2 (m := m + 1) hz]

/-- What the guesses of the long division keep: top = g * vt + r; the quotient is not greater. -/
structure Guess (Y W m top g r : Nat) : Prop where
  top : top = g * D Y (m + 1) + r
  ge : W / Y ≤ g
  le : g ≤ B32 + 1
  lt : r < B32

section
variable {Y W m g r : Nat}
/-- Y has m + 2 digits, the first one great; W is less than Y * B32. -/
structure Pair (Y W m : Nat) : Prop where
  hY : Y < B32 ^ (m + 2)
  vt : 2147483648 ≤ D Y (m + 1)
  hW : W < Y * B32

theorem Pair.pos (h : Pair Y W m) : 0 < Y := by
  have := h.hW
  rcases Nat.eq_zero_or_pos Y with e | e
  · subst e; omega
  · exact e
theorem Pair.quo (h : Pair Y W m) : W / Y < B32 := by
  rw [Nat.div_lt_iff_lt_mul h.pos, Nat.mul_comm]; exact h.hW
theorem Pair.W_lt (h : Pair Y W m) : W < B32 ^ (m + 3) := by
  have h1 : Y * B32 < B32 ^ (m + 2) * B32 := Nat.mul_lt_mul_of_pos_right h.hY B32_pos
  rw [← Nat.pow_succ] at h1
  exact Nat.lt_trans h.hW h1
/-- The first two digits of the window. -/
def wtop (W m : Nat) : Nat := D W (m + 2) * B32 + D W (m + 1)
theorem Pair.split (h : Pair Y W m) : Y = (D Y (m + 1) * B32 + D Y m) * B32 ^ m + Y % B32 ^ m ∧ W = (wtop W m * B32 + D W m) * B32 ^ m + W % B32 ^ m := by
  have e1 := Nat.div_add_mod Y (B32 ^ m)
  have e2 := Nat.div_add_mod W (B32 ^ m)
  rw [head2 h.hY, Nat.mul_comm] at e1
  rw [head3 h.W_lt, Nat.mul_comm] at e2
  exact ⟨e1.symm, e2.symm⟩
/-- The test says: too great. -/
theorem Guess.tooBig (h : Pair Y W m) (k : Guess Y W m (wtop W m) g r) (ht : B32 ≤ g ∨ r * B32 + D W m < g * D Y m) : W / Y < g := by
  rcases ht with ht | ht
  · exact Nat.lt_of_lt_of_le h.quo ht
  · obtain ⟨e1, e2⟩ := h.split
    rw [Nat.div_lt_iff_lt_mul h.pos]
    have h1 : wtop W m * B32 + D W m < g * (D Y (m + 1) * B32 + D Y m) := by
      rw [k.top, Nat.mul_add, Nat.add_mul, Nat.mul_assoc]; omega
    have := knuth_gt (Wl := W % B32 ^ m) (Yl := Y % B32 ^ m) (Nat.mod_lt _ (pow_pos m)) h1
    rwa [← e1, ← e2] at this
theorem Guess.next (h : Pair Y W m) (k : Guess Y W m (wtop W m) g r) (ht : B32 ≤ g ∨ r * B32 + D W m < g * D Y m) :
    1 ≤ g ∧ wtop W m = (g - 1) * D Y (m + 1) + (r + D Y (m + 1)) ∧ W / Y ≤ g - 1 ∧ g - 1 ≤ B32 := by
  have h1 := k.tooBig h ht
  have h2 := k.le
  obtain ⟨g', rfl⟩ : ∃ g', g = g' + 1 := ⟨g - 1, by have := Nat.zero_lt_of_lt h1; omega⟩
  have h3 := k.top
  rw [Nat.add_mul] at h3
  rw [Nat.add_sub_cancel]
  generalize W / Y = q at *
  omega
end
end Go.Proofs.Gv
