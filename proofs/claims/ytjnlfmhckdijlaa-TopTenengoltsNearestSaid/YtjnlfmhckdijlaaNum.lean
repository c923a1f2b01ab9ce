/- Texts joined. -/
set_option linter.unusedSimpArgs false
set_option linter.unusedVariables false
namespace Go.Proofs.Gv

/-- The base. -/
def B32 : Nat := 4294967296
theorem B32_pos : 0 < B32 := by decide
theorem pow_pos (k : Nat) : 0 < B32 ^ k := Nat.pow_pos B32_pos

/-- Digit i of x. -/
def D (x i : Nat) : Nat := x / B32 ^ i % B32
theorem D_lt (x i : Nat) : D x i < B32 := Nat.mod_lt _ B32_pos
/-- The number of digits of x. -/
def nlen (x : Nat) : Nat := if h : x = 0 then 0 else nlen (x / B32) + 1
termination_by x
decreasing_by exact Nat.div_lt_self (by omega) (by decide)

theorem nlen_zero : nlen 0 = 0 := by rw [nlen]; simp
theorem nlen_pos {x : Nat} (h : x ≠ 0) : nlen x = nlen (x / B32) + 1 := by rw [nlen]; simp [h]
theorem nlen_eq_zero {x : Nat} : nlen x = 0 ↔ x = 0 := by
  constructor
  · intro h
    by_cases hx : x = 0
    · exact hx
    · rw [nlen_pos hx] at h; omega
  · rintro rfl; exact nlen_zero

theorem lt_pow_of_nlen : ∀ (k x : Nat), nlen x ≤ k → x < B32 ^ k := by
  intro k
  induction k with
  | zero => intro x h; have := nlen_eq_zero.1 (Nat.le_zero.1 h); subst this; simp
  | succ k ih =>
    intro x h
    by_cases hx : x = 0
    · subst hx; exact pow_pos _
    · rw [nlen_pos hx] at h
      have := ih (x / B32) (by omega)
      rw [Nat.div_lt_iff_lt_mul B32_pos] at this
      rwa [Nat.pow_succ]

theorem lt_pow_nlen (x : Nat) : x < B32 ^ nlen x := lt_pow_of_nlen _ _ (Nat.le_refl _)
theorem div_step (x k : Nat) : x / B32 ^ k = x / B32 ^ (k + 1) * B32 + D x k := by
  rw [Nat.pow_succ, ← Nat.div_div_eq_div_mul]
  unfold D
  have := Nat.div_add_mod (x / B32 ^ k) B32
  rw [Nat.mul_comm] at this
  exact this.symm

/-- The number with the first n digits of f. -/
def val (f : Nat → Nat) : Nat → Nat
  | 0 => 0
  | n + 1 => val f n + f n * B32 ^ n

end Go.Proofs.Gv
