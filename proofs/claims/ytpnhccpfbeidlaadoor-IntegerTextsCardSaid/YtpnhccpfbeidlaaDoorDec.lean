/- Decimal digits: plain Lean. -/
import Derived.Test.YtpnhccpfbeidlaaDoorLength
namespace Go.Proofs.Gv
open Go

/-- The decimal digits of n, none of 0. -/
def dec (n : Nat) : List UInt8 := if h : n = 0 then [] else dec (n / 10) ++ [UInt8.ofNat (48 + n % 10)]
termination_by n
decreasing_by omega
/-- k decimal digits of n. -/
def pad (n : Nat) : Nat → List UInt8
  | 0 => []
  | k + 1 => pad (n / 10) k ++ [UInt8.ofNat (48 + n % 10)]
theorem dec_zero : dec 0 = [] := by rw [dec]; simp
theorem dec_pos {n : Nat} (h : n ≠ 0) : dec n = dec (n / 10) ++ [UInt8.ofNat (48 + n % 10)] := by rw [dec]; simp [h]
/-- One digit more, ahead. -/
theorem pad_front (n : Nat) : ∀ k, pad n (k + 1) = UInt8.ofNat (48 + n / 10 ^ k % 10) :: pad n k := by
  intro k
  induction k generalizing n with
  | zero => simp [pad]
  | succ k ih =>
    rw [pad, ih (n / 10)]
    rw [Nat.div_div_eq_div_mul, show 10 * 10 ^ k = 10 ^ (k + 1) by rw [Nat.pow_succ, Nat.mul_comm]]
    rfl
theorem dec_pad : ∀ (k n : Nat), n / 10 ^ k = 0 → (k = 0 ∨ 0 < n / 10 ^ (k - 1)) → dec n = pad n k := by
  intro k
  induction k with
  | zero =>
    intro n h _
    rw [Nat.pow_zero, Nat.div_one] at h
    subst h; rw [dec_zero]; rfl
  | succ k ih =>
    intro n h h2
    have h3 : 0 < n / 10 ^ k := by rcases h2 with h2 | h2; omega; simpa using h2
    have hn : n ≠ 0 := by intro e; subst e; simp at h3
    rw [dec_pos hn, pad]
    rw [ih (n / 10)]
    · rw [Nat.div_div_eq_div_mul, show 10 * 10 ^ k = 10 ^ (k + 1) by rw [Nat.pow_succ, Nat.mul_comm]]; exact h
    · rcases k with _ | k
      · exact .inl rfl
      · right
        rw [Nat.div_div_eq_div_mul, show 10 * 10 ^ (k + 1 - 1) = 10 ^ (k + 1) by rw [Nat.pow_succ, Nat.mul_comm]; rfl]
        exact h3
theorem dec_split : ∀ (k x : Nat), 0 < x / 10 ^ k → dec x = dec (x / 10 ^ k) ++ pad (x % 10 ^ k) k := by
  intro k
  induction k with
  | zero => intro x _; simp [pad]
  | succ k ih =>
    intro x h
    have hx : x ≠ 0 := by intro e; subst e; simp at h
    have e1 : x / 10 ^ (k + 1) = x / 10 / 10 ^ k := by rw [Nat.div_div_eq_div_mul, Nat.pow_succ, Nat.mul_comm]
    rw [dec_pos hx, ih (x / 10) (by rw [← e1]; exact h), ← e1, pad, List.append_assoc]
    have e2 : x % 10 ^ (k + 1) / 10 = x / 10 % 10 ^ k := by
      rw [Nat.pow_succ, Nat.mul_comm, Nat.mod_mul_right_div_self]
    have e3 : x % 10 ^ (k + 1) % 10 = x % 10 := Nat.mod_mod_of_dvd _ ⟨10 ^ k, by rw [Nat.pow_succ, Nat.mul_comm]⟩
    rw [e2, e3]
theorem dec_len : ∀ (k n : Nat), n < 2 ^ k → (dec n).length ≤ k := by
  intro k
  induction k with
  | zero => intro n h; have : n = 0 := by simpa using h
            subst this; rw [dec_zero]; simp
  | succ k ih =>
    intro n h
    by_cases hn : n = 0
    · subst hn; rw [dec_zero]; simp
    · rw [dec_pos hn, List.length_append]
      have := ih (n / 10) (by rw [Nat.pow_succ] at h; omega)
      simp; omega
theorem bl_chunk {x : Nat} (h : 0 < x) : bl (x / 1000000000) + 1 ≤ bl x := by
  obtain ⟨a, b, c⟩ := bl_spec (show x ≠ 0 by omega)
  have h1 : bl (x / 1000000000) ≤ bl x - 1 := by
    rw [bl_le_iff]
    have : 2 ^ bl x = 2 ^ (bl x - 1) * 2 := by rw [← Nat.pow_succ]; congr 1; omega
    omega
  omega
end Go.Proofs.Gv
