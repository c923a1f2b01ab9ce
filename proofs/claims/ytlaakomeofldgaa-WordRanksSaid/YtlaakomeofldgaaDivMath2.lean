/- Long division: one step, in plain arithmetic. -/
import Derived.Test.YtlaakomeofldgaaDivMath
import Derived.Test.YtlaakomeofldgaaShift
namespace Go.Proofs.Gv

theorem norm_Y {y L : Nat} (h : 2 ≤ nlen y) (h2 : 2147483648 ≤ D y (nlen y - 1) * 2 ^ L) (h3 : (D y (nlen y - 1) + 1) * 2 ^ L ≤ 4294967296) :
    y * 2 ^ L < B32 ^ nlen y ∧ 2147483648 ≤ D (y * 2 ^ L) (nlen y - 1) := by
  have hy : y ≠ 0 := by intro e; rw [e, nlen_zero] at h; omega
  have ht := (D_top hy).1
  have hlt := Nat.lt_mul_div_succ y (pow_pos (nlen y - 1))
  have hle := Nat.div_mul_le_self y (B32 ^ (nlen y - 1))
  rw [← ht] at hlt hle
  have e : B32 ^ nlen y = B32 * B32 ^ (nlen y - 1) := by
    conv => lhs; rw [show nlen y = nlen y - 1 + 1 by omega]
    rw [Nat.pow_succ, Nat.mul_comm]
  have h4 : y * 2 ^ L < B32 ^ nlen y := by
    have a : y * 2 ^ L < B32 ^ (nlen y - 1) * (D y (nlen y - 1) + 1) * 2 ^ L := Nat.mul_lt_mul_of_pos_right hlt (Nat.pow_pos (by decide))
    have b : B32 ^ (nlen y - 1) * ((D y (nlen y - 1) + 1) * 2 ^ L) ≤ B32 ^ (nlen y - 1) * B32 := Nat.mul_le_mul_left _ h3
    rw [Nat.mul_assoc] at a
    rw [e, Nat.mul_comm B32]
    omega
  refine ⟨h4, ?_⟩
  have h5 : y * 2 ^ L / B32 ^ (nlen y - 1) < B32 := by
    rw [Nat.div_lt_iff_lt_mul (pow_pos _), ← e]; exact h4
  unfold D at *
  rw [Nat.mod_eq_of_lt h5]
  refine Nat.le_trans h2 ?_
  rw [Nat.le_div_iff_mul_le (pow_pos _)]
  have a := Nat.mul_le_mul_right (2 ^ L) hle
  rw [Nat.mul_assoc, Nat.mul_comm (B32 ^ _), ← Nat.mul_assoc] at a
  exact a

theorem norm_X {x y : Nat} (L : Nat) (h : 1 ≤ nlen y) (hxy : nlen y ≤ nlen x) : x * 2 ^ L / B32 ^ (nlen x + 1 - nlen y) < y * 2 ^ L := by
  rw [Nat.div_lt_iff_lt_mul (pow_pos _)]
  have h1 : B32 ^ (nlen y - 1) ≤ y := lt_nlen_iff.1 (by omega)
  have h2 := lt_pow_nlen x
  have h3 : B32 ^ (nlen y - 1) * B32 ^ (nlen x + 1 - nlen y) ≤ y * B32 ^ (nlen x + 1 - nlen y) := Nat.mul_le_mul_right _ h1
  rw [← Nat.pow_add, show nlen y - 1 + (nlen x + 1 - nlen y) = nlen x by omega] at h3
  have h4 : x * 2 ^ L < y * B32 ^ (nlen x + 1 - nlen y) * 2 ^ L := Nat.mul_lt_mul_of_pos_right (by omega) (Nat.pow_pos (by decide))
  rwa [Nat.mul_assoc, Nat.mul_comm (B32 ^ _), ← Nat.mul_assoc] at h4

section
variable {X Y M k g : Nat}
/-- The window of the step k. -/
def win (X Y k : Nat) : Nat := sr X Y (k + 1) * B32 + D X k
theorem win_lt (hY : 0 < Y) : win X Y k < Y * B32 := by
  unfold win
  have h1 : (sr X Y (k + 1) + 1) * B32 ≤ Y * B32 := Nat.mul_le_mul_right _ (Nat.mod_lt _ hY)
  have := D_lt X k
  rw [Nat.add_mul] at h1; omega
theorem win_quo (hY : 0 < Y) : win X Y k / Y = D (X / Y) k := sr_digit X k hY
theorem win_rem (hY : 0 < Y) : win X Y k % Y = sr X Y k := sr_step X k hY

/-- The number in u in front of the step k, and behind it with the window b. -/
def num (X k b : Nat) : Nat := join k (X % B32 ^ k) b
theorem num_start (X Y k : Nat) : num X (k + 1) (sr X Y (k + 1)) = num X k (win X Y k) := join_step X k _
theorem num_high (X k b t : Nat) : D (num X k b) (t + k) = D b t := by
  unfold num
  rw [Nat.add_comm, D_join_high (Nat.mod_lt _ (pow_pos k))]
theorem num_low {X k b b' i : Nat} (h : i < k) : D (num X k b) i = D (num X k b') i := by
  unfold num
  rw [D_join_low h, D_join_low h]
theorem num_top {X K r : Nat} (h : X / B32 ^ K = r) : num X K r = X := by
  subst h
  unfold num join
  rw [Nat.add_comm, Nat.mul_comm]
  exact Nat.div_add_mod _ _
theorem num_zero (X r : Nat) : num X 0 r = r := by simp [num, join, Nat.mod_one]
theorem num_lt {X k b m : Nat} (hb : b < B32 ^ m) : num X k b < B32 ^ (k + m) := join_lt (Nat.mod_lt _ (pow_pos k)) hb

/-- W less g * Y, with a 1 in front. -/
def dif (W Y M g : Nat) : Nat := W + B32 ^ (M + 1) - g * Y
section
variable {W : Nat}
theorem gY_lt (hY : Y < B32 ^ M) (hg : g ≤ B32) : g * Y < B32 ^ (M + 1) := by
  rw [Nat.pow_succ, Nat.mul_comm (B32 ^ M)]
  rcases Nat.eq_zero_or_pos g with e | e
  · subst e; rw [Nat.zero_mul]; exact Nat.mul_pos B32_pos (pow_pos M)
  · exact Nat.lt_of_lt_of_le (Nat.mul_lt_mul_of_pos_left hY e) (Nat.mul_le_mul_right _ hg)
theorem one_top {W n i : Nat} (hi : i < n) : D (W + B32 ^ n) i = D W i := by
  rw [← D_mod (x := W + B32 ^ n) hi, Nat.add_mod_right, D_mod hi]
theorem dif_le (hY : Y < B32 ^ M) (hg : g ≤ B32) : g * Y ≤ W + B32 ^ (M + 1) := by
  have := gY_lt hY hg; omega
/-- The digit that is stored, and the next borrow. -/
theorem dif_neg (hY : Y < B32 ^ M) (hg : g ≤ B32) {t : Nat} (ht : t ≤ M) (hneg : (D W t : Int) - bw (W + B32 ^ (M + 1)) (g * Y) t - (D (g * Y) t : Nat) < 0) :
    bw (W + B32 ^ (M + 1)) (g * Y) (t + 1) = 1 ∧ (D W t : Int) - bw (W + B32 ^ (M + 1)) (g * Y) t - (D (g * Y) t : Nat) + 4294967296 = (D (dif W Y M g) t : Nat) := by
  rw [← one_top (W := W) (n := M + 1) (i := t) (by omega)] at hneg ⊢
  exact bw_neg (dif_le hY hg) rfl hneg
theorem dif_nn (hY : Y < B32 ^ M) (hg : g ≤ B32) {t : Nat} (ht : t ≤ M) (hneg : ¬ (D W t : Int) - bw (W + B32 ^ (M + 1)) (g * Y) t - (D (g * Y) t : Nat) < 0) :
    bw (W + B32 ^ (M + 1)) (g * Y) (t + 1) = 0 ∧ (D W t : Int) - bw (W + B32 ^ (M + 1)) (g * Y) t - (D (g * Y) t : Nat) = (D (dif W Y M g) t : Nat) := by
  rw [← one_top (W := W) (n := M + 1) (i := t) (by omega)] at hneg ⊢
  exact bw_nn (dif_le hY hg) rfl hneg
theorem bw_full (hW : W < B32 ^ (M + 1)) (hY : Y < B32 ^ M) (hg : g ≤ B32) : bw (W + B32 ^ (M + 1)) (g * Y) (M + 1) = 1 ↔ W < g * Y := by
  unfold bw
  rw [Nat.add_mod_right, Nat.mod_eq_of_lt hW, Nat.mod_eq_of_lt (gY_lt hY hg)]
  split <;> simp_all
theorem hc_top (hY : Y < B32 ^ M) (hg : g ≤ B32) : hc Y g M = D (g * Y) M := by
  rcases Nat.eq_zero_or_pos g with e | e
  · subst e; simp [hc, D_zero]
  · rw [hc_last hY hg e, Nat.mul_comm]
theorem hc_small (hg : g ≤ B32) (t : Nat) : hc Y g t < B32 := by
  rcases Nat.eq_zero_or_pos g with e | e
  · subst e; simp [hc]; exact B32_pos
  · exact Nat.lt_of_lt_of_le (hc_lt Y t e) hg

/-- The guess was right. -/
theorem right_guess (hY : 0 < Y) (h1 : W / Y ≤ g) (h2 : ¬ W < g * Y) : g = W / Y ∧ W - g * Y = W % Y := by
  have h3 : g ≤ W / Y := (Nat.le_div_iff_mul_le hY).2 (by omega)
  have e : g = W / Y := Nat.le_antisymm h3 h1
  refine ⟨e, ?_⟩
  rw [e]
  have := Nat.div_add_mod W Y
  rw [Nat.mul_comm] at this
  omega
/-- The guess was too great by 1. -/
theorem wrong_guess (hY : 0 < Y) (hYM : Y < B32 ^ M) (h2 : W < g * Y) (h3 : g * Y ≤ W + Y) : 1 ≤ g ∧ g - 1 = W / Y ∧ dif W Y M g + Y = W % Y + B32 ^ (M + 1) := by
  obtain ⟨e, rfl⟩ : ∃ e, g = e + 1 := ⟨g - 1, by
    rcases Nat.eq_zero_or_pos g with e | e
    · subst e; rw [Nat.zero_mul] at h2; omega
    · omega⟩
  rw [Nat.add_mul, Nat.one_mul] at h2 h3
  have h4 : e ≤ W / Y := (Nat.le_div_iff_mul_le hY).2 (by omega)
  have h5 : W / Y < e + 1 := (Nat.div_lt_iff_lt_mul hY).2 (by rw [Nat.add_mul, Nat.one_mul]; omega)
  have e1 : e = W / Y := by omega
  have := Nat.div_add_mod W Y
  rw [Nat.mul_comm, ← e1] at this
  refine ⟨by omega, by rw [← e1]; omega, ?_⟩
  unfold dif
  rw [Nat.add_mul, Nat.one_mul]
  have hp : B32 ^ M ≤ B32 ^ (M + 1) := Nat.pow_le_pow_right B32_pos (by omega)
  generalize W % Y = r at *
  omega
theorem dif_right {W Y M g : Nat} (h2 : ¬ W < g * Y) : dif W Y M g = (W - g * Y) + B32 ^ (M + 1) := by unfold dif; omega
end
end

theorem carry_nextI2 (x y k : Nat) : ((D x k : Int) + D y k + carry x y k) / 4294967296 = (carry x y (k + 1) : Nat) := by
  rw [← carry_nextI]; congr 1; omega
theorem carry_digitI2 (x y k : Nat) : ((D x k : Int) + D y k + carry x y k) % 4294967296 = (D (x + y) k : Nat) := by
  rw [← carry_digitI]; congr 1; omega
theorem hc_nextI2 (x p k : Nat) : ((p : Int) * D x k + hc x p k) / 4294967296 = (hc x p (k + 1) : Nat) := by
  rw [← hc_next, Int.mul_comm, ← Int.natCast_mul]
  generalize D x k * p = q
  show _ = (((_ + _) / 4294967296 : Nat) : Int); omega
theorem hc_digitI2 (x p k : Nat) : ((p : Int) * D x k + hc x p k) % 4294967296 = (D (p * x) k : Nat) := by
  rw [Nat.mul_comm p x, ← hc_digit, Int.mul_comm, ← Int.natCast_mul]
  generalize D x k * p = q
  show _ = (((_ + _) % 4294967296 : Nat) : Int); omega

/-- A digit shifted back. -/
theorem unshift (z L i : Nat) (hL : L < 32) : D z i = D (z * 2 ^ L) i / 2 ^ L + D (z * 2 ^ L) (i + 1) * 2 ^ (32 - L) % B32 ∧
    D (z * 2 ^ L) i / 2 ^ L < 2 ^ (32 - L) ∧ D (z * 2 ^ L) (i + 1) * 2 ^ (32 - L) % B32 % 2 ^ (32 - L) = 0 := by
  have hp : 0 < 2 ^ L := Nat.pow_pos (by decide)
  have hB : B32 = 2 ^ (32 - L) * 2 ^ L := by rw [← Nat.pow_add, show 32 - L + L = 32 by omega]; rfl
  have h1 : D (z * 2 ^ L) i / 2 ^ L < 2 ^ (32 - L) := by
    rw [Nat.div_lt_iff_lt_mul hp, ← hB]; exact D_lt _ _
  have h3 : D (z * 2 ^ L) (i + 1) * 2 ^ (32 - L) % B32 % 2 ^ (32 - L) = 0 := by
    rw [hB, Nat.mod_mul_right_mod, Nat.mul_mod_left]
  refine ⟨?_, h1, h3⟩
  have e1 : z / B32 ^ i = z * 2 ^ L / B32 ^ i / 2 ^ L := by
    rw [Nat.div_div_eq_div_mul, Nat.mul_div_mul_right _ _ hp]
  have e2 : z * 2 ^ L / B32 ^ i = z * 2 ^ L / B32 ^ (i + 1) * B32 + D (z * 2 ^ L) i := div_step _ _
  have e3 := div_step (z * 2 ^ L) (i + 1)
  rw [show D z i = z / B32 ^ i % B32 from rfl, e1, e2]
  rw [show z * 2 ^ L / B32 ^ (i + 1) * B32 = z * 2 ^ L / B32 ^ (i + 1) * 2 ^ (32 - L) * 2 ^ L by rw [hB, Nat.mul_assoc]]
  rw [Nat.mul_comm _ (2 ^ L), Nat.mul_add_div hp, e3, Nat.add_mul, Nat.mul_assoc, Nat.mul_comm B32, ← Nat.mul_assoc, Nat.add_assoc, Nat.mul_add_mod_self_right]
  generalize D (z * 2 ^ L) (i + 1) * 2 ^ (32 - L) = b at *
  generalize D (z * 2 ^ L) i / 2 ^ L = a at *
  rw [Nat.add_mod, Nat.mod_eq_of_lt (a := a) (by
    have : 2 ^ (32 - L) * 1 ≤ 2 ^ (32 - L) * 2 ^ L := Nat.mul_le_mul_left _ hp
    omega)]
  rw [Nat.mod_eq_of_lt, Nat.add_comm]
  have h5 : b % B32 < B32 := Nat.mod_lt _ B32_pos
  have h6 : b % B32 + 2 ^ (32 - L) ≤ B32 := by
    obtain ⟨q, hq⟩ := Nat.dvd_of_mod_eq_zero h3
    rw [hq] at h5 ⊢
    rw [hB] at h5 ⊢
    have h7 : q < 2 ^ L := Nat.lt_of_mul_lt_mul_left h5
    have h8 : 2 ^ (32 - L) * (q + 1) ≤ 2 ^ (32 - L) * 2 ^ L := Nat.mul_le_mul_left _ h7
    rw [Nat.mul_add, Nat.mul_one] at h8
    exact h8
  omega

end Go.Proofs.Gv
