/- Long division: one step, in plain arithmetic. -/
import Derived.Test.YtlaakomeofldgaaDivMath
import Derived.Test.YtlaakomeofldgaaShift
namespace Go.Proofs.Gv

section
variable {X Y M k g : Nat}
/-- W less g * Y, with a 1 in front. -/
def dif (W Y M g : Nat) : Nat := W + B32 ^ (M + 1) - g * Y
section
variable {W : Nat}
theorem gY_lt (hY : Y < B32 ^ M) (hg : g ≤ B32) : g * Y < B32 ^ (M + 1) := by
  rw [Nat.pow_succ, Nat.mul_comm (B32 ^ M)]
  rcases Nat.eq_zero_or_pos g with e | e
  · subst e; rw [Nat.zero_mul]; exact Nat.mul_pos B32_pos (pow_pos M)
  · exact Nat.lt_of_lt_of_le (Nat.mul_lt_mul_of_pos_left hY e) (Nat.mul_le_mul_right _ hg)
theorem one_top {W n i : Nat} (hi : i < n) : D (W + B32 ^ n) i = D W i := by
  rw [← D_mod (x := W + B32 ^ n) hi, Nat.add_mod_right, D_mod hi]
theorem dif_le (hY : Y < B32 ^ M) (hg : g ≤ B32) : g * Y ≤ W + B32 ^ (M + 1) := by
  have := gY_lt hY hg; omega
/-- The digit that is stored, and the next borrow. -/
theorem dif_neg (hY : Y < B32 ^ M) (hg : g ≤ B32) {t : Nat} (ht : t ≤ M) (hneg : (D W t : Int) - bw (W + B32 ^ (M + 1)) (g * Y) t - (D (g * Y) t : Nat) < 0) :
    bw (W + B32 ^ (M + 1)) (g * Y) (t + 1) = 1 ∧ (D W t : Int) - bw (W + B32 ^ (M + 1)) (g * Y) t - (D (g * Y) t : Nat) + 4294967296 = (D (dif W Y M g) t : Nat) := by
  rw [← one_top (W := W) (n := M + 1) (i := t) (by omega)] at hneg ⊢
  exact bw_neg (dif_le hY hg) rfl hneg
end
end

end Go.Proofs.Gv
