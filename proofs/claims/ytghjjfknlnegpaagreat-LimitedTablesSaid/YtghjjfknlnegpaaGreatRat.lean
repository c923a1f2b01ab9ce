/- Rational numbers: the plain laws, over the Rat of Lean's core; the simplest number between two. -/
import Derived.Test.YtghjjfknlnegpaaGreatIntKit
import Derived.Test.YtghjjfknlnegpaaGreatRows
import Derived.Test.YtghjjfknlnegpaaGreatKitP
import Derived.Deep.RegionHeld3
import Derived.Test.YtghjjfknlnegpaaGreatIntEqP
import Derived.Test.YtghjjfknlnegpaaGreatStrP
set_option linter.unusedSimpArgs false
set_option linter.unusedVariables false
namespace Go.Proofs.Gv
theorem low_self (q : Rat) : Rat.divInt q.num q.den = q := Rat.num_divInt_den q
theorem den0 (q : Rat) : (q.den : Int) ≠ 0 := by have := q.den_pos; omega
theorem q_add (a b : Rat) : Rat.divInt (a.num * b.den + b.num * a.den) (a.den * b.den) = a + b := by
  rw [← Rat.divInt_add_divInt _ _ (den0 a) (den0 b), low_self, low_self]
theorem q_addInt_num (z : Rat) (f : Int) : ((f : Rat) + z).num = f * z.den + z.num ∧ ((f : Rat) + z).den = z.den := by
  have hc : Nat.Coprime (f * z.den + z.num).natAbs z.den := by
    have h : Int.gcd (f * z.den + z.num) z.den = 1 := by
      rw [Int.add_comm, Int.gcd_add_mul_right_left]
      exact z.reduced
    exact h
  have e : (f : Rat) + z = ⟨f * z.den + z.num, z.den, z.den_nz, hc⟩ := by
    rw [Rat.mk_eq_divInt, ← q_add]
    congr 1
    · rw [Rat.num_intCast, Rat.den_intCast]; omega
    · rw [Rat.den_intCast]; omega
  rw [e]; exact ⟨rfl, rfl⟩
theorem q_inv_num {z : Rat} (h : 0 < z) : (z⁻¹).num = z.den ∧ ((z⁻¹).den : Int) = z.num := by
  have hn : 0 < z.num := by simpa [Rat.lt_iff] using h
  rw [Rat.num_inv, Rat.den_inv, if_neg (by omega), Int.sign_eq_one_of_pos hn]
  constructor <;> omega
theorem q_inv_lt {x y : Rat} (hx : 0 < x) (hy : 0 < y) : x⁻¹ ≤ y⁻¹ ↔ y ≤ x := by
  have h1 := q_inv_num hx
  have h2 := q_inv_num hy
  rw [Rat.le_iff, Rat.le_iff, h1.1, h1.2, h2.1, h2.2, Int.mul_comm y.num, Int.mul_comm x.num]

/-- what holds of the bounds where neither is reached -/
theorem sim_step {a b : Rat} (h0 : 0 < a) (hab : a ≤ b) (h1 : (a.floor : Rat) ≠ a) (h2 : ¬ ((a.floor + 1 : Int) : Rat) ≤ b) :
    0 ≤ a.floor ∧ (a.floor : Rat) < a ∧ b < (a.floor : Rat) + 1 ∧ 0 < (b - a.floor)⁻¹ ∧ (b - a.floor)⁻¹ ≤ (a - a.floor)⁻¹ ∧
      ((b - a.floor)⁻¹).den < b.den ∧ ((a - a.floor)⁻¹).den < a.den := by
  have hf : (a.floor : Rat) < a := Rat.lt_of_le_of_ne (Rat.floor_le a) h1
  have hb : b < (a.floor : Rat) + 1 := by
    have := Rat.not_le.1 h2
    rwa [Rat.intCast_add, Rat.intCast_one] at this
  have ha1 : a < (a.floor : Rat) + 1 := by grind
  have pa : 0 < a - a.floor := by grind
  have pb : 0 < b - a.floor := by grind
  have key : ∀ x : Rat, 0 < x - a.floor → x < (a.floor : Rat) + 1 → ((x - a.floor)⁻¹).den < x.den := by
    intro x hx hx1
    have hn := (q_inv_num hx).2
    have h3 : x - a.floor = ((-a.floor : Int) : Rat) + x := by rw [Rat.intCast_neg]; grind
    have h4 := q_addInt_num x (-a.floor)
    have h5 : x - a.floor < ((1 : Int) : Rat) := by rw [Rat.intCast_one]; grind
    rw [Rat.lt_iff, Rat.den_intCast, Rat.num_intCast, h3, h4.1, h4.2] at h5
    rw [h3, h4.1] at hn
    rw [h3]
    omega
  refine ⟨?_, hf, hb, Rat.inv_pos.2 pb, (q_inv_lt pb pa).2 (by grind), key b pb hb, key a pa ha1⟩
  rw [Rat.le_floor_iff, Rat.intCast_zero]
  exact Rat.le_of_lt h0

end Go.Proofs.Gv
