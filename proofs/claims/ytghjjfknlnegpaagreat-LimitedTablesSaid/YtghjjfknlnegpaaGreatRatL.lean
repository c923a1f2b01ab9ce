/- Rational numbers: order, the reference's way, sizes. -/
import Derived.Test.YtghjjfknlnegpaaGreatRat
set_option linter.unusedSimpArgs false
set_option linter.unusedVariables false
namespace Go.Proofs.Gv
/-- above and below less than 2 ^ N -/
structure Qb (N : Nat) (q : Rat) : Prop where
  up : q.num.natAbs < 2 ^ N
  lo : q.den < 2 ^ N
theorem Qb.mono {N M : Nat} {q : Rat} (h : Qb N q) (hNM : N ≤ M) : Qb M q :=
  have := Nat.pow_le_pow_right (show 0 < 2 by decide) hNM
  ⟨Nat.lt_of_lt_of_le h.up this, Nat.lt_of_lt_of_le h.lo this⟩
theorem div_num_le (n d : Int) : (Rat.divInt n d).num.natAbs ≤ n.natAbs := by
  by_cases h0 : d = 0
  · subst h0; rw [Rat.divInt_zero]; exact Nat.zero_le _
  · rw [Rat.num_divInt]
    have hg : ((d.gcd n : Nat) : Int) ∣ d.sign * n := Int.dvd_trans (Int.gcd_dvd_right ..) (Int.dvd_mul_left ..)
    obtain ⟨c, hc⟩ := hg
    have hp : 0 < d.gcd n := Int.gcd_pos_of_ne_zero_left _ h0
    rw [hc, Int.mul_ediv_cancel_left _ (by omega)]
    have e : (d.sign * n).natAbs = n.natAbs := by rw [Int.natAbs_mul, Int.natAbs_sign_of_ne_zero h0, Nat.one_mul]
    rw [hc, Int.natAbs_mul, Int.natAbs_natCast] at e
    rw [← e]
    exact Nat.le_mul_of_pos_left _ hp
theorem div_den_le (n d : Int) : (Rat.divInt n d).den ≤ max 1 d.natAbs := by
  rw [Rat.den_divInt]
  split
  · omega
  · exact Nat.le_trans (Nat.div_le_self _ _) (by omega)
theorem Qb.div {N : Nat} {n d : Int} (hn : n.natAbs < 2 ^ N) (hd : d.natAbs < 2 ^ N) (h1 : 1 ≤ N) : Qb N (Rat.divInt n d) := by
  refine ⟨Nat.lt_of_le_of_lt (div_num_le n d) hn, Nat.lt_of_le_of_lt (div_den_le n d) ?_⟩
  have := Nat.pow_le_pow_right (show 0 < 2 by decide) h1
  omega
theorem q_mul_lt {x y N M : Nat} (hx : x < 2 ^ N) (hy : y < 2 ^ M) : x * y < 2 ^ (N + M) := by
  rw [Nat.pow_add]
  have h := Nat.mul_le_mul (Nat.le_sub_one_of_lt hx) (Nat.le_sub_one_of_lt hy)
  have hp := Nat.two_pow_pos N
  have hq := Nat.two_pow_pos M
  refine Nat.lt_of_le_of_lt h ?_
  exact Nat.lt_of_le_of_lt (Nat.mul_le_mul_right _ (Nat.sub_le _ _)) (Nat.mul_lt_mul_of_pos_left (by omega) hp)
theorem imul_lt {x y : Int} {N M : Nat} (hx : x.natAbs < 2 ^ N) (hy : y.natAbs < 2 ^ M) : (x * y).natAbs < 2 ^ (N + M) := by
  rw [Int.natAbs_mul]; exact q_mul_lt hx hy
theorem iadd_lt {x y : Int} {N : Nat} (hx : x.natAbs < 2 ^ N) (hy : y.natAbs < 2 ^ N) : (x + y).natAbs < 2 ^ (N + 1) := by
  rw [Nat.pow_succ]; omega
theorem Qb.num {N : Nat} {q : Rat} (h : Qb N q) : q.num.natAbs < 2 ^ N := h.up
theorem Qb.den {N : Nat} {q : Rat} (h : Qb N q) : ((q.den : Nat) : Int).natAbs < 2 ^ N := by rw [Int.natAbs_natCast]; exact h.lo
theorem Qb.add {N M : Nat} {a b : Rat} (ha : Qb N a) (hb : Qb M b) : Qb (N + M + 1) (a + b) := by
  rw [← q_add]
  exact Qb.div (iadd_lt (imul_lt ha.num hb.den) (Nat.add_comm M N ▸ imul_lt hb.num ha.den)) (Nat.lt_trans (imul_lt ha.den hb.den) (Nat.pow_lt_pow_right (by decide) (by omega))) (by omega)
theorem Qb.pos {N : Nat} {a : Rat} (ha : Qb N a) : 1 ≤ N := by
  have := a.den_pos
  have h := ha.lo
  cases N with
  | zero => simp at h; omega
  | succ N => omega
theorem Qb.int {N : Nat} {z : Int} (h : z.natAbs < 2 ^ N) (h1 : 1 ≤ N) : Qb N (z : Rat) := by
  have := Nat.pow_le_pow_right (show 0 < 2 by decide) h1
  exact ⟨h, by rw [Rat.den_intCast]; omega⟩
theorem Qb.floor {N : Nat} {a : Rat} (ha : Qb N a) : a.floor.natAbs < 2 ^ N := by
  have h := ha.up
  rw [Rat.floor_def]
  have hp := a.den_pos
  have h1 := Int.natAbs_ediv_le_natAbs a.num a.den
  omega
end Go.Proofs.Gv
