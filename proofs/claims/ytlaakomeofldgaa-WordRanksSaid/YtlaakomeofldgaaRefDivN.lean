/- The reference implementation of integers: the arithmetic of divMag. -/
import Derived.Test.YtlaakomeofldgaaRefMag
namespace Go.Proofs.Gv
open Go Go.RowKit

/-- The upper j of eight bits of E. -/
def dl (E j : Nat) : Nat := E / 2 ^ (8 - j) * 2 ^ (8 - j)
theorem dl_zero {E : Nat} (h : E < 256) : dl E 0 = 0 := by
  unfold dl
  rw [Nat.div_eq_of_lt (by simpa using h), Nat.zero_mul]
theorem dl_eight (E : Nat) : dl E 8 = E := by simp [dl]
theorem dl_le (E j : Nat) : dl E j ≤ E := Nat.div_mul_le_self _ _
theorem dl_step {E j k : Nat} (hj : j + k = 7) : dl E (j + 1) = if dl E j + 2 ^ k ≤ E then dl E j + 2 ^ k else dl E j := by
  have e1 : 8 - (j + 1) = k := by omega
  have e2 : 8 - j = k + 1 := by omega
  unfold dl
  rw [e1, e2]
  have hp : 0 < 2 ^ k := Nat.pow_pos (by decide)
  have hd : E / 2 ^ (k + 1) = E / 2 ^ k / 2 := by rw [Nat.pow_succ, Nat.div_div_eq_div_mul]
  rw [hd, Nat.pow_succ]
  obtain ⟨q, hq⟩ : ∃ q, E / 2 ^ k = q := ⟨_, rfl⟩
  have hm := Nat.div_add_mod E (2 ^ k)
  have hlt := Nat.mod_lt E hp
  rw [hq] at hm ⊢
  generalize 2 ^ k = p at *
  generalize E % p = m at *
  have h2 : q / 2 * (p * 2) = p * (2 * (q / 2)) := by rw [Nat.mul_comm, Nat.mul_assoc]
  rw [h2, Nat.mul_comm q p]
  rcases Nat.mod_two_eq_zero_or_one q with h | h
  · rw [show 2 * (q / 2) = q by omega, if_neg (by omega)]
  · have h3 : 2 * (q / 2) + 1 = q := by omega
    have h4 : p * (2 * (q / 2)) + p = p * q := by
      have : p * q = p * (2 * (q / 2) + 1) := by rw [h3]
      rw [this, Nat.mul_add, Nat.mul_one]
    rw [if_pos (by omega), h4]
/-- One step: what is left of c, tried against y * 2^k. -/
theorem dl_test {c y j k : Nat} (hy : 0 < y) :
    (y * 2 ^ k ≤ c - dl (c / y) j * y ↔ dl (c / y) j + 2 ^ k ≤ c / y) := by
  have h1 : dl (c / y) j * y ≤ c := Nat.le_trans (Nat.mul_le_mul_right y (dl_le _ _)) (Nat.div_mul_le_self _ _)
  rw [Nat.le_div_iff_mul_le hy, Nat.add_mul, Nat.mul_comm y (2 ^ k)]
  omega
theorem dl_sub {c y j k : Nat} (hy : 0 < y) (hj : j + k = 7) (h : y * 2 ^ k ≤ c - dl (c / y) j * y) :
    dl (c / y) (j + 1) = dl (c / y) j + 2 ^ k ∧ c - dl (c / y) j * y - y * 2 ^ k = c - dl (c / y) (j + 1) * y := by
  have e : dl (c / y) (j + 1) = dl (c / y) j + 2 ^ k := by rw [dl_step hj, if_pos ((dl_test hy).1 h)]
  refine ⟨e, ?_⟩
  rw [e, Nat.add_mul, Nat.mul_comm y (2 ^ k)]
  omega
theorem dl_keep {c y j k : Nat} (hy : 0 < y) (hj : j + k = 7) (h : ¬ y * 2 ^ k ≤ c - dl (c / y) j * y) : dl (c / y) (j + 1) = dl (c / y) j := by
  rw [dl_step hj, if_neg (fun e => h ((dl_test hy).2 e))]
/-- The remainder behind the next byte. -/
theorem rem_next (x y m : Nat) : (256 * (x / 256 ^ (m + 1) % y) + x / 256 ^ m % 256) % y = x / 256 ^ m % y := by
  have h := Nat.div_add_mod (x / 256 ^ m) 256
  have e : x / 256 ^ (m + 1) = x / 256 ^ m / 256 := by rw [Nat.pow_succ, Nat.div_div_eq_div_mul]
  rw [e]
  generalize x / 256 ^ m = z at *
  have h2 : z % y = (256 * (z / 256) + z % 256) % y := by rw [h]
  rw [h2, Nat.add_mod, Nat.mul_mod, Nat.mod_mod, ← Nat.mul_mod, ← Nat.add_mod]
theorem quo_next {x y m : Nat} (hy : 0 < y) : (256 * (x / 256 ^ (m + 1) % y) + x / 256 ^ m % 256) / y = D8 (x / y) m ∧ (256 * (x / 256 ^ (m + 1) % y) + x / 256 ^ m % 256) / y < 256 := by
  have h := Nat.div_add_mod (x / 256 ^ m) 256
  have e : x / 256 ^ (m + 1) = x / 256 ^ m / 256 := by rw [Nat.pow_succ, Nat.div_div_eq_div_mul]
  have e2 : x / y / 256 ^ m = x / 256 ^ m / y := by rw [Nat.div_div_eq_div_mul, Nat.div_div_eq_div_mul, Nat.mul_comm]
  have hlt : (256 * (x / 256 ^ (m + 1) % y) + x / 256 ^ m % 256) / y < 256 := by
    rw [Nat.div_lt_iff_lt_mul hy]
    have h1 := Nat.mod_lt (x / 256 ^ (m + 1)) hy
    have h2 := Nat.mod_lt (x / 256 ^ m) (show 0 < 256 by decide)
    generalize x / 256 ^ (m + 1) % y = r at *
    have : 256 * (r + 1) ≤ 256 * y := Nat.mul_le_mul_left _ h1
    omega
  refine ⟨?_, hlt⟩
  unfold D8
  rw [e2]
  rw [e] at hlt ⊢
  generalize x / 256 ^ m = z at *
  have h3 := Nat.div_add_mod (z / 256) y
  have h4 : z / y = (256 * (z / 256 % y) + z % 256 + y * (256 * (z / 256 / y))) / y := by
    congr 1
    have h5 : 256 * (z / 256) = 256 * (y * (z / 256 / y)) + 256 * (z / 256 % y) := by rw [← Nat.mul_add, h3]
    rw [Nat.mul_left_comm y 256]
    omega
  rw [h4, Nat.add_mul_div_left _ _ hy, Nat.add_mul_mod_self_left, Nat.mod_eq_of_lt hlt]
/-- What the table of multiples holds. -/
def timF (y k j : Nat) : Value := .string (if j < k then mg (y * 2 ^ j) else ⟨#[]⟩)
/-- A byte of x set behind a number's bytes. -/
theorem byte_push (r : ByteArray) (s : ByteArray) (i : Nat) (h : i < s.size) : bv (r ++ s.extract i (i + 1)).data.toList = 256 * bv r.data.toList + (s[i]'h).toNat := by
  have e : (s.extract i (i + 1)).data.toList = [s[i]'h] := by
    rw [ByteArray.data_extract, Array.toList_extract, List.extract_eq_take_drop, show i + 1 - i = 1 by omega]
    rw [List.drop_eq_getElem_cons (by simpa using h)]
    rfl
  rw [ByteArray.data_append, Array.toList_append, e, bv_snoc]
theorem trim_next {x y n i m : Nat} (hy : 0 < y) (hn : (mg x).size = n) (hi : i < n) (hm : n - 1 - i = m) (hx : (mg x).size ≤ 90000) (hys : (mg y).size ≤ 90000) (X : World) :
    Calls Try.prog 107 #[.string (mg (x / 256 ^ (n - i) % y) ++ (mg x).extract i (i + 1))] X fun e w' => e = .returned (.string (mg (256 * (x / 256 ^ (m + 1) % y) + x / 256 ^ m % 256))) ∧ X = w' := by
  have h1 : (mg (x / 256 ^ (n - i) % y)).size ≤ (mg y).size := mg_mono (Nat.le_of_lt (Nat.mod_lt _ hy))
  have h2 := rtrim_any (mg (x / 256 ^ (n - i) % y) ++ (mg x).extract i (i + 1)) X (by rw [ByteArray.size_append, ByteArray.size_extract]; omega)
  have h3 : bv (mg (x / 256 ^ (n - i) % y) ++ (mg x).extract i (i + 1)).data.toList = 256 * (x / 256 ^ (m + 1) % y) + x / 256 ^ m % 256 := by
    rw [byte_push _ _ i (by omega), bv_mg, show n - i = m + 1 by omega]
    have hb := byte_at (mg x) m (by omega)
    rw [bv_mg] at hb
    rw [← hb]
    congr 3
    omega
  rw [h3] at h2
  exact h2
end Go.Proofs.Gv
