/- Numbers as bytes, the greatest first: plain arithmetic. -/
import Derived.Test.YtjlgjodjakkjgaaDoorDivMathP
set_option linter.unusedSimpArgs false
set_option linter.unusedVariables false
namespace Go.Proofs.Gv

theorem snoc_ind {α : Type} {P : List α → Prop} (h0 : P []) (h1 : ∀ l a, P l → P (l ++ [a])) (l : List α) : P l := by
  suffices h : ∀ m : List α, P m.reverse by simpa using h l.reverse
  intro m
  induction m with
  | nil => exact h0
  | cons a m ih => rw [List.reverse_cons]; exact h1 _ _ ih

/-- The value of bytes. -/
def bv (l : List UInt8) : Nat := l.foldl (fun a c => 256 * a + c.toNat) 0
theorem bv_nil : bv [] = 0 := rfl
theorem bv_snoc (l : List UInt8) (c : UInt8) : bv (l ++ [c]) = 256 * bv l + c.toNat := by simp [bv, List.foldl_append]

/-- The bytes of a number, without zeros in front. -/
def byt (n : Nat) : List UInt8 := if h : n = 0 then [] else byt (n / 256) ++ [UInt8.ofNat (n % 256)]
termination_by n
decreasing_by exact Nat.div_lt_self (by omega) (by decide)
theorem byt_zero : byt 0 = [] := by rw [byt]; simp
theorem byt_pos {n : Nat} (h : n ≠ 0) : byt n = byt (n / 256) ++ [UInt8.ofNat (n % 256)] := by rw [byt]; simp [h]
theorem byt_step {n : Nat} {c : UInt8} (h : n ≠ 0 ∨ c ≠ 0) : byt (256 * n + c.toNat) = byt n ++ [c] := by
  have hc : c.toNat < 256 := c.toNat_lt
  have h0 : 256 * n + c.toNat ≠ 0 := by
    rcases h with h | h
    · omega
    · have : c.toNat ≠ 0 := fun e => h (UInt8.toNat_inj.1 (by rw [e]; rfl))
      omega
  rw [byt_pos h0, show (256 * n + c.toNat) / 256 = n by omega, show (256 * n + c.toNat) % 256 = c.toNat by omega, UInt8.ofNat_toNat]
theorem byt_eq_nil {n : Nat} : byt n = [] ↔ n = 0 := by
  constructor
  · intro h
    by_cases e : n = 0
    · exact e
    · rw [byt_pos e] at h; simp at h
  · rintro rfl; exact byt_zero
theorem bv_byt : ∀ n, bv (byt n) = n := by
  intro n
  induction n using Nat.strongRecOn with
  | _ n ih =>
    by_cases e : n = 0
    · subst e; rw [byt_zero]; rfl
    · rw [byt_pos e, bv_snoc, ih (n / 256) (Nat.div_lt_self (by omega) (by decide)), UInt8.toNat_ofNat']
      omega
theorem bv_lt (l : List UInt8) : bv l < 256 ^ l.length := by
  refine snoc_ind (P := fun l => bv l < 256 ^ l.length) ?_ ?_ l
  · decide
  · intro l c ih
    have hc : c.toNat < 256 := c.toNat_lt
    rw [bv_snoc, List.length_append, List.length_singleton, Nat.pow_succ]; omega
theorem byt_len_le : ∀ (k n : Nat), n < 256 ^ k → (byt n).length ≤ k := by
  intro k
  induction k with
  | zero => intro n h; have : n = 0 := by simpa using h
            subst this; rw [byt_zero]; simp
  | succ k ih =>
    intro n h
    by_cases e : n = 0
    · subst e; rw [byt_zero]; simp
    · rw [byt_pos e, List.length_append, List.length_singleton]
      have := ih (n / 256) (by rw [Nat.div_lt_iff_lt_mul (by decide)]; rwa [Nat.pow_succ] at h)
      omega

/-- The value of the last k bytes: f numbers the bytes from the end. -/
def lv (f : Nat → Nat) : Nat → Nat
  | 0 => 0
  | k + 1 => lv f k + f k * 256 ^ k
theorem lv_lt {f : Nat → Nat} (h : ∀ i, f i < 256) (k : Nat) : lv f k < 256 ^ k := by
  induction k with
  | zero => simp [lv]
  | succ k ih =>
    have h3 : (f k + 1) * 256 ^ k ≤ 256 * 256 ^ k := Nat.mul_le_mul_right _ (h k)
    rw [lv, Nat.pow_succ]
    rw [Nat.add_mul] at h3; omega
theorem pow256 (k : Nat) : 256 ^ k = B32 ^ (k / 4) * 256 ^ (k % 4) := by
  conv => lhs; rw [← Nat.div_add_mod k 4]
  rw [Nat.pow_add, Nat.pow_mul]; rfl
/-- A further byte: it goes into digit k / 4. -/
theorem lv_digit {f : Nat → Nat} (h : ∀ i, f i < 256) (k : Nat) : D (lv f (k + 1)) (k / 4) = D (lv f k) (k / 4) + f k * 256 ^ (k % 4) ∧ D (lv f k) (k / 4) < 256 ^ (k % 4) ∧
    ∀ j, j ≠ k / 4 → D (lv f (k + 1)) j = D (lv f k) j := by
  have hk := lv_lt h k
  have h1 : lv f k / B32 ^ (k / 4) < 256 ^ (k % 4) := by
    rw [Nat.div_lt_iff_lt_mul (pow_pos _), Nat.mul_comm, ← pow256]; exact hk
  have h4 : 256 ^ (k % 4) * 256 ≤ B32 := by
    have : 256 ^ (k % 4) ≤ 256 ^ 3 := Nat.pow_le_pow_right (by decide) (by omega)
    have e : B32 = 256 ^ 3 * 256 := rfl
    rw [e]; exact Nat.mul_le_mul_right _ this
  have h256 : 0 < 256 ^ (k % 4) := Nat.pow_pos (by decide)
  have h2 : lv f k / B32 ^ (k / 4) < B32 := by omega
  have e2 : D (lv f k) (k / 4) = lv f k / B32 ^ (k / 4) := Nat.mod_eq_of_lt h2
  have e1 : lv f (k + 1) = join (k / 4) (lv f k % B32 ^ (k / 4)) (lv f k / B32 ^ (k / 4) + f k * 256 ^ (k % 4)) := by
    unfold join
    rw [lv, pow256 k, Nat.add_mul, ← Nat.add_assoc]
    have := Nat.mod_add_div (lv f k) (B32 ^ (k / 4))
    rw [Nat.mul_comm (lv f k / B32 ^ (k / 4)), this]
    congr 1
    simp only [Nat.mul_assoc, Nat.mul_comm, Nat.mul_left_comm]
  have hf := h k
  have h5 : lv f k / B32 ^ (k / 4) + f k * 256 ^ (k % 4) < B32 := by
    have : (f k + 1) * 256 ^ (k % 4) ≤ 256 * 256 ^ (k % 4) := Nat.mul_le_mul_right _ hf
    rw [Nat.add_mul, Nat.mul_comm 256] at this; omega
  refine ⟨?_, by rw [e2]; exact h1, fun j hj => ?_⟩
  · rw [e2, e1]
    have := D_join_high (k := k / 4) (a := lv f k % B32 ^ (k / 4)) (b := lv f k / B32 ^ (k / 4) + f k * 256 ^ (k % 4)) (Nat.mod_lt _ (pow_pos _)) 0
    rw [Nat.add_zero] at this
    rw [this]
    unfold D
    rw [Nat.pow_zero, Nat.div_one, Nat.mod_eq_of_lt h5]
  · rw [e1]
    by_cases hj2 : j < k / 4
    · rw [D_join_low hj2, D_mod hj2]
    · obtain ⟨m, rfl⟩ : ∃ m, j = k / 4 + (m + 1) := ⟨j - k / 4 - 1, by omega⟩
      rw [D_join_high (Nat.mod_lt _ (pow_pos _)), ← D_div (lv f k)]
      have z1 : ∀ z, z < B32 → D z (m + 1) = 0 := fun z hz => by
        unfold D
        rw [Nat.div_eq_of_lt, Nat.zero_mod]
        refine Nat.lt_of_lt_of_le hz ?_
        rw [Nat.pow_succ]
        exact Nat.le_mul_of_pos_left _ (pow_pos m)
      rw [z1 _ h5, z1 _ h2]
theorem lv_bv (l : List UInt8) : lv (fun i => if i < l.length then (l.getD (l.length - 1 - i) 0).toNat else 0) l.length = bv l := by
  have key : ∀ (k : Nat) (l : List UInt8), k ≤ l.length → lv (fun i => if i < l.length then (l.getD (l.length - 1 - i) 0).toNat else 0) k = bv (l.drop (l.length - k)) := by
    intro k
    induction k with
    | zero => intro l _; simp [lv, bv]
    | succ k ih =>
      intro l hk
      rw [lv, ih l (by omega)]
      rw [show l.drop (l.length - (k + 1)) = l.getD (l.length - 1 - k) 0 :: l.drop (l.length - k) by
        have h1 : l.length - (k + 1) < l.length := by omega
        rw [List.drop_eq_getElem_cons h1, show l.length - (k + 1) + 1 = l.length - k by omega]
        congr 1
        rw [List.getD_eq_getElem?_getD, List.getElem?_eq_getElem (by omega), Option.getD_some]
        congr 1
        omega]
      have hf : ∀ (m : List UInt8) (a : Nat), m.foldl (fun a c => 256 * a + c.toNat) a = a * 256 ^ m.length + bv m := by
        intro m
        refine snoc_ind (P := fun m => ∀ (a : Nat), m.foldl (fun a c => 256 * a + c.toNat) a = a * 256 ^ m.length + bv m) ?_ ?_ m
        · intro a; simp [bv]
        · intro m c ihm a
          rw [List.foldl_append, bv_snoc, ihm, List.length_append, List.length_singleton, Nat.pow_succ, ← Nat.mul_assoc]
          simp only [List.foldl_cons, List.foldl_nil]
          rw [Nat.mul_add]
          omega
      rw [if_pos (by omega)]
      conv => rhs; unfold bv; rw [List.foldl_cons]
      rw [hf, List.length_drop, show l.length - (l.length - k) = k by omega, Nat.mul_zero, Nat.zero_add]
      omega
  have := key l.length l (Nat.le_refl _)
  rw [Nat.sub_self, List.drop_zero] at this
  exact this
end Go.Proofs.Gv
