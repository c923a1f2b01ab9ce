/- Plain laws of words and their numbers. -/
import Derived.Test.YtjnlfmhckdijlaaRank
set_option linter.unusedSimpArgs false
set_option linter.unusedVariables false
namespace Go.Proofs.Gv
open Go Go.RowKit

/-- Letter j of the word of n letters with number A. -/
def unD (q n A j : Nat) : UInt8 := ltr (A / q ^ (n - 1 - j) % q)
/-- The word of n letters with number A. -/
def unS (q n A : Nat) : ByteArray := ⟨((List.range n).map (unD q n A)).toArray⟩
theorem unS_size (q n A : Nat) : (unS q n A).size = n := by
  show ((List.range n).map (unD q n A)).toArray.size = n
  simp
theorem unS_at {q n A j : Nat} (h : j < n) : at' (unS q n A) j = unD q n A j := by
  unfold at' unS
  rw [List.getD_eq_getElem?_getD, List.getElem?_eq_getElem (by simpa using h)]
  simp
/-- The number of the first k letters. -/
def rn (q : Nat) (s : ByteArray) : Nat → Nat
  | 0 => 0
  | k + 1 => rn q s k * q + (dg (at' s k)).toNat
/-- All letters are of the alphabet. -/
def Wd (q : Nat) (s : ByteArray) (n : Nat) : Prop := ∀ j, j < n → 0 ≤ dg (at' s j) ∧ (dg (at' s j)).toNat < q
theorem Wd.of {q : Nat} {s : ByteArray} (h : okW q s = true) : Wd q s s.size := fun j hj => by
  have := okW_iff.mp h j hj
  unfold okL at this
  simp at this
  omega
theorem Wd.ok {q : Nat} {s : ByteArray} (h : Wd q s s.size) : okW q s = true := okW_iff.mpr fun j hj => by
  have := h j hj
  unfold okL
  simp
  omega
theorem rn_lt {q : Nat} {s : ByteArray} : ∀ k, Wd q s k → rn q s k < q ^ k := by
  intro k
  induction k with
  | zero => intro _; show 0 < 1; decide
  | succ k ih =>
    intro h
    have h1 := ih fun j hj => h j (by omega)
    have h2 := (h k (by omega)).2
    have h3 : (rn q s k + 1) * q ≤ q ^ k * q := Nat.mul_le_mul_right q h1
    rw [Nat.add_mul, Nat.one_mul] at h3
    rw [Nat.pow_succ]
    unfold rn
    omega
theorem rn_dig {q : Nat} {s : ByteArray} : ∀ k, Wd q s k → ∀ j, j < k → rn q s k / q ^ (k - 1 - j) % q = (dg (at' s j)).toNat := by
  intro k
  induction k with
  | zero => intro _ j hj; omega
  | succ k ih =>
    intro h j hj
    have h2 := (h k (by omega)).2
    have hq : 0 < q := by omega
    unfold rn
    by_cases e : j = k
    · subst e
      rw [show j + 1 - 1 - j = 0 by omega, Nat.pow_zero, Nat.div_one, Nat.mul_add_mod_self_right, Nat.mod_eq_of_lt h2]
    · have h3 := ih (fun j hj => h j (by omega)) j (by omega)
      rw [show k + 1 - 1 - j = (k - 1 - j) + 1 by omega, Nat.pow_succ, Nat.mul_comm (q ^ _) q, ← Nat.div_div_eq_div_mul, Nat.mul_comm (rn q s k) q, Nat.mul_add_div hq, Nat.div_eq_of_lt h2, Nat.add_zero]
      exact h3
theorem ba_at_ext {s t : ByteArray} (hs : s.size = t.size) (h : ∀ j, j < s.size → at' s j = at' t j) : s = t := by
  have h1 := map_at' s
  have h2 := map_at' t
  rw [← h1, ← h2, ← hs]
  congr 2
  exact List.map_congr_left fun j hj => h j (by simpa using hj)
theorem unS_rn {q : Nat} {s : ByteArray} (h : Wd q s s.size) : unS q s.size (rn q s s.size) = s := by
  refine ba_at_ext (unS_size _ _ _) fun j hj => ?_
  rw [unS_size] at hj
  rw [unS_at hj]
  unfold unD
  rw [rn_dig _ h j hj]
  exact ltr_dg _ (h j hj).1
theorem unS_Wd {q n A : Nat} (h1 : 1 ≤ q) (h2 : q ≤ 16) : Wd q (unS q n A) n := fun j hj => by
  rw [unS_at hj]
  unfold unD
  have : A / q ^ (n - 1 - j) % q < q := Nat.mod_lt _ h1
  rw [dg_ltr _ (by omega)]
  omega
theorem unS_ok {q n A : Nat} (h1 : 1 ≤ q) (h2 : q ≤ 16) : okW q (unS q n A) = true := Wd.ok (by rw [unS_size]; exact unS_Wd h1 h2)
theorem rn_unS' {q n A : Nat} (h1 : 1 ≤ q) (h2 : q ≤ 16) : ∀ k, k ≤ n → rn q (unS q n A) k = A / q ^ (n - k) % q ^ k := by
  intro k
  induction k with
  | zero => intro _; show 0 = _; rw [Nat.pow_zero, Nat.mod_one]
  | succ k ih =>
    intro hk
    unfold rn
    rw [ih (by omega), unS_at (by omega)]
    unfold unD
    have h4 : A / q ^ (n - 1 - k) % q < q := Nat.mod_lt _ h1
    rw [dg_ltr _ (by omega)]
    obtain ⟨B, hB⟩ : ∃ B, A / q ^ (n - 1 - k) = B := ⟨_, rfl⟩
    rw [show n - k = (n - 1 - k) + 1 by omega, Nat.pow_succ, ← Nat.div_div_eq_div_mul, hB, show n - (k + 1) = n - 1 - k by omega, hB, Nat.pow_succ, Nat.mul_comm (q ^ k) q, Nat.mod_mul, Nat.mul_comm q]
    rw [Int.toNat_natCast, Nat.add_comm]
theorem rn_unS {q n A : Nat} (h1 : 1 ≤ q) (h2 : q ≤ 16) (hA : A < q ^ n) : rn q (unS q n A) n = A := by
  rw [rn_unS' h1 h2 n (Nat.le_refl n), Nat.sub_self, Nat.pow_zero, Nat.div_one, Nat.mod_eq_of_lt hA]

theorem unS_snoc {q n i c : Nat} (hc : c < q) : unS q (n + 1) (i * q + c) = unS q n i ++ ⟨#[ltr c]⟩ := by
  have hq : 0 < q := by omega
  have hsz : (unS q n i ++ (⟨#[ltr c]⟩ : ByteArray)).size = n + 1 := by
    rw [ByteArray.size_append, unS_size]; rfl
  refine ba_at_ext (by rw [unS_size, hsz]) fun j hj => ?_
  rw [unS_size] at hj
  rw [unS_at hj]
  have hat : at' (unS q n i ++ (⟨#[ltr c]⟩ : ByteArray)) j = if j < n then at' (unS q n i) j else ltr c := by
    unfold at'
    rw [ByteArray.data_append, Array.toList_append, List.getD_eq_getElem?_getD]
    have hl : (unS q n i).data.toList.length = n := by rw [Array.length_toList]; exact unS_size q n i
    by_cases h : j < n
    · rw [if_pos h, List.getElem?_append_left (by omega), List.getD_eq_getElem?_getD]
    · rw [if_neg h, List.getElem?_append_right (by omega), hl, show j - n = 0 by omega]; rfl
  rw [hat]
  unfold unD
  by_cases h : j < n
  · rw [if_pos h, unS_at h]
    unfold unD
    rw [show n + 1 - 1 - j = (n - 1 - j) + 1 by omega, Nat.pow_succ, Nat.mul_comm (q ^ _) q, ← Nat.div_div_eq_div_mul, Nat.mul_comm i q, Nat.mul_add_div hq, Nat.div_eq_of_lt hc, Nat.add_zero]
  · rw [if_neg h, show n + 1 - 1 - j = 0 by omega, Nat.pow_zero, Nat.div_one, Nat.mul_comm i q, Nat.mul_add_mod_self_left, Nat.mod_eq_of_lt hc]
/-- All words of n letters, in their order. -/
def allW (q n : Nat) : List ByteArray := (List.range (q ^ n)).map (unS q n)
end Go.Proofs.Gv
