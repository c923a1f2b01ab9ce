/- Plain laws of words and their numbers. -/
import Derived.Test.YtjnlfmhckdijlaaRank
set_option linter.unusedSimpArgs false
set_option linter.unusedVariables false
namespace Go.Proofs.Gv
open Go Go.RowKit

/-- Letter j of the word of n letters with number A. -/
def unD (q n A j : Nat) : UInt8 := ltr (A / q ^ (n - 1 - j) % q)
/-- The word of n letters with number A. -/
def unS (q n A : Nat) : ByteArray := ⟨((List.range n).map (unD q n A)).toArray⟩
theorem unS_size (q n A : Nat) : (unS q n A).size = n := by
  show ((List.range n).map (unD q n A)).toArray.size = n
  simp
theorem unS_at {q n A j : Nat} (h : j < n) : at' (unS q n A) j = unD q n A j := by
  unfold at' unS
  rw [List.getD_eq_getElem?_getD, List.getElem?_eq_getElem (by simpa using h)]
  simp
/-- All letters are of the alphabet. -/
def Wd (q : Nat) (s : ByteArray) (n : Nat) : Prop := ∀ j, j < n → 0 ≤ dg (at' s j) ∧ (dg (at' s j)).toNat < q
theorem Wd.of {q : Nat} {s : ByteArray} (h : okW q s = true) : Wd q s s.size := fun j hj => by
  have := okW_iff.mp h j hj
  unfold okL at this
  simp at this
  omega
theorem Wd.ok {q : Nat} {s : ByteArray} (h : Wd q s s.size) : okW q s = true := okW_iff.mpr fun j hj => by
  have := h j hj
  unfold okL
  simp
  omega
theorem ba_at_ext {s t : ByteArray} (hs : s.size = t.size) (h : ∀ j, j < s.size → at' s j = at' t j) : s = t := by
  have h1 := map_at' s
  have h2 := map_at' t
  rw [← h1, ← h2, ← hs]
  congr 2
  exact List.map_congr_left fun j hj => h j (by simpa using hj)
theorem unS_Wd {q n A : Nat} (h1 : 1 ≤ q) (h2 : q ≤ 16) : Wd q (unS q n A) n := fun j hj => by
  rw [unS_at hj]
  unfold unD
  have : A / q ^ (n - 1 - j) % q < q := Nat.mod_lt _ h1
  rw [dg_ltr _ (by omega)]
  omega
theorem unS_ok {q n A : Nat} (h1 : 1 ≤ q) (h2 : q ≤ 16) : okW q (unS q n A) = true := Wd.ok (by rw [unS_size]; exact unS_Wd h1 h2)
theorem unS_snoc {q n i c : Nat} (hc : c < q) : unS q (n + 1) (i * q + c) = unS q n i ++ ⟨#[ltr c]⟩ := by
  have hq : 0 < q := by omega
  have hsz : (unS q n i ++ (⟨#[ltr c]⟩ : ByteArray)).size = n + 1 := by
    rw [ByteArray.size_append, unS_size]; rfl
  refine ba_at_ext (by rw [unS_size, hsz]) fun j hj => ?_
  rw [unS_size] at hj
  rw [unS_at hj]
  have hat : at' (unS q n i ++ (⟨#[ltr c]⟩ : ByteArray)) j = if j < n then at' (unS q n i) j else ltr c := by
    unfold at'
    rw [ByteArray.data_append, Array.toList_append, List.getD_eq_getElem?_getD]
    have hl : (unS q n i).data.toList.length = n := by rw [Array.length_toList]; exact unS_size q n i
    by_cases h : j < n
    · rw [if_pos h, List.getElem?_append_left (by omega), List.getD_eq_getElem?_getD]
    · rw [if_neg h, List.getElem?_append_right (by omega), hl, show j - n = 0 by omega]; rfl
  rw [hat]
  unfold unD
  by_cases h : j < n
  · rw [if_pos h, unS_at h]
    unfold unD
    rw [show n + 1 - 1 - j = (n - 1 - j) + 1 by omega, Nat.pow_succ, Nat.mul_comm (q ^ _) q, ← Nat.div_div_eq_div_mul, Nat.mul_comm i q, Nat.mul_add_div hq, Nat.div_eq_of_lt hc, Nat.add_zero]
  · rw [if_neg h, show n + 1 - 1 - j = 0 by omega, Nat.pow_zero, Nat.div_one, Nat.mul_comm i q, Nat.mul_add_mod_self_left, Nat.mod_eq_of_lt hc]
/-- All words of n letters, in their order. -/
def allW (q n : Nat) : List ByteArray := (List.range (q ^ n)).map (unS q n)
end Go.Proofs.Gv
