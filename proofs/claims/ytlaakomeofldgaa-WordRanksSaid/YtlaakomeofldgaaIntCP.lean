/- Plain laws of words and their numbers. -/
import Derived.Test.YtlaakomeofldgaaRank
import Derived.Test.YtlaakomeofldgaaIntB
import Derived.Test.YtlaakomeofldgaaIntKit
import Derived.Deep.RegionHeld3
namespace Go.Proofs.Gv
open Go Go.RowKit

/-- Letter j of the word of n letters with number A. -/
def unD (q n A j : Nat) : UInt8 := ltr (A / q ^ (n - 1 - j) % q)
/-- The word of n letters with number A. -/
def unS (q n A : Nat) : ByteArray := ⟨((List.range n).map (unD q n A)).toArray⟩
/-- The number of the first k letters. -/
def rn (q : Nat) (s : ByteArray) : Nat → Nat
  | 0 => 0
  | k + 1 => rn q s k * q + (dg (at' s k)).toNat
/-- All letters are of the alphabet. -/
def Wd (q : Nat) (s : ByteArray) (n : Nat) : Prop := ∀ j, j < n → 0 ≤ dg (at' s j) ∧ (dg (at' s j)).toNat < q
theorem Wd.of {q : Nat} {s : ByteArray} (h : okW q s = true) : Wd q s s.size := fun j hj => by
  have := okW_iff.mp h j hj
  unfold okL at this
  simp at this
  omega
theorem Wd.ok {q : Nat} {s : ByteArray} (h : Wd q s s.size) : okW q s = true := okW_iff.mpr fun j hj => by
  have := h j hj
  unfold okL
  simp
  omega
theorem rk_rn {q : Nat} {s : ByteArray} : ∀ k, Wd q s k → rk q s k = (rn q s k : Nat) := by
  intro k
  induction k with
  | zero => intro _; rfl
  | succ k ih =>
    intro h
    have h1 := ih fun j hj => h j (by omega)
    have h2 := (h k (by omega)).1
    unfold rk rn
    rw [h1]
    push_cast
    omega
theorem rn_lt {q : Nat} {s : ByteArray} : ∀ k, Wd q s k → rn q s k < q ^ k := by
  intro k
  induction k with
  | zero => intro _; show 0 < 1; decide
  | succ k ih =>
    intro h
    have h1 := ih fun j hj => h j (by omega)
    have h2 := (h k (by omega)).2
    have h3 : (rn q s k + 1) * q ≤ q ^ k * q := Nat.mul_le_mul_right q h1
    rw [Nat.add_mul, Nat.one_mul] at h3
    rw [Nat.pow_succ]
    unfold rn
    omega
end Go.Proofs.Gv

namespace Go.Proofs.Gv
open Go Go.RowKit

theorem zeros_size (n : Nat) : (⟨(List.replicate n 48).toArray⟩ : ByteArray).size = n := by
  show ((List.replicate n 48).toArray).size = n
  simp
/-- Once all is divided off, the letters left are 0. -/
theorem un_rest {q n A k j : Nat} (hz : A / q ^ k = 0) (hj : j < n - k) : unD q n A j = 48 := by
  unfold unD
  rw [show n - 1 - j = k + (n - 1 - j - k) by omega, Nat.pow_add, ← Nat.div_div_eq_div_mul, hz, Nat.zero_div, Nat.zero_mod]
  rfl
theorem div_stepP (A q k : Nat) : A / q ^ k / q = A / q ^ (k + 1) := by rw [Nat.div_div_eq_div_mul, Nat.pow_succ]
theorem un_dig {q n A k : Nat} (hk : k < n) : ltr (A / q ^ k % q) = unD q n A (n - 1 - k) := by
  unfold unD
  rw [show n - 1 - (n - 1 - k) = k by omega]
end Go.Proofs.Gv

namespace Go.Proofs.Gv
open Go Go.RowKit

theorem mg_size_iv (na : Bool) (sa : ByteArray) : (mg (iv na sa).natAbs).size ≤ sa.size := size_mg (iv_lt na sa)
theorem mg_size_neg (na : Bool) (sa : ByteArray) : (mg (-iv na sa).natAbs).size ≤ sa.size := by rw [Int.natAbs_neg]; exact mg_size_iv na sa

/-- -1, 0 or 1. -/
def cmpI (a b : Int) : Int := if a < b then -1 else if b < a then 1 else 0
theorem cmpI_lt {a b : Int} (h : a < b) : cmpI a b = -1 := by simp [cmpI, h]
theorem cmpI_gt {a b : Int} (h : b < a) : cmpI a b = 1 := by unfold cmpI; rw [if_neg (by omega), if_pos h]
theorem cmpI_eq (a : Int) : cmpI a a = 0 := by simp [cmpI]

theorem mg_toList (n : Nat) : (mg n).toList = byt n := by rw [ByteArray.toList_eq]; exact mg_list n
theorem mg_empty : (mg 0).toList.isEmpty = true := by rw [mg_toList, byt_zero]; rfl
theorem mg_full {n : Nat} (h : n ≠ 0) : (mg n).toList.isEmpty = false := by
  rw [mg_toList]
  have := mt byt_eq_nil.1 h
  cases e : byt n with
  | nil => exact absurd e this
  | cons a l => rfl

end Go.Proofs.Gv
