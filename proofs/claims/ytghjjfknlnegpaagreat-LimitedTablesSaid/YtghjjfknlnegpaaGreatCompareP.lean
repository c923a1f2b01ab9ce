/- Numbers as bytes, the greatest first: plain arithmetic. -/
import Derived.Test.YtghjjfknlnegpaaGreatDivMath
import Derived.Test.YtghjjfknlnegpaaGreatRows
import Derived.Test.YtghjjfknlnegpaaGreatKitP
set_option linter.unusedSimpArgs false
set_option linter.unusedVariables false
namespace Go.Proofs.Gv

theorem snoc_ind {α : Type} {P : List α → Prop} (h0 : P []) (h1 : ∀ l a, P l → P (l ++ [a])) (l : List α) : P l := by
  suffices h : ∀ m : List α, P m.reverse by simpa using h l.reverse
  intro m
  induction m with
  | nil => exact h0
  | cons a m ih => rw [List.reverse_cons]; exact h1 _ _ ih

/-- The value of bytes. -/
def bv (l : List UInt8) : Nat := l.foldl (fun a c => 256 * a + c.toNat) 0
theorem bv_snoc (l : List UInt8) (c : UInt8) : bv (l ++ [c]) = 256 * bv l + c.toNat := by simp [bv, List.foldl_append]

/-- The bytes of a number, without zeros in front. -/
def byt (n : Nat) : List UInt8 := if h : n = 0 then [] else byt (n / 256) ++ [UInt8.ofNat (n % 256)]
termination_by n
decreasing_by exact Nat.div_lt_self (by omega) (by decide)
theorem byt_zero : byt 0 = [] := by rw [byt]; simp
theorem byt_pos {n : Nat} (h : n ≠ 0) : byt n = byt (n / 256) ++ [UInt8.ofNat (n % 256)] := by rw [byt]; simp [h]
theorem bv_byt : ∀ n, bv (byt n) = n := by
  intro n
  induction n using Nat.strongRecOn with
  | _ n ih =>
    by_cases e : n = 0
    · subst e; rw [byt_zero]; rfl
    · rw [byt_pos e, bv_snoc, ih (n / 256) (Nat.div_lt_self (by omega) (by decide)), UInt8.toNat_ofNat']
      omega
theorem bv_lt (l : List UInt8) : bv l < 256 ^ l.length := by
  refine snoc_ind (P := fun l => bv l < 256 ^ l.length) ?_ ?_ l
  · decide
  · intro l c ih
    have hc : c.toNat < 256 := c.toNat_lt
    rw [bv_snoc, List.length_append, List.length_singleton, Nat.pow_succ]; omega
theorem byt_len_le : ∀ (k n : Nat), n < 256 ^ k → (byt n).length ≤ k := by
  intro k
  induction k with
  | zero => intro n h; have : n = 0 := by simpa using h
            subst this; rw [byt_zero]; simp
  | succ k ih =>
    intro n h
    by_cases e : n = 0
    · subst e; rw [byt_zero]; simp
    · rw [byt_pos e, List.length_append, List.length_singleton]
      have := ih (n / 256) (by rw [Nat.div_lt_iff_lt_mul (by decide)]; rwa [Nat.pow_succ] at h)
      omega

end Go.Proofs.Gv

namespace Go.Proofs.Gv
open Go Go.RowKit

/-- The bytes of an absolute value. -/
def mg (n : Nat) : ByteArray := ⟨(byt n).toArray⟩
/-- The sign that belongs to it. -/
def sg (ng : Bool) (n : Nat) : Bool := ng && !(n == 0)
/-- The first bytes of x: those in front of byte q of digit i. -/
def hd (x i q : Nat) : Nat := x / B32 ^ i / 256 ^ q
/-- The byte that comes next. -/
def nb (x i k : Nat) : UInt8 := UInt8.ofNat (hd x i k % 256)
end Go.Proofs.Gv

namespace Go.Proofs.Gv
open Go Go.RowKit

/-- The digits from m on agree. -/
def Agree (x y m : Nat) : Prop := x / B32 ^ m = y / B32 ^ m
theorem Agree.step {x y m : Nat} (h : Agree x y (m + 1)) (e : D x m = D y m) : Agree x y m := by
  unfold Agree at h ⊢
  rw [div_step x m, div_step y m, h, e]
theorem Agree.lt {x y m : Nat} (h : Agree x y (m + 1)) (e : D x m < D y m) : x < y := by
  unfold Agree at h
  have h1 : x / B32 ^ m < y / B32 ^ m := by rw [div_step x m, div_step y m, h]; omega
  exact Nat.lt_of_div_lt_div h1
end Go.Proofs.Gv
