/- The lengths of words in bits. -/
import Derived.Test.YtlaakomeofldgaaShelf
import Derived.Test.YtlaakomeofldgaaKit
namespace Go.Proofs.Gv
open Go Go.RowKit

theorem bitLen_zero : Lib.bitLen 0 = 0 := by decide
theorem bitLen_bounds (n : Nat) : ∀ x, x < 2 ^ n → n ≤ 64 → 0 < x → 0 < Lib.bitLen x ∧ 2 ^ (Lib.bitLen x - 1) ≤ x ∧ x < 2 ^ Lib.bitLen x := by
  induction n with
  | zero => intro x h _ h0; have : x < 1 := h; omega
  | succ n ih =>
    intro x h hn h0
    have h64 : x < 2 ^ 64 := Nat.lt_of_lt_of_le h (Nat.pow_le_pow_right (by decide) hn)
    have e := Lib.bitLen_half x (by omega) h64
    rw [Nat.pow_succ] at h
    by_cases h1 : x / 2 = 0
    · have : x = 1 := by omega
      subst this
      rw [h1, bitLen_zero] at e
      rw [e]; decide
    · obtain ⟨a, b, c⟩ := ih (x / 2) (by omega) (by omega) (by omega)
      rw [e]
      refine ⟨by omega, ?_, ?_⟩
      · rw [show 1 + Lib.bitLen (x / 2) - 1 = Lib.bitLen (x / 2) - 1 + 1 by omega, Nat.pow_succ]; omega
      · rw [Nat.add_comm, Nat.pow_succ]; omega

/-- The zeros in front of the digit d. -/
def lz (d : Nat) : Nat := 32 - Lib.bitLen d
theorem lz_spec {d : Nat} (h0 : 0 < d) (h : d < 4294967296) : lz d < 32 ∧ 2147483648 ≤ d * 2 ^ lz d ∧ (d + 1) * 2 ^ lz d ≤ 4294967296 := by
  obtain ⟨a, b, c⟩ := bitLen_bounds 32 d h (by omega) h0
  have hle : Lib.bitLen d ≤ 32 := Lib.bitLen_le d 32 (by omega) h
  unfold lz
  generalize Lib.bitLen d = n at *
  refine ⟨by omega, ?_, ?_⟩
  · have : 2 ^ (n - 1) * 2 ^ (32 - n) ≤ d * 2 ^ (32 - n) := Nat.mul_le_mul_right _ b
    rw [← Nat.pow_add, show n - 1 + (32 - n) = 31 by omega] at this
    exact this
  · have : (d + 1) * 2 ^ (32 - n) ≤ 2 ^ n * 2 ^ (32 - n) := Nat.mul_le_mul_right _ c
    rw [← Nat.pow_add, show n + (32 - n) = 32 by omega] at this
    exact this

theorem leading_any (d : Nat) (w : World) (h : d < 4294967296) :
    Calls Try.prog 109 #[.int .u32 (d : Nat)] w fun e w' => e = .returned (.int .i64 (lz d : Nat)) ∧ w = w' := by
  refine (Try.bits_LeadingZeros32 (d : Int) w (by omega) (by omega)).mono ?_
  rintro e w' ⟨rfl, rfl⟩
  have hle : Lib.bitLen d ≤ 32 := Lib.bitLen_le d 32 (by omega) h
  refine ⟨?_, rfl⟩
  rw [Int.toNat_natCast]
  unfold lz
  rw [show ((32 - Lib.bitLen d : Nat) : Int) = 32 - (Lib.bitLen d : Int) by omega]

end Go.Proofs.Gv
