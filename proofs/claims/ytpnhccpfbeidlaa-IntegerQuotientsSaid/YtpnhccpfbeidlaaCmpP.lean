/- The contracts of integers, said of values. -/
import Derived.Test.YtpnhccpfbeidlaaLawKit
import Derived.Test.YtpnhccpfbeidlaaIntCP
import Derived.Deep.RegionHeld3
import Derived.OpenShut
namespace Go.Proofs.Gv
open Go Go.RowKit

/-- Sign and bytes stand for the integer z. -/
structure Rp (n : Bool) (s : ByteArray) (z : Int) : Prop where
  val : iv n s = z
  sz : s.size ≤ 1000000
theorem p256 (N : Nat) : (256 : Nat) ^ N = 2 ^ (8 * N) := by rw [Nat.pow_mul]
theorem szB {x : Nat} (N : Nat) (h : x < 2 ^ (8 * N)) : (mg x).size ≤ N := size_mg (by rw [p256]; exact h)
theorem Rp.V {z : Int} (N : Nat) (h : z.natAbs < 2 ^ N) (hN : N ≤ 7900000) : Rp (sgn z) (mg z.natAbs) z :=
  ⟨iv_V z, Nat.le_trans (szB (N / 8 + 1) (Nat.lt_of_lt_of_le h (Nat.pow_le_pow_right (by decide) (by omega)))) (by omega)⟩
theorem bv_emp : bv (⟨#[]⟩ : ByteArray).data.toList = 0 := by rw [← mg_zero, bv_mg]
theorem Rp.zero : Rp false ⟨#[]⟩ 0 := ⟨by unfold iv; rw [bv_emp]; rfl, by decide⟩
theorem Rp.abs {n : Bool} {s : ByteArray} {z : Int} (h : Rp n s z) : z.natAbs = bv s.data.toList := by rw [← h.val, iv_abs]
theorem Rp.lt {n : Bool} {s : ByteArray} {z : Int} (h : Rp n s z) {k : Nat} (hk : s.size ≤ k) : z.natAbs < 2 ^ (8 * k) := by
  rw [← h.val, ← p256]
  exact Nat.lt_of_lt_of_le (iv_lt n s) (Nat.pow_le_pow_right (by decide) hk)
theorem Rp.neg {n : Bool} {s : ByteArray} {z : Int} (h : Rp n s z) (hz : z < 0) : n = true ∧ 0 < bv s.data.toList := by
  have hv := h.val
  unfold iv at hv
  cases n
  · simp at hv; omega
  · simp at hv; exact ⟨rfl, by omega⟩
theorem Rp.pos {n : Bool} {s : ByteArray} {z : Int} (h : Rp n s z) (hz : 0 ≤ z) : n = true → bv s.data.toList = 0 := by
  have hv := h.val
  unfold iv at hv
  rintro rfl
  simp at hv; omega

section
variable {na nb : Bool} {sa sb : ByteArray} {a b : Int}
theorem cDiv {q r : Int} (ha : Rp na sa a) (hb : Rp nb sb b) (hd : DivSpec a b q r) (h0 : b ≠ 0) (W : World) :
    Calls Try.prog 21 #[.agg #[.bool na, .string sa], .agg #[.bool nb, .string sb]] W fun e w' => e = .returned (.tuple #[.agg #[.bool (sgn q), .string (mg q.natAbs)], .agg #[.bool (sgn r), .string (mg r.natAbs)], .int .i64 0]) ∧ Below W.heap.size W w' := by
  have := Div_any na nb sa sb W (Nat.le_trans ha.sz (by decide)) (Nat.le_trans hb.sz (by decide)) (by rw [← hb.abs]; omega)
  rw [ha.val, hb.val] at this
  refine this.mono ?_
  rintro e w' ⟨q', r', rfl, hd', hbl⟩
  obtain ⟨rfl, rfl⟩ := div_uniq hd hd'
  exact ⟨rfl, hbl⟩
theorem cDiv0 (ha : Rp na sa a) (hb : Rp nb sb 0) (W : World) :
    Calls Try.prog 21 #[.agg #[.bool na, .string sa], .agg #[.bool nb, .string sb]] W fun e w' => e = .returned (.tuple #[.agg #[.bool false, .string ⟨#[]⟩], .agg #[.bool false, .string ⟨#[]⟩], .int .i64 9]) ∧ Below W.heap.size W w' :=
  Div_zero na nb sa sb W (Nat.le_trans ha.sz (by decide)) (Nat.le_trans hb.sz (by decide)) (by rw [← hb.abs]; rfl)
end
theorem mul_bits {x y N M : Nat} (h : x < 2 ^ N) (h' : y < 2 ^ M) : x * y < 2 ^ (N + M) := by
  rw [Nat.pow_add]; exact Nat.mul_lt_mul'' h h'
theorem add_bits {x y N : Nat} (h : x < 2 ^ N) (h' : y < 2 ^ N) : x + y < 2 ^ (N + 1) := by rw [Nat.pow_succ]; omega
theorem bits_up {x N : Nat} (M : Nat) (h : x < 2 ^ N) (hm : N ≤ M) : x < 2 ^ M := Nat.lt_of_lt_of_le h (Nat.pow_le_pow_right (by decide) hm)
end Go.Proofs.Gv

namespace Go.Proofs.Gv
open Go Go.RowKit

theorem div_exists (a b : Int) (h : b ≠ 0) : ∃ q r, DivSpec a b q r := by
  by_cases hb : 0 < b
  · refine ⟨a / b, a % b, ?_, .inl ⟨Int.emod_nonneg _ h, Int.emod_lt_of_pos _ hb⟩⟩
    rw [Int.mul_comm]; exact (Int.mul_ediv_add_emod a b).symm
  · have hb' : 0 < -b := by omega
    have e := Int.mul_ediv_add_emod a (-b)
    have h0 := Int.emod_nonneg a (show -b ≠ 0 by omega)
    have h1 := Int.emod_lt_of_pos a hb'
    generalize a / -b = k at *
    generalize a % -b = r at *
    by_cases hr : r = 0
    · subst hr
      exact ⟨-k, 0, by rw [← e, Int.neg_mul, Int.neg_mul, Int.mul_comm], .inr ⟨by omega, by omega⟩⟩
    · refine ⟨-k - 1, r + b, ?_, .inr ⟨by omega, by omega⟩⟩
      rw [Int.sub_mul, Int.neg_mul, Int.one_mul, Int.mul_comm k b]
      rw [Int.neg_mul] at e; omega
end Go.Proofs.Gv

namespace Go.Proofs.Gv
open Go Go.RowKit

theorem cmpI_congr {a b c d : Int} (h1 : a < b ↔ c < d) (h2 : b < a ↔ d < c) : cmpI a b = cmpI c d := by
  unfold cmpI
  by_cases e1 : a < b
  · rw [if_pos e1, if_pos (h1.1 e1)]
  · rw [if_neg e1, if_neg (mt h1.2 e1)]
    by_cases e2 : b < a
    · rw [if_pos e2, if_pos (h2.1 e2)]
    · rw [if_neg e2, if_neg (mt h2.2 e2)]
end Go.Proofs.Gv
