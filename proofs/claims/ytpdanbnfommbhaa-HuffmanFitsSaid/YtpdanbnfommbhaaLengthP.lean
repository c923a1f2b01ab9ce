/- Long division: one step, in plain arithmetic. -/
import Derived.Test.YtpdanbnfommbhaaDivMathP
import Derived.Test.YtpdanbnfommbhaaDivideP
set_option linter.unusedSimpArgs false
set_option linter.unusedVariables false
namespace Go.Proofs.Gv

section
variable {X Y M k g : Nat}
/-- The number in u in front of the step k, and behind it with the window b. -/
def num (X k b : Nat) : Nat := join k (X % B32 ^ k) b
section
variable {W : Nat}
end
end

end Go.Proofs.Gv

namespace Go.Proofs.Gv
open Go Go.RowKit

/-- The three rows of a long division. -/
structure DivMem (w wr : World) (gv gq n M K : Nat) (f h : Nat → Nat) (Y : Nat) : Prop where
  u : wr.rowIs w.heap.size 66 n (u32s f)
  v : wr.rowIs gv 66 (M + 1) (u32s (D Y))
  q : wr.rowIs gq 66 K (u32s h)
  b : Below w.heap.size w wr
  l1 : w.heap.size < gv
  l2 : gv < gq
section
variable {w wr : World} {gv gq n M K : Nat} {f f' h h' : Nat → Nat} {Y : Nat}
theorem DivMem.congr (m : DivMem w wr gv gq n M K f h Y) (e : ∀ i, i < n → f i = f' i) : DivMem w wr gv gq n M K f' h Y :=
  ⟨m.u.congr fun i hi => by unfold u32s; rw [e i hi], m.v, m.q, m.b, m.l1, m.l2⟩
end

section
variable {Y W M T g r : Nat}
end
end Go.Proofs.Gv

namespace Go.Proofs.Gv
open Go Go.RowKit

/-- The bits of x. -/
def bl (x : Nat) : Nat := if nlen x = 0 then 0 else 32 * (nlen x - 1) + Lib.bitLen (D x (nlen x - 1))
theorem bl_zero : bl 0 = 0 := by simp [bl, nlen_zero]
theorem bl_spec {x : Nat} (h : x ≠ 0) : 0 < bl x ∧ 2 ^ (bl x - 1) ≤ x ∧ x < 2 ^ bl x := by
  have h0 : nlen x ≠ 0 := mt nlen_eq_zero.1 h
  obtain ⟨h1, h2⟩ := D_top h
  obtain ⟨a, b, c⟩ := bitLen_bounds 32 (D x (nlen x - 1)) (D_lt _ _) (by omega) (by omega)
  have e : bl x = 32 * (nlen x - 1) + Lib.bitLen (D x (nlen x - 1)) := by unfold bl; rw [if_neg h0]
  have hB : B32 ^ (nlen x - 1) = 2 ^ (32 * (nlen x - 1)) := by rw [Nat.pow_mul]; rfl
  have hle := Nat.div_mul_le_self x (B32 ^ (nlen x - 1))
  have hlt := Nat.lt_mul_div_succ x (pow_pos (nlen x - 1))
  rw [← h1] at hle hlt
  rw [e]
  refine ⟨by omega, ?_, ?_⟩
  · rw [show 32 * (nlen x - 1) + Lib.bitLen (D x (nlen x - 1)) - 1 = Lib.bitLen (D x (nlen x - 1)) - 1 + 32 * (nlen x - 1) by omega, Nat.pow_add, ← hB]
    exact Nat.le_trans (Nat.mul_le_mul_right _ b) hle
  · rw [Nat.pow_add, ← hB]
    exact Nat.lt_of_lt_of_le hlt (Nat.mul_le_mul_left _ c)
theorem bl_le_iff {x n : Nat} : bl x ≤ n ↔ x < 2 ^ n := by
  by_cases h : x = 0
  · subst h; rw [bl_zero]; simp [Nat.pow_pos]
  · obtain ⟨a, b, c⟩ := bl_spec h
    constructor
    · intro hn; exact Nat.lt_of_lt_of_le c (Nat.pow_le_pow_right (by decide) hn)
    · intro hn
      apply Classical.byContradiction
      intro hc
      have : 2 ^ n ≤ 2 ^ (bl x - 1) := Nat.pow_le_pow_right (by decide) (by omega)
      omega
theorem bl_bound (x : Nat) : bl x ≤ 32 * nlen x := by
  rw [bl_le_iff, Nat.pow_mul]
  exact lt_pow_nlen x
theorem nlen_bl (x : Nat) : 32 * nlen x ≤ bl x + 31 := by
  by_cases h : x = 0
  · subst h; rw [nlen_zero]; omega
  · have h0 : nlen x ≠ 0 := mt nlen_eq_zero.1 h
    unfold bl
    rw [if_neg h0]
    have := (D_top h).2
    obtain ⟨a, _, _⟩ := bitLen_bounds 32 (D x (nlen x - 1)) (D_lt _ _) (by omega) (by omega)
    omega

theorem len32_any (d : Nat) (w : World) (h : d < 4294967296) :
    Calls Try.prog 78 #[.int .u32 (d : Nat)] w fun e w' => e = .returned (.int .i64 (Lib.bitLen d : Nat)) ∧ w = w' := by
  refine (Try.bits_Len32 (d : Int) w (by omega) (by omega)).mono ?_
  rintro e w' ⟨rfl, rfl⟩
  exact ⟨by rw [Int.toNat_natCast], rfl⟩

set_option maxHeartbeats 400000 in
theorem length_any (A : Option Addr) (c x : Nat) (w : World) (hx : Nt w w.heap.size A c x) (hn : nlen x ≤ 10000000) :
    Calls Try.prog 69 #[.slice A (nlen x) c] w fun e w' => e = .returned (.int .i64 (bl x : Nat)) ∧ w = w' := by
  by_cases h0 : nlen x = 0
  · have e : bl x = 0 := by unfold bl; rw [if_pos h0]
    rw [h0, e]
    clear e h0
    go_enter Try.func69, Try.ntmps69
    go_wp2
    go_ret
    exact ⟨rfl, rfl⟩
  · obtain ⟨g, rfl, hg, hcell⟩ := hx.rd (by omega)
    have hc0 := hcell (nlen x - 1) (by omega)
    have hd := D_lt' x (nlen x - 1)
    have h1 : ((nlen x : Int) == 0) = false := by rw [beq_eq_false_iff_ne]; omega
    have hb : Lib.bitLen (D x (nlen x - 1)) ≤ 32 := Lib.bitLen_le _ 32 (by omega) hd
    have HE : Hid (bl x = 32 * (nlen x - 1) + Lib.bitLen (D x (nlen x - 1))) := by unfold Hid bl; rw [if_neg h0]
    clear hcell hx
    go_enter Try.func69, Try.ntmps69
    go_wp2_with fail
    refine (len32_any _ _ hd).mono ?_
    rintro e w' ⟨rfl, rfl⟩
    go_wp2
    go_ret
    refine ⟨?_, rfl⟩
    rw [HE.out]
    show Ending.returned (Value.int .i64 _) = _
    congr 2
    omega
end Go.Proofs.Gv
