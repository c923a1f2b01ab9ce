/- The law IntegerRoots, joined. -/
import Derived.Test.YtpnhccpfbeidlaaL1Roots
import Derived.Test.YtpnhccpfbeidlaaLawVal
import Derived.OpenShut
namespace Go.Proofs.Gv
open Go Go.RowKit

theorem root_ex_nat (n x : Nat) (hn : 0 < n) : ∃ r, r ^ n ≤ x ∧ x < (r + 1) ^ n ∧ r ≤ x := by
  induction x with
  | zero => exact ⟨0, by simp [Nat.zero_pow hn], by simp, by omega⟩
  | succ x ih =>
    obtain ⟨r, h1, h2, h3⟩ := ih
    by_cases h : x + 1 < (r + 1) ^ n
    · exact ⟨r, by omega, h, by omega⟩
    · refine ⟨r + 1, by omega, ?_, by omega⟩
      have : (r + 1) ^ n < (r + 1 + 1) ^ n := Nat.pow_lt_pow_left (by omega) (by omega)
      omega

theorem law_roots (na : Bool) (sa : ByteArray) (m n : Int) (w : World) (ha : sa.size ≤ maxLen) (hm : (Lit.int .u8 m).wf = true) (hn : (Lit.int .u8 n).wf = true) :
    Calls Try.prog 6 #[.agg #[.bool na, .string sa], .int .u8 m, .int .u8 n] w fun e w' => e = .returned (.bool true) ∧ Below w.heap.size w w' := by
  have hm0 := bounds_u8 hm
  have hn0 := bounds_u8 hn
  cases hgr : gr [(na, sa)] with
  | true => exact roots_great na sa m n ha hgr w
  | false =>
    have h60 : sa.size ≤ 60 := gr_false hgr (na, sa) (by simp)
    obtain ⟨a, hA⟩ : ∃ a, iv na sa = a := ⟨_, rfl⟩
    have ra : Rp na sa a := ⟨hA, by omega⟩
    have hl : a.natAbs < 2 ^ 480 := by have h := ra.lt h60; rwa [show 8 * 60 = 480 from rfl] at h
    have hbl : bl a.natAbs ≤ 480 := bl_lt hl
    have hi1 : 1 ≤ 1 + m % 8 ∧ 1 + m % 8 ≤ 8 := by omega
    have hk1 : 1 ≤ 1 + n % 8 ∧ 1 + n % 8 ≤ 8 := by omega
    obtain ⟨i, hi⟩ : ∃ i : Nat, (1 + m % 8).toNat = i := ⟨_, rfl⟩
    obtain ⟨k, hk⟩ : ∃ k : Nat, (1 + n % 8).toNat = k := ⟨_, rfl⟩
    have hik : (1 + m % 8 + (1 + n % 8)).toNat = i + k := by omega
    have hmul : ∀ j : Nat, j ≤ 16 → j * bl a.natAbs ≤ 65536 := fun j hj => Nat.le_trans (Nat.mul_le_mul hj hbl) (by decide)
    have bx := bits_up 8000 (ipow_bits i hl (by omega)) (by omega)
    have by' := bits_up 8000 (ipow_bits k hl (by omega)) (by omega)
    have H2 := cPower (1 + m % 8) ra (by omega) (by omega) (by rw [hi]; exact hmul _ (by omega))
    have H3 := cPower (1 + n % 8) ra (by omega) (by omega) (by rw [hk]; exact hmul _ (by omega))
    have H4 := cPower (1 + m % 8 + (1 + n % 8)) ra (by omega) (by omega) (by rw [hik]; exact hmul _ (by omega))
    rw [hi] at H2
    rw [hk] at H3
    rw [hik] at H4
    have rx := Rp.V 8000 bx (by decide)
    have H5 := cMul rx (Rp.V 8000 by' (by decide))
    rw [← Int.pow_add] at H5
    have H6 := cCmp ra Rp.zero
    by_cases hneg : a < 0
    · rw [cmpI_lt hneg] at H6
      exact roots_neg _ _ _ _ _ _ _ _ m n hm0 hn0 ha hgr w (cRootB (1 + m % 8) ra (.inl hneg)) H2 H3 H4 H5 H6
    · obtain ⟨r, r1, r2, r3⟩ := root_ex_nat i a.natAbs (by omega)
      have hrl : r < 2 ^ 480 := Nat.lt_of_le_of_lt r3 hl
      have hrl' : (r : Int).natAbs < 2 ^ 480 := by rw [Int.natAbs_natCast]; exact hrl
      have rr := Rp.V (z := (r : Int)) 480 hrl' (by decide)
      have hc : decide (cmpI a 0 < 0) = false := by
        unfold cmpI; rw [if_neg hneg]; split <;> rfl
      have H1 := cRoot (1 + m % 8) (r := r) ra (by omega) (by omega) (by omega) (by rw [hi]; exact r1) (by rw [hi]; exact r2)
      have hr0 : sgn (r : Int) = false := by unfold sgn; simp
      rw [hr0] at rr
      have hblr : bl (r : Int).natAbs ≤ 480 := bl_lt hrl'
      have H7 := cPower (1 + m % 8) rr (by omega) (by omega) (by rw [hi]; exact Nat.le_trans (Nat.mul_le_mul (show i ≤ 16 by omega) hblr) (by decide))
      rw [hi] at H7
      have ro := Rp.V (z := 1) 1 (by decide) (by decide)
      have hr1 : ((r : Int) + 1).natAbs < 2 ^ (480 + 1) := iadd_bits (x := (r : Int)) (y := 1) (N := 480) hrl' (bits_up 480 (show (1 : Int).natAbs < 2 ^ 1 by decide) (by decide))
      have H9 := cAdd rr ro
      have rr1 := Rp.V (z := (r : Int) + 1) (480 + 1) hr1 (by decide)
      have H10 := cPower (1 + m % 8) rr1 (by omega) (by omega) (by rw [hi]; exact Nat.le_trans (Nat.mul_le_mul (show i ≤ 16 by omega) (bl_lt hr1)) (by decide))
      rw [hi] at H10
      have H11 := cRoot (1 + m % 8) (r := a.natAbs) rx (by omega) (by omega) (Int.pow_nonneg (by omega)) (by rw [hi, Int.natAbs_pow]; exact Nat.le_refl _) (by rw [hi, Int.natAbs_pow]; exact Nat.pow_lt_pow_left (by omega) (by omega))
      have bl' := bits_up 8000 (ipow_bits (x := (r : Int)) (N := 480) i hrl' (by omega)) (by omega)
      have bh' := bits_up 8000 (ipow_bits i hr1 (by omega)) (by omega)
      have e1 : ((r : Int) ^ i) ≤ a := by
        have : ((r ^ i : Nat) : Int) ≤ (a.natAbs : Nat) := by exact_mod_cast r1
        rw [Int.natCast_pow] at this; omega
      have e2 : a < ((r : Int) + 1) ^ i := by
        have : ((a.natAbs : Nat) : Int) < (((r + 1) ^ i : Nat) : Int) := by exact_mod_cast r2
        rw [Int.natCast_pow, Int.natCast_add] at this
        have e : ((a.natAbs : Nat) : Int) = a := by omega
        rw [e] at this; exact this
      have H12 := cCmp (Rp.V 8000 bl' (by decide)) ra
      have hc2 : decide (cmpI ((r : Int) ^ i) a ≤ 0) = true := by
        unfold cmpI; split
        · rfl
        · rw [if_neg (by omega)]; rfl
      have H13 := cCmp ra (Rp.V 8000 bh' (by decide))
      rw [cmpI_lt e2] at H13
      have ea : ((a.natAbs : Nat) : Int) = a := by omega
      have H14 := cCmp (Rp.V (z := (a.natAbs : Nat)) 480 (by rw [Int.natAbs_natCast]; exact hl) (by decide)) ra
      have hsa : sgn ((a.natAbs : Nat) : Int) = false := by unfold sgn; simp
      rw [hsa, show cmpI ((a.natAbs : Nat) : Int) a = 0 by rw [ea]; exact cmpI_eq a] at H14
      exact roots_pos _ _ _ _ _ _ _ _ _ _ _ _ _ _ _ _ _ _ m n _ _ hm0 hn0 ha hgr hc hc2 _ w H1 H2 H3 H4 H5 H6 H7 (fun W => Of_any 1 W (by decide) (by decide)) H9 H10 H11 H12 H13 H14
end Go.Proofs.Gv
