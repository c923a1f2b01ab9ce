/- The law IntegerDivides, joined. -/
import Derived.Test.YtpnhccpfbeidlaaL1Divides
import Derived.Test.YtpnhccpfbeidlaaLawVal
import Derived.OpenShut
namespace Go.Proofs.Gv
open Go Go.RowKit

theorem div_exists (a b : Int) (h : b ≠ 0) : ∃ q r, DivSpec a b q r := by
  by_cases hb : 0 < b
  · refine ⟨a / b, a % b, ?_, .inl ⟨Int.emod_nonneg _ h, Int.emod_lt_of_pos _ hb⟩⟩
    rw [Int.mul_comm]; exact (Int.mul_ediv_add_emod a b).symm
  · have hb' : 0 < -b := by omega
    have e := Int.mul_ediv_add_emod a (-b)
    have h0 := Int.emod_nonneg a (show -b ≠ 0 by omega)
    have h1 := Int.emod_lt_of_pos a hb'
    generalize a / -b = k at *
    generalize a % -b = r at *
    by_cases hr : r = 0
    · subst hr
      exact ⟨-k, 0, by rw [← e, Int.neg_mul, Int.neg_mul, Int.mul_comm], .inr ⟨by omega, by omega⟩⟩
    · refine ⟨-k - 1, r + b, ?_, .inr ⟨by omega, by omega⟩⟩
      rw [Int.sub_mul, Int.neg_mul, Int.one_mul, Int.mul_comm k b]
      rw [Int.neg_mul] at e; omega
theorem div_size {a b q r : Int} (h : DivSpec a b q r) (h0 : b ≠ 0) : r.natAbs < b.natAbs ∧ q.natAbs ≤ a.natAbs + b.natAbs ∧ (q * b).natAbs ≤ a.natAbs + b.natAbs := by
  obtain ⟨e, h⟩ := h
  have hr : r.natAbs < b.natAbs := by omega
  have hm : (q * b).natAbs ≤ a.natAbs + b.natAbs := by omega
  refine ⟨hr, ?_, hm⟩
  rw [Int.natAbs_mul] at hm
  exact Nat.le_trans (Nat.le_mul_of_pos_right _ (by omega)) hm

theorem law_divides (na : Bool) (sa : ByteArray) (nb : Bool) (sb : ByteArray) (w : World) (ha : sa.size ≤ maxLen) (hb : sb.size ≤ maxLen) :
    Calls Try.prog 5 #[.agg #[.bool na, .string sa], .agg #[.bool nb, .string sb]] w fun e w' => e = .returned (.bool true) ∧ Below w.heap.size w w' := by
  cases hgr : gr [(na, sa), (nb, sb)] with
  | true => exact divides_great na nb sa sb ha hb hgr w
  | false =>
    have h60 : sa.size ≤ 60 := gr_false hgr (na, sa) (by simp)
    have h60b : sb.size ≤ 60 := gr_false hgr (nb, sb) (by simp)
    obtain ⟨a, hA⟩ : ∃ a, iv na sa = a := ⟨_, rfl⟩
    obtain ⟨b, hB⟩ : ∃ b, iv nb sb = b := ⟨_, rfl⟩
    have ra : Rp na sa a := ⟨hA, by omega⟩
    have rb : Rp nb sb b := ⟨hB, by omega⟩
    have la := ra.lt h60
    have lb := rb.lt h60b
    obtain ⟨N, hN⟩ : ∃ N, N = 8 * 60 := ⟨_, rfl⟩
    rw [← hN] at la lb
    by_cases h0 : b = 0
    · subst h0
      have H2 := cCmp rb Rp.zero
      rw [cmpI_eq] at H2
      exact divides_zero na nb sa sb ha hb hgr w (cDiv0 ra rb) H2
    · obtain ⟨q, r, hd⟩ := div_exists a b h0
      obtain ⟨s1, s2, s3⟩ := div_size hd h0
      have lr : r.natAbs < 2 ^ N := Nat.lt_trans s1 lb
      have lq : q.natAbs < 2 ^ (N + 1) := Nat.lt_of_le_of_lt s2 (add_bits la lb)
      have lm : (q * b).natAbs < 2 ^ (N + 1) := Nat.lt_of_le_of_lt s3 (add_bits la lb)
      have rr := Rp.V N lr (by omega)
      have rq := Rp.V (N + 1) lq (by omega)
      have rm := Rp.V (N + 1) lm (by omega)
      have H1 := cDiv ra rb hd h0
      have H5 := cMul rq rb
      have H6 := cAdd rm rr
      rw [← hd.1] at H6
      have H7 := cCmp (Rp.V N la (by omega)) ra
      rw [cmpI_eq] at H7
      have H2 := cCmp rb Rp.zero
      rcases hd.2 with hp | hn
      · rw [cmpI_gt (by omega)] at H2
        have H3 := cCmp rr Rp.zero
        have H4 := cCmp rr rb
        rw [cmpI_lt hp.2] at H4
        exact divides_pos _ _ _ _ _ _ _ _ _ _ _ _ ha hb hgr _ (by unfold cmpI; rw [if_neg (by omega)]; split <;> rfl) w H1 H2 H3 H4 H5 H6 H7
      · rw [cmpI_lt (by omega)] at H2
        have Hb := cNeg rb
        have Hr := cNeg rr
        have rnb := Rp.V (z := -b) N (by rw [Int.natAbs_neg]; exact lb) (by omega)
        have rnr := Rp.V (z := -r) N (by rw [Int.natAbs_neg]; exact lr) (by omega)
        have H3 := cCmp rnr Rp.zero
        have H4 := cCmp rnr rnb
        rw [cmpI_lt (show -r < -b by omega)] at H4
        exact divides_neg _ _ _ _ _ _ _ _ _ _ _ _ _ _ _ _ ha hb hgr _ (by unfold cmpI; rw [if_neg (by omega)]; split <;> rfl) w H1 H2 Hb Hr H3 H4 H5 H6 H7
end Go.Proofs.Gv
