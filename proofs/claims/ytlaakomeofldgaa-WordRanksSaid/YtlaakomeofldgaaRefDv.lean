/- The reference implementation of integers: Div. -/
import Derived.Test.YtlaakomeofldgaaRefDvS
import Derived.Test.YtlaakomeofldgaaRefDvL
namespace Go.Proofs.Gv
open Go Go.RowKit

section
variable {A B Q R : Nat}
theorem dsp_eq (e : B * Q + R = A) : (A : Int) = (Q : Int) * (B : Int) + R := by
  rw [← e, Nat.mul_comm]; push_cast; rfl
theorem dsp_pp (e : B * Q + R = A) (hl : R < B) : DivSpec (A : Int) (B : Int) Q R := by
  have := dsp_eq e
  exact ⟨this, .inl ⟨by omega, by omega⟩⟩
theorem dsp_nn (e : B * Q + R = A) (hl : R < B) : DivSpec (-(A : Int)) (-(B : Int)) Q (-(R : Int)) := by
  have := dsp_eq e
  exact ⟨by rw [Int.mul_neg]; omega, .inr ⟨by omega, by omega⟩⟩
theorem dsp_pn0 (e : B * Q + R = A) (hl : R < B) (h : R = 0) : DivSpec (A : Int) (-(B : Int)) (-(Q : Int)) (-(R : Int)) := by
  have := dsp_eq e
  exact ⟨by rw [Int.mul_neg, Int.neg_mul]; omega, .inr ⟨by omega, by omega⟩⟩
theorem dsp_np0 (e : B * Q + R = A) (hl : R < B) (h : R = 0) : DivSpec (-(A : Int)) (B : Int) (-(Q : Int)) (R : Int) := by
  have := dsp_eq e
  exact ⟨by rw [Int.neg_mul]; omega, .inl ⟨by omega, by omega⟩⟩
theorem dsp_pn1 (e : B * Q + R = A) (hl : R < B) (h : R ≠ 0) : DivSpec (A : Int) (-(B : Int)) (-(Q : Int) - 1) (-((B : Int) - R)) := by
  have := dsp_eq e
  exact ⟨by rw [Int.mul_neg, Int.sub_mul, Int.neg_mul, Int.one_mul]; omega, .inr ⟨by omega, by omega⟩⟩
theorem dsp_np1 (e : B * Q + R = A) (hl : R < B) (h : R ≠ 0) : DivSpec (-(A : Int)) (B : Int) (-(Q : Int) - 1) ((B : Int) - R) := by
  have := dsp_eq e
  exact ⟨by rw [Int.sub_mul, Int.neg_mul, Int.one_mul]; omega, .inl ⟨by omega, by omega⟩⟩
end
theorem dsp_of {a b a' b' q r : Int} (e1 : a = a') (e2 : b = b') (h : DivSpec a' b' q r) : DivSpec a b q r := by rw [e1, e2]; exact h
theorem sgn_f {a : Int} (h : sgn a = false) : a = (a.natAbs : Int) := by unfold sgn at h; have := of_decide_eq_false h; omega
theorem sgn_t {a : Int} (h : sgn a = true) : a = -(a.natAbs : Int) := by unfold sgn at h; have := of_decide_eq_true h; omega

theorem rDiv_any (na nb : Bool) (sa sb : ByteArray) (a b q r : Int) (w : World) (ha : Rp na sa a) (hb : Rp nb sb b) (h1 : sa.size ≤ 90000) (h2 : sb.size ≤ 90000) (h0 : b.natAbs ≠ 0) (hd : DivSpec a b q r) :
    Calls Try.prog 72 #[.agg #[.bool na, .string sa], .agg #[.bool nb, .string sb]] w (RetDv w q r) := by
  have e := Nat.div_add_mod a.natAbs b.natAbs
  have hl := Nat.mod_lt a.natAbs (Nat.pos_of_ne_zero h0)
  have ways : (((mg a.natAbs).size : Int) < 8 ∧ ((mg b.natAbs).size : Int) < 8) ∨ (decide (((mg a.natAbs).size : Int) < 8) = false ∨ (((mg a.natAbs).size : Int) < 8 ∧ decide (((mg b.natAbs).size : Int) < 8) = false)) := by
    by_cases h8 : ((mg a.natAbs).size : Int) < 8
    · by_cases h9 : ((mg b.natAbs).size : Int) < 8
      · exact .inl ⟨h8, h9⟩
      · exact .inr (.inr ⟨h8, decide_eq_false h9⟩)
    · exact .inr (.inl (decide_eq_false h8))
  have fin : ∀ q' r', DivSpec a b q' r' → Calls Try.prog 72 #[.agg #[.bool na, .string sa], .agg #[.bool nb, .string sb]] w (RetDv w q' r') →
      Calls Try.prog 72 #[.agg #[.bool na, .string sa], .agg #[.bool nb, .string sb]] w (RetDv w q r) := fun q' r' hd' hc => by
    obtain ⟨rfl, rfl⟩ := div_uniq hd hd'
    exact hc
  cases es1 : sgn a <;> cases es2 : sgn b
  · refine fin _ _ ?_ (ways.elim (fun h => rdv_S_ff na nb sa sb a b w ha hb h1 h2 h0 es1 es2 h.1 h.2) (fun h => rdv_L_ff na nb sa sb a b w ha hb h1 h2 h0 es1 es2 h))
    exact dsp_of (sgn_f es1) (sgn_f es2) (dsp_pp e hl)
  · by_cases hR : a.natAbs % b.natAbs = 0
    · refine fin _ _ ?_ (ways.elim (fun h => rdv_S_ft0 na nb sa sb a b w ha hb h1 h2 h0 es1 es2 hR h.1 h.2) (fun h => rdv_L_ft0 na nb sa sb a b w ha hb h1 h2 h0 es1 es2 hR h))
      exact dsp_of (sgn_f es1) (sgn_t es2) (dsp_pn0 e hl hR)
    · refine fin _ _ ?_ (ways.elim (fun h => rdv_S_ft1 na nb sa sb a b w ha hb h1 h2 h0 es1 es2 hR h.1 h.2) (fun h => rdv_L_ft1 na nb sa sb a b w ha hb h1 h2 h0 es1 es2 hR h))
      exact dsp_of (sgn_f es1) (sgn_t es2) (dsp_pn1 e hl hR)
  · by_cases hR : a.natAbs % b.natAbs = 0
    · refine fin _ _ ?_ (ways.elim (fun h => rdv_S_tf0 na nb sa sb a b w ha hb h1 h2 h0 es1 es2 hR h.1 h.2) (fun h => rdv_L_tf0 na nb sa sb a b w ha hb h1 h2 h0 es1 es2 hR h))
      exact dsp_of (sgn_t es1) (sgn_f es2) (dsp_np0 e hl hR)
    · refine fin _ _ ?_ (ways.elim (fun h => rdv_S_tf1 na nb sa sb a b w ha hb h1 h2 h0 es1 es2 hR h.1 h.2) (fun h => rdv_L_tf1 na nb sa sb a b w ha hb h1 h2 h0 es1 es2 hR h))
      exact dsp_of (sgn_t es1) (sgn_f es2) (dsp_np1 e hl hR)
  · refine fin _ _ ?_ (ways.elim (fun h => rdv_S_tt na nb sa sb a b w ha hb h1 h2 h0 es1 es2 h.1 h.2) (fun h => rdv_L_tt na nb sa sb a b w ha hb h1 h2 h0 es1 es2 h))
    exact dsp_of (sgn_t es1) (sgn_t es2) (dsp_nn e hl)

end Go.Proofs.Gv
