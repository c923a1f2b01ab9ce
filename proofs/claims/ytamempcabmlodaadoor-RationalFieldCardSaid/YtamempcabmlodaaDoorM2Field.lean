/- The law RationalField, joined. -/
import Derived.Test.YtamempcabmlodaaDoorRwfield1P
import Derived.Test.YtamempcabmlodaaDoorRwfield2
import Derived.Test.YtamempcabmlodaaDoorRwfield3
set_option linter.unusedSimpArgs false
set_option linter.unusedVariables false
namespace Go.Proofs.Gv
open Go Go.RowKit

theorem law_field (na ma : Bool) (sa ta : ByteArray) (nb mb : Bool) (sb tb : ByteArray) (nc mc : Bool) (sc tc : ByteArray) (w : World) (hs : sa.size ≤ maxLen) (ht : ta.size ≤ maxLen) (hs' : sb.size ≤ maxLen) (ht' : tb.size ≤ maxLen) (hs'' : sc.size ≤ maxLen) (ht'' : tc.size ≤ maxLen) :
    Calls Tryd.prog 4 #[.agg #[.bool na, .string sa, .bool ma, .string ta], .agg #[.bool nb, .string sb, .bool mb, .string tb], .agg #[.bool nc, .string sc, .bool mc, .string tc]] w fun e w' => e = .returned (.bool true) ∧ Below w.heap.size w w' := by
  have hz := hz_cons (na := na) (ma := ma) hs ht (hz_cons (na := nb) (ma := mb) hs' ht' (hz1' (na := nc) (ma := mc) hs'' ht''))
  cases hgr : grQ 24 [(na, sa, ma, ta), (nb, sb, mb, tb), (nc, sc, mc, tc)] with
  | true => exact field_great na ma sa ta nb mb sb tb nc mc sc tc hz hgr w cAwake02
  | false =>
    obtain ⟨h1, h2⟩ := grQ_false hgr (na, sa, ma, ta) (by simp)
    obtain ⟨h3, h4⟩ := grQ_false hgr (nb, sb, mb, tb) (by simp)
    obtain ⟨h5, h6⟩ := grQ_false hgr (nc, sc, mc, tc) (by simp)
    obtain ⟨a, N, RA, A, hN⟩ := rq_small (n := na) (m := ma) 24 (by decide) h1 h2
    obtain ⟨b, M, RB, B, hM⟩ := rq_small (n := nb) (m := mb) 24 (by decide) h3 h4
    obtain ⟨c, K, RC, C, hK⟩ := rq_small (n := nc) (m := mc) 24 (by decide) h5 h6
    have RZ := Qb.zero.rq (by decide)
    have RO := Qb.one.rq (by decide)
    have W0 := fun W => cQAdd RA RZ W
    rw [show a + 0 = a by grind] at W0
    have X1 := fun W => cQAdd RA RB W
    have X2 := fun W => cQAdd RB RA W
    rw [Rat.add_comm b a] at X2
    have P1 := fun W => cQMul RA RB W
    have P2 := fun W => cQMul RB RA W
    rw [Rat.mul_comm b a] at P2
    have Y1 := fun W => cQAdd ((A.add B).rq (by omega)) RC W
    have V1 := fun W => cQAdd RB RC W
    have Y2 := fun W => cQAdd RA ((B.add C).rq (by omega)) W
    rw [← Rat.add_assoc] at Y2
    have Q1 := fun W => cQMul ((A.mul B).rq (by omega)) RC W
    have R1 := fun W => cQMul RB RC W
    have Q2 := fun W => cQMul RA ((B.mul C).rq (by omega)) W
    rw [← Rat.mul_assoc] at Q2
    have U1 := fun W => cQMul RA ((B.add C).rq (by omega)) W
    have S1 := fun W => cQMul RA RC W
    have U2 := fun W => cQAdd ((A.mul B).rq (by omega)) ((A.mul C).rq (by omega)) W
    rw [← Rat.mul_add] at U2
    have E1 := fun W => cQSub RA RB W
    have W1 := fun W => cQAdd ((A.sub B).rq (by omega)) RB W
    rw [show a - b + b = a by grind] at W1
    have G1 := fun W => cQNeg RA W
    have Z1 := fun W => cQAdd RA (A.neg.rq (by omega)) W
    rw [show a + -a = 0 by grind] at Z1
    have W2 := fun W => cQMul RA RO W
    rw [Rat.mul_one] at W2
    by_cases h0 : b = 0
    · have RB0 := RB
      rw [h0] at RB0
      have CB := fun W => cQCmp RB RZ W
      rw [h0, cmpQ_self] at CB
      exact field_zero na ma sa ta nb mb sb tb nc mc sc tc hz hgr w cR01 W0 X1 X2 P1 P2 Y1 V1 Y2 Q1 R1 Q2 U1 S1 U2 E1 W1 G1 Z1 cR11 W2 (cQQuo0 RB0) CB cAwake02
    · have H1 := fun W => cQQuo RA RB h0 W
      have W3 := fun W => cQMul ((A.quo B).rq (by omega)) RB W
      rw [show a / b * b = a from Rat.div_mul_cancel h0] at W3
      have CB := fun W => cQCmp RB RZ W
      have hne : (cmpQ b 0 == 0) = false := by
        rcases cmpQ_cases' b 0 with ⟨e, _⟩ | ⟨_, e⟩ | ⟨e, _⟩
        · rw [e]; rfl
        · exact absurd e h0
        · rw [e]; rfl
      exact field_law na ma sa ta nb mb sb tb nc mc sc tc hz hgr _ hne w cR01 W0 X1 X2 P1 P2 Y1 V1 Y2 Q1 R1 Q2 U1 S1 U2 E1 W1 G1 Z1 cR11 W2 H1 CB W3 cAwake02
end Go.Proofs.Gv
