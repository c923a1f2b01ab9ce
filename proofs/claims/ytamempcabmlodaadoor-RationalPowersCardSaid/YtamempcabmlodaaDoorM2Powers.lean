/- The law RationalPowers, joined. -/
import Derived.Test.YtamempcabmlodaaDoorRwpowers1P
import Derived.Test.YtamempcabmlodaaDoorRwpowers4P
import Derived.Test.YtamempcabmlodaaDoorRwpowers5
set_option linter.unusedSimpArgs false
set_option linter.unusedVariables false
namespace Go.Proofs.Gv
open Go Go.RowKit

theorem law_powers (na ma : Bool) (sa ta : ByteArray) (nb mb : Bool) (sb tb : ByteArray) (n0 m0 : Int) (w : World) (hs : sa.size ≤ maxLen) (ht : ta.size ≤ maxLen) (hs' : sb.size ≤ maxLen) (ht' : tb.size ≤ maxLen) (hn : (Lit.int .u8 n0).wf = true) (hm : (Lit.int .u8 m0).wf = true) :
    Calls Tryd.prog 9 #[.agg #[.bool na, .string sa, .bool ma, .string ta], .agg #[.bool nb, .string sb, .bool mb, .string tb], .int .u8 n0, .int .u8 m0] w fun e w' => e = .returned (.bool true) ∧ Below w.heap.size w w' := by
  have hn0 := bounds_u8 hn
  have hm0 := bounds_u8 hm
  by_cases h1 : 8 < sa.size
  · exact powers_great0 na ma sa ta nb mb sb tb n0 m0 hn0 hm0 (by omega) w cAwake02
  have h1' : decide ((8 : Int) < sa.size) = false := decide_eq_false (by omega)
  by_cases h2 : 8 < ta.size
  · exact powers_great1 na ma sa ta nb mb sb tb n0 m0 hn0 hm0 h1' (by omega) w cAwake02
  have h2' : decide ((8 : Int) < ta.size) = false := decide_eq_false (by omega)
  by_cases h3 : 8 < sb.size
  · exact powers_great2 na ma sa ta nb mb sb tb n0 m0 hn0 hm0 h1' h2' (by omega) w cAwake02
  have h3' : decide ((8 : Int) < sb.size) = false := decide_eq_false (by omega)
  by_cases h4 : 8 < tb.size
  · exact powers_great3 na ma sa ta nb mb sb tb n0 m0 hn0 hm0 h1' h2' h3' (by omega) w cAwake02
  have h4' : decide ((8 : Int) < tb.size) = false := decide_eq_false (by omega)
  obtain ⟨a, N, RA, A, hN⟩ := rq_small (n := na) (m := ma) 8 (by decide) (show sa.size ≤ 8 by omega) (show ta.size ≤ 8 by omega)
  obtain ⟨b, M, RB, B, hM⟩ := rq_small (n := nb) (m := mb) 8 (by decide) (show sb.size ≤ 8 by omega) (show tb.size ≤ 8 by omega)
  obtain ⟨i, hi⟩ : ∃ i : Nat, n0 % 21 = i := ⟨(n0 % 21).toNat, by omega⟩
  obtain ⟨j, hj⟩ : ∃ j : Nat, m0 % 21 = j := ⟨(m0 % 21).toNat, by omega⟩
  have hi20 : i ≤ 20 := by omega
  have hj20 : j ≤ 20 := by omega
  have bnd : ∀ k L : Nat, k ≤ 40 → L ≤ 160 → k * L ≤ 6400 := fun k L h h' => Nat.mul_le_mul h h'
  have X := fun W => cQPow RA A i (by omega) (by have := bnd i N (by omega) (by omega); omega) W
  have Y := fun W => cQPow RA A j (by omega) (by have := bnd j N (by omega) (by omega); omega) W
  have Z := fun W => cQPow RA A (i + j) (by omega) (by have := bnd (i + j) N (by omega) (by omega); omega) W
  have U := fun W => cQPow RB B i (by omega) (by have := bnd i M (by omega) (by omega); omega) W
  have AB := fun W => cQMul RA RB W
  have D := A.mul B
  have V := fun W => cQPow (D.rq (by omega)) D i (by omega) (by have := bnd i (N + M) (by omega) (by omega); omega) W
  have qi := A.pow i
  have qj := A.pow j
  have qu := B.pow i
  have bi := bnd i N (by omega) (by omega)
  have bj := bnd j N (by omega) (by omega)
  have bu := bnd i M (by omega) (by omega)
  rw [Nat.mul_comm] at bi bj bu
  have P1 := fun W => cQMul (qi.rq (by omega)) (qj.rq (by omega)) W
  have P2 := fun W => cQMul (qi.rq (by omega)) (qu.rq (by omega)) W
  rw [← q_pow_add] at P1
  rw [← q_mul_pow] at P2
  rw [Int.natCast_add] at Z
  rw [← hi] at X Z U V
  rw [← hj] at Y Z
  exact powers_law na ma sa ta nb mb sb tb n0 m0 hn0 hm0 h1' h2' h3' h4' w X Y Z U AB V P1 P2 cAwake02
end Go.Proofs.Gv
