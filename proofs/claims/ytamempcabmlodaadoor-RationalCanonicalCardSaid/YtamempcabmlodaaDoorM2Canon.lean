/- The law RationalCanonical, joined. -/
import Derived.Test.YtamempcabmlodaaDoorM2OrderP
import Derived.Test.YtamempcabmlodaaDoorRwcanon2P
import Derived.Test.YtamempcabmlodaaDoorRwcanon3
import Derived.Test.YtamempcabmlodaaDoorRwcanon4
import Derived.Test.YtamempcabmlodaaDoorRwcanon5
set_option linter.unusedSimpArgs false
set_option linter.unusedVariables false
namespace Go.Proofs.Gv
open Go Go.RowKit

theorem cZeroI (W : World) : Calls Tryd.prog 24 #[.int .i64 0] W fun e w' => e = .returned (.agg #[.bool false, .string ⟨#[]⟩]) ∧ Below W.heap.size W w' := by
  have := cOf 0 (by decide) (by decide) W
  rwa [show mg (0 : Int).natAbs = ⟨#[]⟩ from mg_zero] at this
theorem den_cmp {q : Rat} {N : Nat} (Q : Qb N q) (hN : N ≤ 10000) (W : World) :
    Calls Tryd.prog 23 #[.agg #[.bool false, .string (mg q.den)], .agg #[.bool false, .string ⟨#[]⟩]] W fun e w' => e = .returned (.int .i64 1) ∧ Below W.heap.size W w' := by
  have h := cCmp (rpV Q.den (by omega)) Rp.zero W
  rw [cmpI_pos (by have := q.den_pos; omega), sgnQ_nat] at h
  exact h
theorem num_den_gcd {q : Rat} {N : Nat} (Q : Qb N q) (hN : N ≤ 10000) (W : World) :
    Calls Tryd.prog 25 #[.agg #[.bool (sgn q.num), .string (mg q.num.natAbs)], .agg #[.bool false, .string (mg q.den)]] W fun e w' => e = .returned (.agg #[.bool false, .string (mg 1)]) ∧ Below W.heap.size W w' := by
  have h := cGcdQ (rpV Q.num (by omega)) (rpV Q.den (by omega)) W
  rw [sgnQ_nat, Int.natAbs_natCast] at h
  have e : Nat.gcd q.num.natAbs q.den = 1 := q.reduced
  rw [e] at h
  exact h
theorem law_canonical (na ma : Bool) (sa ta : ByteArray) (nb mb : Bool) (sb tb : ByteArray) (nk : Bool) (sk : ByteArray) (w : World) (hs : sa.size ≤ maxLen) (ht : ta.size ≤ maxLen) (hs' : sb.size ≤ maxLen) (ht' : tb.size ≤ maxLen) (hk : sk.size ≤ maxLen) :
    Calls Tryd.prog 6 #[.agg #[.bool na, .string sa, .bool ma, .string ta], .agg #[.bool nb, .string sb, .bool mb, .string tb], .agg #[.bool nk, .string sk]] w fun e w' => e = .returned (.bool true) ∧ Below w.heap.size w w' := by
  have hz := hz_cons (na := na) (ma := ma) hs ht (hz1' (na := nb) (ma := mb) hs' ht')
  cases hgr : grQ 24 [(na, sa, ma, ta), (nb, sb, mb, tb)] with
  | true => exact canon_great na ma sa ta nb mb sb tb hz hgr nk sk w cAwake02
  | false =>
    by_cases hk8 : 8 < sk.size
    · exact canon_kgreat na ma sa ta nb mb sb tb hz hgr nk sk (by omega) w cAwake02
    have hk8' : decide ((8 : Int) < sk.size) = false := decide_eq_false (by omega)
    obtain ⟨h1, h2⟩ := grQ_false hgr (na, sa, ma, ta) (by simp)
    obtain ⟨h3, h4⟩ := grQ_false hgr (nb, sb, mb, tb) (by simp)
    have hsa : sa.size ≤ 24 := h1
    have hta : ta.size ≤ 24 := h2
    have RA : Rq na sa ma ta (Rat.divInt (iv na sa) (iv ma ta)) := ⟨rfl, by omega, by omega⟩
    have A := RA.qb (k := 25) (by omega) (by omega) (by omega)
    obtain ⟨b, M, RB, B, hM⟩ := rq_small (n := nb) (m := mb) 24 (by decide) h3 h4
    have KN : Rp na sa (iv na sa) := ⟨rfl, by omega⟩
    have KD : Rp ma ta (iv ma ta) := ⟨rfl, by omega⟩
    have KK : Rp nk sk (iv nk sk) := ⟨rfl, by omega⟩
    obtain ⟨x, hx⟩ : ∃ x, iv na sa = x := ⟨_, rfl⟩
    obtain ⟨y, hy⟩ : ∃ y, iv ma ta = y := ⟨_, rfl⟩
    obtain ⟨z, hzz⟩ : ∃ z, iv nk sk = z := ⟨_, rfl⟩
    rw [hx] at KN
    rw [hy] at KD
    rw [hzz] at KK
    rw [hx, hy] at RA A
    obtain ⟨a, ha⟩ : ∃ a, Rat.divInt x y = a := ⟨_, rfl⟩
    rw [ha] at RA A
    have bx := KN.lt (k := 25) (by omega)
    have by' := KD.lt (k := 25) (by omega)
    have bz := KK.lt (k := 8) (by omega)
    have Q1 := A.add B
    have Q2 := A.mul B
    have Q3 := A.neg
    have Q4 : Qb (8 * 8) (z : Rat) := Qb.int bz (by decide)
    have H1 := fun W => cQAdd RA RB W
    have H2 := fun W => cQMul RA RB W
    have H3 := fun W => cQNeg RA W
    have H4 := fun W => cQOf KK W
    have D1 := fun W => den_cmp Q1 (by omega) W
    have D2 := fun W => den_cmp Q2 (by omega) W
    have D3 := fun W => den_cmp Q3 (by omega) W
    have D4 := fun W => den_cmp Q4 (by omega) W
    have G1 := fun W => num_den_gcd Q1 (by omega) W
    have G2 := fun W => num_den_gcd Q2 (by omega) W
    have G3 := fun W => num_den_gcd Q3 (by omega) W
    have G4 := fun W => num_den_gcd Q4 (by omega) W
    have E1 := fun W => cQCheckV Q1 (by omega) W
    have E2 := fun W => cQCheckV Q2 (by omega) W
    have E3 := fun W => cQCheckV Q3 (by omega) W
    have E4 := fun W => cQCheckV Q4 (by omega) W
    have CK := fun W => cCmp KK Rp.zero W
    by_cases hz0 : z = 0
    · rw [hz0, cmpI_zero] at CK
      exact canon_k0 na ma sa ta nb mb sb tb hz hgr nk sk hk8' w H1 H2 H3 H4 E1 cZeroI D1 G1 cOne E2 D2 G2 E3 D3 G3 E4 D4 G4 CK cAwake02
    have CD := fun W => cCmp KD Rp.zero W
    by_cases hy0 : y = 0
    · rw [hy0, cmpI_zero] at CD
      exact canon_d0 na ma sa ta nb mb sb tb hz hgr nk sk hk8' _ (cmpI_ne hz0) w H1 H2 H3 H4 E1 cZeroI D1 G1 cOne E2 D2 G2 E3 D3 G3 E4 D4 G4 CK CD cAwake02
    have M1 := fun W => cMul KN KK W
    have M2 := fun W => cMul KD KK W
    have RC : Rq (sgn (x * z)) (mg (x * z).natAbs) (sgn (y * z)) (mg (y * z).natAbs) a :=
      ⟨by rw [iv_V, iv_V, Rat.divInt_mul_right hz0, ha], mgB (imul_bits bx bz) (by omega), mgB (imul_bits by' bz) (by omega)⟩
    have A2 := fun W => cQAdd RC RB W
    have CC := fun W => cQCmp RA RC W
    rw [cmpQ_self] at CC
    exact canon_law na ma sa ta nb mb sb tb hz hgr nk sk hk8' _ (cmpI_ne hz0) _ (cmpI_ne hy0) _ w H1 H2 H3 H4 E1 cZeroI D1 G1 cOne E2 D2 G2 E3 D3 G3 E4 D4 G4 CK CD M1 M2 A2 CC (cQPrint RA) (cQPrint RC) cAwake02
end Go.Proofs.Gv
