/- The law RationalSimplest, joined (printed by gen02v.py). -/
import Derived.Test.YtamempcabmlodaaDoorRwsimple1P
import Derived.Test.YtamempcabmlodaaDoorRwsimple2
import Derived.Test.YtamempcabmlodaaDoorRwsimple3
import Derived.Test.YtamempcabmlodaaDoorRwsimple4
import Derived.Test.YtamempcabmlodaaDoorRwsimple5
import Derived.Test.YtamempcabmlodaaDoorRwsimple6
import Derived.Test.YtamempcabmlodaaDoorRwsimple7
import Derived.Test.YtamempcabmlodaaDoorRwsimple8
import Derived.Test.YtamempcabmlodaaDoorRwsimple9
import Derived.Test.YtamempcabmlodaaDoorRwsimple10
import Derived.Test.YtamempcabmlodaaDoorRwsimple11
import Derived.Test.YtamempcabmlodaaDoorRwsimple12
import Derived.Test.YtamempcabmlodaaDoorRwsimple13
set_option linter.unusedSimpArgs false
set_option linter.unusedVariables false
namespace Go.Proofs.Gv
open Go Go.RowKit

theorem Qb.simQ {N : Nat} {a b : Rat} (A : Qb N a) (B : Qb N b) (h : a ≤ b) : Qb N (simQ a b) := by
  unfold Gv.simQ
  by_cases h1 : b < 0
  · rw [if_pos h1]
    exact (Qb.simF (A.neg) (by grind) (by grind) (by rw [q_neg_den, q_neg_den]; omega)).neg
  · rw [if_neg h1]
    by_cases h2 : a ≤ 0
    · rw [if_pos h2]; exact Qb.zero.mono A.pos
    · rw [if_neg h2]; exact Qb.simF B (by grind) h (Nat.le_refl _)
theorem kfloor {x : Rat} {d : Int} (hd : 0 < d) : Rat.divInt (x * d).floor d ≤ x := by
  have hd0 : (d : Rat) ≠ 0 := by exact_mod_cast (show d ≠ 0 by omega)
  have hdp : (0 : Rat) < d := by exact_mod_cast hd
  have e : Rat.divInt (x * d).floor d * d = ((x * d).floor : Int) := by rw [Rat.divInt_eq_div, Rat.div_mul_cancel hd0]
  have f := Rat.floor_le (a := x * d)
  rcases Rat.le_total (a := Rat.divInt (x * d).floor d) (b := x) with h | h
  · exact h
  · by_cases he : Rat.divInt (x * d).floor d = x
    · rw [he]; exact Rat.le_refl
    · have := Rat.mul_lt_mul_of_pos_right (Rat.lt_of_le_of_ne h (Ne.symm he)) hdp
      rw [e] at this
      exact absurd f (Rat.not_le.2 this)
theorem cmpI_less {x y : Int} (h : x < y) : cmpI x y = -1 := by unfold cmpI; rw [if_pos h]
theorem cmpI_self' (x : Int) : cmpI x x = 0 := by unfold cmpI; rw [if_neg (by omega), if_neg (by omega)]
theorem cmpQ_lt1 {a b : Rat} (h : a < b) : cmpQ a b = -1 := by
  rcases cmpQ_cases' a b with ⟨_, h2⟩ | ⟨_, h2⟩ | ⟨e, _⟩
  · exact absurd h (Rat.not_lt.2 (Rat.le_of_lt h2))
  · exact absurd h (by rw [h2]; exact Rat.lt_irrefl)
  · exact e
theorem cmpQ_nle {a b : Rat} (h : ¬ a ≤ b) : decide (cmpQ a b ≤ 0) = false := by
  rw [cmpQ_one (Rat.not_le.1 h)]; rfl
theorem nden_of {r : Rat} {N : Nat} (Q : Qb N r) (hN : N ≤ 10000) (W : World) (h : (r.den : Int) ≤ 60) : Calls Tryd.prog 24 #[.int .i64 (r.den : Int)] W fun e w' => e = .returned (.agg #[.bool false, .string (mg r.den)]) ∧ Below W.heap.size W w' := by
  have := cOf (r.den : Int) (by omega) (by omega) W
  rwa [sgnQ_nat, Int.natAbs_natCast] at this
theorem nden_cmp {r : Rat} {N : Nat} (Q : Qb N r) (hN : N ≤ 10000) (W : World) : Calls Tryd.prog 23 #[.agg #[.bool false, .string (mg r.den)], .agg #[.bool false, .string (mg r.den)]] W fun e w' => e = .returned (.int .i64 0) ∧ Below W.heap.size W w' := by
  have := cCmp (rp_den Q (by omega)) (rp_den Q (by omega)) W
  rwa [cmpI_self'] at this
theorem d_cmp {r : Rat} {N : Nat} (Q : Qb N r) (hN : N ≤ 10000) {d : Int} (h1 : 1 ≤ d) (h2 : d ≤ 60) (h : d < r.den) (W : World) : Calls Tryd.prog 23 #[.agg #[.bool (sgn d), .string (mg d.natAbs)], .agg #[.bool false, .string (mg r.den)]] W fun e w' => e = .returned (.int .i64 (-1)) ∧ Below W.heap.size W w' := by
  have := cCmp (rp_of (z := d) (by omega) (by omega)) (rp_den Q (by omega)) W
  rwa [cmpI_less h] at this
theorem d_ratio {d : Int} (h1 : -40000 ≤ d) (h2 : d ≤ 40000) (W : World) : Calls Tryd.prog 18 #[.int .i64 d, .int .i64 1] W (RetQ W (d : Rat)) := by
  have := cRatio (x := d) (y := 1) (by omega) (by omega) (by decide) (by decide) (by decide) W
  rwa [divInt_1] at this
/-- no number with a lesser denominator -/
theorem d_less {lo hi r : Rat} (i3 : ∀ x, lo ≤ x → x ≤ hi → r.den ≤ x.den) {d : Int} (h1 : 1 ≤ d) (h : d < r.den) : Rat.divInt (hi * d).floor d < lo := by
  rcases Rat.le_total (a := lo) (b := Rat.divInt (hi * d).floor d) with hl | hl
  · have := i3 _ hl (kfloor (by omega))
    have := div_den_le (hi * d).floor d
    omega
  · refine Rat.lt_of_le_of_ne hl fun e => ?_
    have := i3 _ (by rw [e]; exact Rat.le_refl) (kfloor (by omega))
    have := div_den_le (hi * d).floor d
    omega

theorem simple_join0 (na ma : Bool) (sa ta : ByteArray) (nb mb : Bool) (sb tb : ByteArray) (hz : ∀ x ∈ ([(na, sa, ma, ta), (nb, sb, mb, tb)] : List (Bool × ByteArray × Bool × ByteArray)), x.2.1.size ≤ maxLen ∧ x.2.2.2.size ≤ maxLen) (hgr : grQ 4 [(na, sa, ma, ta), (nb, sb, mb, tb)] = false) (h0 : Int) (hh : -32768 ≤ h0 ∧ h0 ≤ 32767)
    {a b : Rat} {N : Nat} (RA : Rq na sa ma ta a) (RB : Rq nb sb mb tb b) (A : Qb N a) (B : Qb N b) (hN : N ≤ 100) (hab : a ≤ b) (w : World) :
    Calls Tryd.prog 7 #[.agg #[.bool na, .string sa, .bool ma, .string ta], .agg #[.bool nb, .string sb, .bool mb, .string tb], .int .i16 h0] w fun e w' => e = .returned (.bool true) ∧ Below w.heap.size w w' := by
  have hc0 : decide ((0 : Int) < cmpQ a b) = false := by rw [cmpQ_gt0]; exact decide_eq_false (Rat.not_lt.2 hab)
  have C0 := fun W => cQCmp RA RB W
  have S := fun W => cQSim RA RB A B (by omega) hab W
  have QR := Qb.simQ A B hab
  obtain ⟨i1, i2, i3, i4⟩ := simQ_spec hab
  have SH := fun h1 => simQ_shift h0 hab h1
  obtain ⟨r, hr⟩ : ∃ r, simQ a b = r := ⟨_, rfl⟩
  rw [hr] at S QR i1 i2 i3 i4 SH
  have RR := QR.rq (by omega)
  have C1 := fun W => cQCmp RA RR W
  have C2 := fun W => cQCmp RR RB W
  have hc1 : decide ((0 : Int) < cmpQ a r) = false := by rw [cmpQ_gt0]; exact decide_eq_false (Rat.not_lt.2 i1)
  have hc2 : decide ((0 : Int) < cmpQ r b) = false := by rw [cmpQ_gt0]; exact decide_eq_false (Rat.not_lt.2 i2)
  have K := fun W => cQCheckV QR (by omega) W
  have RO := Qb.one.rq (by decide)
  have RZ := Qb.zero.rq (by decide)
  by_cases hd : r.den = 1
  · have O1 : ∀ W, Calls Tryd.prog 24 #[.int .i64 1] W fun e w' => e = .returned (.agg #[.bool false, .string (mg r.den)]) ∧ Below W.heap.size W w' := fun W => by rw [hd]; exact cOne W
    have O2 := fun W => nden_cmp QR (by omega) W
    have SB := fun W => cQSub RR RO W
    have RS := (QR.sub Qb.one).rq (by omega)
    have CZ := fun W => cQCmp RR RZ W
    have C3 := fun W => cQCmp RA RS W
    have C4 := fun W => cQCmp RS RB W
    rcases cmpQ_cases' r 0 with ⟨e, hp⟩ | ⟨e, hp⟩ | ⟨e, hp⟩
    · rw [e] at CZ
      exact simple_s0_p na ma sa ta nb mb sb tb hz hgr h0 hh _ hc0 _ _ hc1 hc2 _ _ _ _ (cmpQ_nle ((i4 hd).2 hp)) w C0 S C1 C2 K O1 O2 cR01 cR11 SB CZ C3 cAwake02
    · rw [e] at CZ
      by_cases h3 : a ≤ r - 1
      · exact simple_s0_zt na ma sa ta nb mb sb tb hz hgr h0 hh _ hc0 _ _ hc1 hc2 _ _ _ _ _ (cmpQ_le2 h3) (cmpQ_le2 (by grind)) w C0 S C1 C2 K O1 O2 cR01 cR11 SB CZ C3 C4 cAwake02
      · exact simple_s0_zf na ma sa ta nb mb sb tb hz hgr h0 hh _ hc0 _ _ hc1 hc2 _ _ _ _ (cmpQ_nle h3) w C0 S C1 C2 K O1 O2 cR01 cR11 SB CZ C3 cAwake02
    · rw [e] at CZ
      have AD := fun W => cQAdd RR RO W
      have RT := (QR.add Qb.one).rq (by omega)
      have C5 := fun W => cQCmp RA RT W
      have C6 := fun W => cQCmp RT RB W
      exact simple_s0_m na ma sa ta nb mb sb tb hz hgr h0 hh _ hc0 _ _ hc1 hc2 _ _ _ _ _ (cmpQ_le2 (by grind)) (cmpQ_nle ((i4 hd).1 hp)) w C0 S C1 C2 K O1 O2 cR01 cR11 SB CZ AD C5 C6 cAwake02
  · have hq : eqI false (mg r.den) false (mg 1) = false := by
      have := eqI_one (r.den : Int)
      rw [sgnQ_nat, Int.natAbs_natCast] at this
      rw [this]
      exact decide_eq_false (by omega)
    have I1 := fun W => d_ratio (d := h0) (by omega) (by omega) W
    have QI : Qb 20 (h0 : Rat) := Qb.int (by omega) (by decide)
    have RI := QI.rq (by omega)
    have V := fun W => cQAdd RA RI W
    have X := fun W => cQAdd RB RI W
    have QV := A.add QI
    have QX := B.add QI
    have S2 := fun W => cQSim (QV.rq (by omega)) (QX.rq (by omega)) QV QX (by omega) (by grind) W
    rw [SH hd] at S2
    have AD := fun W => cQAdd RR RI W
    have hpos := r.den_pos
    have hrd : ∀ d : Int, 1 ≤ d → d ≤ 60 → d < r.den → _ := fun d h1 h2 h3 => by
      have QD : Qb 20 (d : Rat) := Qb.int (by omega) (by decide)
      have RD := QD.rq (by omega)
      have QM := B.mul QD
      have J4 := fun W => cQMul RB RD W
      have J5 := fun W => cQFloor (QM.rq (by omega)) W
      have J6 := fun W => cQNew (rpV QM.floor (by omega)) (rp_of (z := d) (by omega) (by omega)) (show d ≠ 0 by omega) W
      have QK : Qb (N + 20 + 1) (Rat.divInt (b * d).floor d) := Qb.div (Nat.lt_of_lt_of_le QM.floor (Nat.pow_le_pow_right (by decide) (by omega))) (by have : (2 : Nat) ^ 20 ≤ 2 ^ (N + 20 + 1) := Nat.pow_le_pow_right (by decide) (by omega); omega) (by omega)
      have J7 := fun W => cQCmp (QK.rq (by omega)) RA W
      rw [cmpQ_lt1 (d_less i3 h1 h3)] at J7
      exact And.intro (fun W => cOf d (by omega) (by omega) W) (And.intro (fun W => d_cmp QR (by omega) h1 h2 h3 W) (And.intro (fun W => d_ratio (d := d) (by omega) (by omega) W) (And.intro J4 (And.intro J5 (And.intro J6 J7)))))
    by_cases hm : (r.den : Int) ≤ 60
    · refine simple_s0_den na ma sa ta nb mb sb tb hz hgr h0 hh _ hc0 _ _ hc1 hc2 _ _ _ (r.den : Int) (by omega) hm (fun d h1 h2 h3 => ⟨_, _, _, _, _, _, _, _, _, _, _, _, _, _, _, _, _, hrd d h1 h2 h3⟩) _ (fun W => nden_of QR (by omega) W hm) (fun W => nden_cmp QR (by omega) W) _ _ hq w C0 S C1 C2 K cOne I1 V X S2 AD cAwake02
    · refine simple_s0_max na ma sa ta nb mb sb tb hz hgr h0 hh _ hc0 _ _ hc1 hc2 _ _ _ (fun d h1 h2 h3 => ⟨_, _, _, _, _, _, _, _, _, _, _, _, _, _, _, _, _, hrd d h1 h2 (by omega)⟩) _ _ hq w C0 S C1 C2 K cOne I1 V X S2 AD cAwake02

theorem simple_join1 (na ma : Bool) (sa ta : ByteArray) (nb mb : Bool) (sb tb : ByteArray) (hz : ∀ x ∈ ([(na, sa, ma, ta), (nb, sb, mb, tb)] : List (Bool × ByteArray × Bool × ByteArray)), x.2.1.size ≤ maxLen ∧ x.2.2.2.size ≤ maxLen) (hgr : grQ 4 [(na, sa, ma, ta), (nb, sb, mb, tb)] = false) (h0 : Int) (hh : -32768 ≤ h0 ∧ h0 ≤ 32767)
    {a b : Rat} {N : Nat} (RA : Rq na sa ma ta a) (RB : Rq nb sb mb tb b) (A : Qb N a) (B : Qb N b) (hN : N ≤ 100) (hab : b ≤ a) (w : World) (hlt : b < a) :
    Calls Tryd.prog 7 #[.agg #[.bool na, .string sa, .bool ma, .string ta], .agg #[.bool nb, .string sb, .bool mb, .string tb], .int .i16 h0] w fun e w' => e = .returned (.bool true) ∧ Below w.heap.size w w' := by
  have C0 := fun W => cQCmp RA RB W
  rw [cmpQ_one hlt] at C0
  have S := fun W => cQSim RB RA B A (by omega) hab W
  have QR := Qb.simQ B A hab
  obtain ⟨i1, i2, i3, i4⟩ := simQ_spec hab
  have SH := fun h1 => simQ_shift h0 hab h1
  obtain ⟨r, hr⟩ : ∃ r, simQ b a = r := ⟨_, rfl⟩
  rw [hr] at S QR i1 i2 i3 i4 SH
  have RR := QR.rq (by omega)
  have C1 := fun W => cQCmp RB RR W
  have C2 := fun W => cQCmp RR RA W
  have hc1 : decide ((0 : Int) < cmpQ b r) = false := by rw [cmpQ_gt0]; exact decide_eq_false (Rat.not_lt.2 i1)
  have hc2 : decide ((0 : Int) < cmpQ r a) = false := by rw [cmpQ_gt0]; exact decide_eq_false (Rat.not_lt.2 i2)
  have K := fun W => cQCheckV QR (by omega) W
  have RO := Qb.one.rq (by decide)
  have RZ := Qb.zero.rq (by decide)
  by_cases hd : r.den = 1
  · have O1 : ∀ W, Calls Tryd.prog 24 #[.int .i64 1] W fun e w' => e = .returned (.agg #[.bool false, .string (mg r.den)]) ∧ Below W.heap.size W w' := fun W => by rw [hd]; exact cOne W
    have O2 := fun W => nden_cmp QR (by omega) W
    have SB := fun W => cQSub RR RO W
    have RS := (QR.sub Qb.one).rq (by omega)
    have CZ := fun W => cQCmp RR RZ W
    have C3 := fun W => cQCmp RB RS W
    have C4 := fun W => cQCmp RS RA W
    rcases cmpQ_cases' r 0 with ⟨e, hp⟩ | ⟨e, hp⟩ | ⟨e, hp⟩
    · rw [e] at CZ
      exact simple_s1_p na ma sa ta nb mb sb tb hz hgr h0 hh _ _ hc1 hc2 _ _ _ _ (cmpQ_nle ((i4 hd).2 hp)) w C0 S C1 C2 K O1 O2 cR01 cR11 SB CZ C3 cAwake02
    · rw [e] at CZ
      by_cases h3 : b ≤ r - 1
      · exact simple_s1_zt na ma sa ta nb mb sb tb hz hgr h0 hh _ _ hc1 hc2 _ _ _ _ _ (cmpQ_le2 h3) (cmpQ_le2 (by grind)) w C0 S C1 C2 K O1 O2 cR01 cR11 SB CZ C3 C4 cAwake02
      · exact simple_s1_zf na ma sa ta nb mb sb tb hz hgr h0 hh _ _ hc1 hc2 _ _ _ _ (cmpQ_nle h3) w C0 S C1 C2 K O1 O2 cR01 cR11 SB CZ C3 cAwake02
    · rw [e] at CZ
      have AD := fun W => cQAdd RR RO W
      have RT := (QR.add Qb.one).rq (by omega)
      have C5 := fun W => cQCmp RB RT W
      have C6 := fun W => cQCmp RT RA W
      exact simple_s1_m na ma sa ta nb mb sb tb hz hgr h0 hh _ _ hc1 hc2 _ _ _ _ _ (cmpQ_le2 (by grind)) (cmpQ_nle ((i4 hd).1 hp)) w C0 S C1 C2 K O1 O2 cR01 cR11 SB CZ AD C5 C6 cAwake02
  · have hq : eqI false (mg r.den) false (mg 1) = false := by
      have := eqI_one (r.den : Int)
      rw [sgnQ_nat, Int.natAbs_natCast] at this
      rw [this]
      exact decide_eq_false (by omega)
    have I1 := fun W => d_ratio (d := h0) (by omega) (by omega) W
    have QI : Qb 20 (h0 : Rat) := Qb.int (by omega) (by decide)
    have RI := QI.rq (by omega)
    have V := fun W => cQAdd RB RI W
    have X := fun W => cQAdd RA RI W
    have QV := B.add QI
    have QX := A.add QI
    have S2 := fun W => cQSim (QV.rq (by omega)) (QX.rq (by omega)) QV QX (by omega) (by grind) W
    rw [SH hd] at S2
    have AD := fun W => cQAdd RR RI W
    have hpos := r.den_pos
    have hrd : ∀ d : Int, 1 ≤ d → d ≤ 60 → d < r.den → _ := fun d h1 h2 h3 => by
      have QD : Qb 20 (d : Rat) := Qb.int (by omega) (by decide)
      have RD := QD.rq (by omega)
      have QM := A.mul QD
      have J4 := fun W => cQMul RA RD W
      have J5 := fun W => cQFloor (QM.rq (by omega)) W
      have J6 := fun W => cQNew (rpV QM.floor (by omega)) (rp_of (z := d) (by omega) (by omega)) (show d ≠ 0 by omega) W
      have QK : Qb (N + 20 + 1) (Rat.divInt (a * d).floor d) := Qb.div (Nat.lt_of_lt_of_le QM.floor (Nat.pow_le_pow_right (by decide) (by omega))) (by have : (2 : Nat) ^ 20 ≤ 2 ^ (N + 20 + 1) := Nat.pow_le_pow_right (by decide) (by omega); omega) (by omega)
      have J7 := fun W => cQCmp (QK.rq (by omega)) RB W
      rw [cmpQ_lt1 (d_less i3 h1 h3)] at J7
      exact And.intro (fun W => cOf d (by omega) (by omega) W) (And.intro (fun W => d_cmp QR (by omega) h1 h2 h3 W) (And.intro (fun W => d_ratio (d := d) (by omega) (by omega) W) (And.intro J4 (And.intro J5 (And.intro J6 J7)))))
    by_cases hm : (r.den : Int) ≤ 60
    · refine simple_s1_den na ma sa ta nb mb sb tb hz hgr h0 hh _ _ hc1 hc2 _ _ _ (r.den : Int) (by omega) hm (fun d h1 h2 h3 => ⟨_, _, _, _, _, _, _, _, _, _, _, _, _, _, _, _, _, hrd d h1 h2 h3⟩) _ (fun W => nden_of QR (by omega) W hm) (fun W => nden_cmp QR (by omega) W) _ _ hq w C0 S C1 C2 K cOne I1 V X S2 AD cAwake02
    · refine simple_s1_max na ma sa ta nb mb sb tb hz hgr h0 hh _ _ hc1 hc2 _ _ _ (fun d h1 h2 h3 => ⟨_, _, _, _, _, _, _, _, _, _, _, _, _, _, _, _, _, hrd d h1 h2 (by omega)⟩) _ _ hq w C0 S C1 C2 K cOne I1 V X S2 AD cAwake02

theorem law_simplest (na ma : Bool) (sa ta : ByteArray) (nb mb : Bool) (sb tb : ByteArray) (h0 : Int) (w : World) (hs : sa.size ≤ maxLen) (ht : ta.size ≤ maxLen) (hs' : sb.size ≤ maxLen) (ht' : tb.size ≤ maxLen) (hn : (Lit.int .i16 h0).wf = true) :
    Calls Tryd.prog 7 #[.agg #[.bool na, .string sa, .bool ma, .string ta], .agg #[.bool nb, .string sb, .bool mb, .string tb], .int .i16 h0] w fun e w' => e = .returned (.bool true) ∧ Below w.heap.size w w' := by
  have hh := bounds_i16 hn
  have hz := hz_cons (na := na) (ma := ma) hs ht (hz1' (na := nb) (ma := mb) hs' ht')
  cases hgr : grQ 4 [(na, sa, ma, ta), (nb, sb, mb, tb)] with
  | true => exact simple_great na ma sa ta nb mb sb tb hz hgr h0 hh w cAwake02
  | false =>
    obtain ⟨h1, h2⟩ := grQ_false hgr (na, sa, ma, ta) (by simp)
    obtain ⟨h3, h4⟩ := grQ_false hgr (nb, sb, mb, tb) (by simp)
    obtain ⟨a, N, RA, A, hN⟩ := rq_small (n := na) (m := ma) 4 (by decide) h1 h2
    obtain ⟨b, M, RB, B, hM⟩ := rq_small (n := nb) (m := mb) 4 (by decide) h3 h4
    by_cases hab : a ≤ b
    · exact simple_join0 na ma sa ta nb mb sb tb hz hgr h0 hh RA RB (A.mono (show N ≤ 50 by omega)) (B.mono (show M ≤ 50 by omega)) (by decide) hab w
    · exact simple_join1 na ma sa ta nb mb sb tb hz hgr h0 hh RA RB (A.mono (show N ≤ 50 by omega)) (B.mono (show M ≤ 50 by omega)) (by decide) (Rat.le_of_lt (Rat.not_le.1 hab)) w (Rat.not_le.1 hab)
end Go.Proofs.Gv
