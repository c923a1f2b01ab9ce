/- Layer 02: the contracts of the reference implementation, said of numbers. -/
import Derived.Test.YtamempcabmlodaaGreatDoorRatJ3P
import Derived.Test.YtamempcabmlodaaGreatDoorRwref3P
import Derived.Test.YtamempcabmlodaaGreatDoorRefMulI
import Derived.Test.YtamempcabmlodaaGreatDoorRefAdd
import Derived.Test.YtamempcabmlodaaGreatDoorRwref8P
import Derived.Test.YtamempcabmlodaaGreatDoorRwref12P
import Derived.Test.YtamempcabmlodaaGreatDoorRwref15P
import Derived.Test.YtamempcabmlodaaGreatDoorRwref17P
import Derived.Test.YtamempcabmlodaaGreatDoorRwref21P
import Derived.Test.YtamempcabmlodaaGreatDoorRatTabP
import Derived.Test.YtamempcabmlodaaGreatDoorM2FloorP
set_option linter.unusedSimpArgs false
set_option linter.unusedVariables false
namespace Go.Proofs.Gv
open Go Go.RowKit

/-- A number's cells, of few bytes. -/
theorem rpSz {z : Int} {N : Nat} (h : z.natAbs < 2 ^ N) (hN : N ≤ 600000) : (mg z.natAbs).size ≤ 80000 :=
  Nat.le_trans (szB ((N + 7) / 8) (Nat.lt_of_lt_of_le h (Nat.pow_le_pow_right (by decide) (by omega)))) (by omega)
theorem rpSn {x N : Nat} (h : x < 2 ^ N) (hN : N ≤ 600000) : (mg x).size ≤ 80000 := by have := rpSz (z := (x : Int)) (N := N) (by simpa using h) hN; simpa using this
section
variable {na nb : Bool} {sa sb : ByteArray} {a b : Int}
theorem rrOne (W : World) : Calls Tryz.prog 44 #[.int .i64 1] W fun e w' => e = .returned (.agg #[.bool false, .string (mg 1)]) ∧ Below W.heap.size W w' := rOf_any 1 W (by decide) (by decide)
theorem rrOne2 (W : World) : Calls Tryz.prog 49 #[] W fun e w' => e = .returned (.agg #[.bool false, .string (mg 1)]) ∧ Below W.heap.size W w' := rone_w W rrOne
theorem rrSign (ha : Rp na sa a) (W : World) : Calls Tryz.prog 42 #[.agg #[.bool na, .string sa]] W fun e w' => e = .returned (.int .i64 (cmpI a 0)) ∧ Below W.heap.size W w' :=
  rsign_w W (fun W => rCompare_any _ _ _ _ _ _ W ha Rp.zero)
theorem rrNeg (ha : Rp na sa a) (W : World) : Calls Tryz.prog 52 #[.agg #[.bool na, .string sa]] W fun e w' => e = .returned (.agg #[.bool (sgn (-a)), .string (mg (-a).natAbs)]) ∧ Below W.heap.size W w' := by
  have := rneg_any na sa W ha.sz
  rw [ha.val] at this
  exact this
theorem rrGcd (ha : Rp na sa a) (hb : Rp nb sb b) (h1 : sa.size ≤ 80000) (h2 : sb.size ≤ 80000) (W : World) :
    Calls Tryz.prog 70 #[.agg #[.bool na, .string sa], .agg #[.bool nb, .string sb]] W fun e w' => e = .returned (.agg #[.bool false, .string (mg (Nat.gcd a.natAbs b.natAbs))]) ∧ Below W.heap.size W w' := by
  have := rGcd_any na nb sa sb W (by omega) (by omega)
  unfold RetI at this
  rwa [← ha.abs, ← hb.abs, sgnQ_nat, Int.natAbs_natCast] at this
theorem rrDiv {q r : Int} (ha : Rp na sa a) (hb : Rp nb sb b) (h1 : sa.size ≤ 80000) (h2 : sb.size ≤ 80000) (hd : DivSpec a b q r) (h0 : b ≠ 0) (W : World) :
    Calls Tryz.prog 55 #[.agg #[.bool na, .string sa], .agg #[.bool nb, .string sb]] W fun e w' => e = .returned (.tuple #[.agg #[.bool (sgn q), .string (mg q.natAbs)], .agg #[.bool (sgn r), .string (mg r.natAbs)], .int .i64 0]) ∧ Below W.heap.size W w' :=
  rDiv_any na nb sa sb a b q r W ha hb (by omega) (by omega) (by omega) hd
theorem rrMul (ha : Rp na sa a) (hb : Rp nb sb b) (h1 : sa.size ≤ 80000) (h2 : sb.size ≤ 80000) (W : World) :
    Calls Tryz.prog 48 #[.agg #[.bool na, .string sa], .agg #[.bool nb, .string sb]] W fun e w' => e = .returned (.agg #[.bool (sgn (a * b)), .string (mg (a * b).natAbs)]) ∧ Below W.heap.size W w' :=
  rMul_any na nb sa sb a b W ha hb (by omega) (by omega)
theorem rrAdd (ha : Rp na sa a) (hb : Rp nb sb b) (h1 : sa.size ≤ 80000) (h2 : sb.size ≤ 80000) (W : World) :
    Calls Tryz.prog 50 #[.agg #[.bool na, .string sa], .agg #[.bool nb, .string sb]] W fun e w' => e = .returned (.agg #[.bool (sgn (a + b)), .string (mg (a + b).natAbs)]) ∧ Below W.heap.size W w' :=
  rAdd_any na nb sa sb a b W ha hb (by omega) (by omega)
theorem size_le {n : Bool} {s : ByteArray} {a z : Int} (h : Rp n s a) {k : Nat} (hs : s.size ≤ k) (hz : z.natAbs ≤ a.natAbs) : (mg z.natAbs).size ≤ k := by
  refine Nat.le_trans (size_mg ?_) hs
  have h1 := iv_lt n s
  rw [h.val] at h1
  omega
theorem size_len {n : Bool} {s : ByteArray} {a : Int} {x : Nat} (h : Rp n s a) {k : Nat} (hs : s.size ≤ k) (hz : x ≤ a.natAbs) : (mg x).size ≤ k := by
  have := size_le (z := (x : Int)) h hs (by simpa using hz)
  simpa using this
theorem rrLow (ha : Rp na sa a) (hb : Rp nb sb b) (h1 : sa.size ≤ 80000) (h2 : sb.size ≤ 80000) (h0 : b ≠ 0) (W : World) :
    Calls Tryz.prog 43 #[.agg #[.bool na, .string sa], .agg #[.bool nb, .string sb]] W (RetQ W (Rat.divInt a b)) := by
  have C1 := rrSign hb
  rcases Int.lt_or_gt_of_ne h0 with h | h
  · rw [cmpI_neg h] at C1
    have N1 := rrNeg ha
    have N2 := rrNeg hb
    have ha' : Rp (sgn (-a)) (mg (-a).natAbs) (-a) := ha.le (by omega)
    have hb' : Rp (sgn (-b)) (mg (-b).natAbs) (-b) := hb.le (by omega)
    have sa' := size_le (z := -a) ha h1 (by omega)
    have sb' := size_le (z := -b) hb h2 (by omega)
    have hgl : Nat.gcd (-a).natAbs (-b).natAbs ≤ b.natAbs := by have := Nat.gcd_le_right (-a).natAbs (show 0 < (-b).natAbs by omega); omega
    have hg : 0 < Nat.gcd (-a).natAbs (-b).natAbs := Nat.gcd_pos_of_pos_right _ (by omega)
    have G := rrGcd ha' hb' sa' sb'
    have hg' := rp_nat hb hgl
    have sg' := size_len hb h2 hgl
    have D1 := rrDiv ha' hg' sa' sg' (low_num (n := -a) (d := -b) (by omega)) (by omega)
    have D2 := rrDiv hb' hg' sb' sg' (low_den (n := -a) (d := -b) (by omega)) (by omega)
    rw [low_neg] at D1 D2
    rw [sgnQ_nat, Int.natAbs_natCast] at D2
    exact rlow_neg W C1 N1 N2 G D1 D2
  · rw [cmpI_pos h] at C1
    have hgl : Nat.gcd a.natAbs b.natAbs ≤ b.natAbs := Nat.gcd_le_right _ (by omega)
    have hg : 0 < Nat.gcd a.natAbs b.natAbs := Nat.gcd_pos_of_pos_right _ (by omega)
    have G := rrGcd ha hb h1 h2
    have hg' := rp_nat hb hgl
    have sg' := size_len hb h2 hgl
    have D1 := rrDiv ha hg' h1 sg' (low_num (n := a) (d := b) h) (by omega)
    have D2 := rrDiv hb hg' h2 sg' (low_den (n := a) (d := b) h) (by omega)
    rw [sgnQ_nat, Int.natAbs_natCast] at D2
    exact rlow_pos W C1 G D1 D2
end
section
variable {na ma nb mb : Bool} {sa ta sb tb : ByteArray} {a b : Rat}
theorem rrCan (h : Rq na sa ma ta a) (W : World) : Calls Tryz.prog 47 #[.agg #[.bool na, .string sa, .bool ma, .string ta]] W (RetQ W a) := by
  have S := rrSign h.lo
  by_cases h0 : iv ma ta = 0
  · rw [h0] at S
    have hv := h.val
    rw [h0, Rat.divInt_zero] at hv
    rw [← hv]
    exact (rCanon_zero W S rrOne2).mono fun e w' h => ret_zeroQ h
  · have L := fun W => rrLow h.up h.lo (Nat.le_trans h.s1 (by decide)) (Nat.le_trans h.s2 (by decide)) h0 W
    rw [h.val] at L
    exact rCanon_w _ (cmpI_ne h0) W S L
theorem rrOf {n : Bool} {s : ByteArray} {z : Int} (h : Rp n s z) (h1 : s.size ≤ 80000) (W : World) : Calls Tryz.prog 16 #[.agg #[.bool n, .string s]] W (RetQ W (z : Rat)) := by
  have := fun W => rrLow h Rp.one h1 (rpSn (x := 1) (N := 1) (by decide) (by decide)) (by decide) W
  rw [divInt_1] at this
  exact rRatOf_w W rrOne2 this
theorem rrNew {n m : Bool} {s t : ByteArray} {x y : Int} (h : Rp n s x) (h' : Rp m t y) (h1 : s.size ≤ 80000) (h2 : t.size ≤ 80000) (h0 : y ≠ 0) (W : World) : Calls Tryz.prog 8 #[.agg #[.bool n, .string s], .agg #[.bool m, .string t]] W (RetQE W (Rat.divInt x y) 0) := by
  exact rRatNew_w _ (cmpI_ne h0) W (rrSign h') (fun W => rrLow h h' h1 h2 h0 W)
theorem rrNew0 {n m : Bool} {s t : ByteArray} (h' : Rp m t 0) (W : World) : Calls Tryz.prog 8 #[.agg #[.bool n, .string s], .agg #[.bool m, .string t]] W (RetQZ W 9) := rRatNew_zero W (rrSign h')
theorem rrOfI {z : Int} (h1 : -9223372036854775808 ≤ z) (h2 : z < 9223372036854775808) (W : World) : Calls Tryz.prog 44 #[.int .i64 z] W fun e w' => e = .returned (.agg #[.bool (sgn z), .string (mg z.natAbs)]) ∧ Below W.heap.size W w' := rOf_any z W h1 h2
theorem of_sz {z : Int} (h1 : -9223372036854775808 ≤ z) (h2 : z < 9223372036854775808) : (mg z.natAbs).size ≤ 80000 := rpSz (N := 64) (by omega) (by decide)
theorem rrRatio {x y : Int} (h1 : -9223372036854775808 ≤ x) (h2 : x < 9223372036854775808) (h3 : -9223372036854775808 ≤ y) (h4 : y < 9223372036854775808) (h0 : y ≠ 0) (W : World) :
    Calls Tryz.prog 10 #[.int .i64 x, .int .i64 y] W (RetQE W (Rat.divInt x y) 0) :=
  rRatRatio_w W (rrOfI h1 h2) (rrOfI h3 h4) (rrNew (rp_of h1 h2) (rp_of h3 h4) (of_sz h1 h2) (of_sz h3 h4) h0)
theorem rrRatio0 {x : Int} (h1 : -9223372036854775808 ≤ x) (h2 : x < 9223372036854775808) (W : World) :
    Calls Tryz.prog 10 #[.int .i64 x, .int .i64 0] W (RetQZ W 9) :=
  rRatRatio_w W (rrOfI h1 h2) (rrOfI (by decide) (by decide)) (rrNew0 (rp_of (z := 0) (by decide) (by decide)))
theorem rrCheck (ha : Rq na sa ma ta a) (W : World) : Calls Tryz.prog 14 #[.agg #[.bool na, .string sa, .bool ma, .string ta]] W fun e w' => e = .returned (.int .i64 (if eqQ (sgn a.num) (mg a.num.natAbs) false (mg a.den) na sa ma ta then 0 else 1)) ∧ Below W.heap.size W w' := by
  by_cases h : eqQ (sgn a.num) (mg a.num.natAbs) false (mg a.den) na sa ma ta = true
  · rw [if_pos h]
    obtain ⟨⟨rfl, rfl⟩, rfl, rfl⟩ := eqQ_iff.1 h
    exact rRatCheck_ok W (rrCan ha)
  · rw [if_neg h]
    exact rRatCheck_no _ _ _ _ _ _ _ _ (by simpa using h) W (rrCan ha)
theorem rrAddQ (ha : Rq na sa ma ta a) (hb : Rq nb sb mb tb b) (W : World) : Calls Tryz.prog 18 #[.agg #[.bool na, .string sa, .bool ma, .string ta], .agg #[.bool nb, .string sb, .bool mb, .string tb]] W (RetQ W (a + b)) := by
  obtain ⟨N, hN, A⟩ := ha.q1
  obtain ⟨M, hM, B⟩ := hb.q1
  have a1 := rp_num A (by omega)
  have a2 := rp_den A (by omega)
  have b1 := rp_num B (by omega)
  have b2 := rp_den B (by omega)
  have za1 := rpSz A.num (by omega)
  have za2 := rpSn A.lo (by omega)
  have zb1 := rpSz B.num (by omega)
  have zb2 := rpSn B.lo (by omega)
  have L := fun W => rrLow (rpV (iadd_lt (A.numden B) (A.dennum B)) (by omega)) (rpV (A.denden B) (by omega)) (rpSz (iadd_lt (A.numden B) (A.dennum B)) (by omega)) (rpSz (A.denden B) (by omega)) (Int.mul_ne_zero (den0 a) (den0 b)) W
  rw [q_add] at L
  exact rRatAdd_w W (rrCan ha) (rrCan hb) (rrMul a1 b2 za1 zb2) (rrMul b1 a2 zb1 za2) (rrAdd (rpV (A.numden B) (by omega)) (rpV (A.dennum B) (by omega)) (rpSz (A.numden B) (by omega)) (rpSz (A.dennum B) (by omega))) (rrMul a2 b2 za2 zb2) L
theorem rrNegQ (ha : Rq na sa ma ta a) (W : World) : Calls Tryz.prog 24 #[.agg #[.bool na, .string sa, .bool ma, .string ta]] W (RetQ W (-a)) := by
  obtain ⟨N, hN, A⟩ := ha.q1
  refine (rRatNeg_w W (rrCan ha) (rrNeg (rp_num A (by omega)))).mono fun e w' h => ?_
  exact h
theorem Rq.neg' (ha : Rq na sa ma ta a) : Rq (sgn (-a).num) (mg (-a).num.natAbs) false (mg (-a).den) (-a) := by
  obtain ⟨N, hN, A⟩ := ha.q1
  have h1 : a.num.natAbs ≤ (iv na sa).natAbs := by rw [← ha.val]; exact div_num_le _ _
  have h2 : a.den ≤ max 1 (iv ma ta).natAbs := by rw [← ha.val]; exact div_den_le _ _
  refine ⟨by rw [iv_V, iv_mgN, low_self], ?_, ?_⟩
  · rw [q_neg_num, Int.natAbs_neg]; exact size_le ha.up ha.s1 h1
  · show (mg a.den).size ≤ 20000
    rcases Nat.le_total 1 (iv ma ta).natAbs with h | h
    · rw [Nat.max_eq_right h] at h2; exact size_len ha.lo ha.s2 h2
    · rw [Nat.max_eq_left h] at h2
      exact Nat.le_trans (size_mg (k := 1) (by omega)) (by decide)
theorem rrSubQ (ha : Rq na sa ma ta a) (hb : Rq nb sb mb tb b) (W : World) : Calls Tryz.prog 20 #[.agg #[.bool na, .string sa, .bool ma, .string ta], .agg #[.bool nb, .string sb, .bool mb, .string tb]] W (RetQ W (a - b)) := by
  have L := fun W => rrAddQ ha hb.neg' W
  rw [← Rat.sub_eq_add_neg] at L
  exact rRatSub_w W (rrNegQ hb) L
theorem rrMulQ (ha : Rq na sa ma ta a) (hb : Rq nb sb mb tb b) (W : World) : Calls Tryz.prog 22 #[.agg #[.bool na, .string sa, .bool ma, .string ta], .agg #[.bool nb, .string sb, .bool mb, .string tb]] W (RetQ W (a * b)) := by
  obtain ⟨N, hN, A⟩ := ha.q1
  obtain ⟨M, hM, B⟩ := hb.q1
  have L := fun W => rrLow (rpV (imul_lt A.num B.num) (by omega)) (rpV (A.denden B) (by omega)) (rpSz (imul_lt A.num B.num) (by omega)) (rpSz (A.denden B) (by omega)) (Int.mul_ne_zero (den0 a) (den0 b)) W
  rw [q_mul] at L
  exact rRatMul_w W (rrCan ha) (rrCan hb) (rrMul (rp_num A (by omega)) (rp_num B (by omega)) (rpSz A.num (by omega)) (rpSz B.num (by omega))) (rrMul (rp_den A (by omega)) (rp_den B (by omega)) (rpSn A.lo (by omega)) (rpSn B.lo (by omega))) L
theorem rrQuoQ (ha : Rq na sa ma ta a) (hb : Rq nb sb mb tb b) (h0 : b ≠ 0) (W : World) : Calls Tryz.prog 12 #[.agg #[.bool na, .string sa, .bool ma, .string ta], .agg #[.bool nb, .string sb, .bool mb, .string tb]] W (RetQE W (a / b) 0) := by
  obtain ⟨N, hN, A⟩ := ha.q1
  obtain ⟨M, hM, B⟩ := hb.q1
  have hbn : b.num ≠ 0 := fun h => h0 (q_num0.1 h)
  have L := fun W => rrLow (rpV (A.numden B) (by omega)) (rpV (imul_lt A.den B.num) (by omega)) (rpSz (A.numden B) (by omega)) (rpSz (imul_lt A.den B.num) (by omega)) (Int.mul_ne_zero (den0 a) hbn) W
  rw [q_quo] at L
  have S := rrSign (rp_num B (by omega))
  have M1 := rrMul (rp_num A (by omega)) (rp_den B (by omega)) (rpSz A.num (by omega)) (rpSn B.lo (by omega))
  have M2 := rrMul (rp_den A (by omega)) (rp_num B (by omega)) (rpSn A.lo (by omega)) (rpSz B.num (by omega))
  exact rRatQuo_w _ (cmpI_ne hbn) W (rrCan ha) (rrCan hb) S M1 M2 L
theorem rrQuoQ0 (ha : Rq na sa ma ta a) (hb : Rq nb sb mb tb 0) (W : World) : Calls Tryz.prog 12 #[.agg #[.bool na, .string sa, .bool ma, .string ta], .agg #[.bool nb, .string sb, .bool mb, .string tb]] W (RetQZ W 9) :=
  rRatQuo_zero W (rrCan ha) (rrCan hb) (fun W => rrSign (rp_num Qb.zero (by decide)) W)
theorem rrCmpQ (ha : Rq na sa ma ta a) (hb : Rq nb sb mb tb b) (W : World) : Calls Tryz.prog 26 #[.agg #[.bool na, .string sa, .bool ma, .string ta], .agg #[.bool nb, .string sb, .bool mb, .string tb]] W fun e w' => e = .returned (.int .i64 (cmpQ a b)) ∧ Below W.heap.size W w' := by
  obtain ⟨N, hN, A⟩ := ha.q1
  obtain ⟨M, hM, B⟩ := hb.q1
  have S := rrSign (rp_num (A.sub B) (by omega))
  rw [cmpQ_sub] at S
  exact rRatCmp_w W (rrSubQ ha hb) S
theorem rrFloorQ (ha : Rq na sa ma ta a) (W : World) : Calls Tryz.prog 28 #[.agg #[.bool na, .string sa, .bool ma, .string ta]] W fun e w' => e = .returned (.agg #[.bool (sgn a.floor), .string (mg a.floor.natAbs)]) ∧ Below W.heap.size W w' := by
  obtain ⟨N, hN, A⟩ := ha.q1
  exact rRatFloor_w W (rrCan ha) (rrDiv (rp_num A (by omega)) (rp_den A (by omega)) (rpSz A.num (by omega)) (rpSn A.lo (by omega)) (q_floor a) (den0 a))
end
end Go.Proofs.Gv

namespace Go.Proofs.Gv
open Go Go.RowKit

set_option maxRecDepth 100000 in
set_option maxHeartbeats 4000000 in
theorem arith_great {n0 d0 : Int} (na ma : Bool) (sa ta : ByteArray) (nb mb : Bool) (sb tb : ByteArray) (hgz : ∀ x ∈ ([(na, sa, ma, ta), (nb, sb, mb, tb)] : List (Bool × ByteArray × Bool × ByteArray)), x.2.1.size ≤ maxLen ∧ x.2.2.2.size ≤ maxLen) (hgr : grQ 24 [(na, sa, ma, ta), (nb, sb, mb, tb)] = true) (w : World)
    (H1 : ∀ W, Calls Tryz.prog 6 #[] W fun e w' => e = .returned (.bool true) ∧ Below W.heap.size W w')
    : Calls Tryz.prog 3 #[.agg #[.bool na, .string sa, .bool ma, .string ta], .agg #[.bool nb, .string sb, .bool mb, .string tb], .int .i64 n0, .int .i64 d0] w fun e w' => e = .returned (.bool true) ∧ Below w.heap.size w w' := by
  replace H1 := Lib.hid H1
  have HGZ := Lib.hid hgz
  clear hgz
  go_enter Tryz.func3, Tryz.ntmps3
  have HL0 := Lib.hid (Below.refl w.heap.size w)
  have HB0 := Lib.hid (show Bs [] w from trivial)
  have HO0 := Lib.hid (show w.heap.size ≤ w.heap.size from by have := HL0.out.size; first | omega | (simp at this; omega))
  have HL1 := Lib.hid (HL0.out.alloc HL0.out.size (.cells #[.bool na, .string sa, .bool ma, .string ta] 25))
  have HB1 := Lib.hid (HB0.out.push (w.heap.size) #[.bool na, .string sa, .bool ma, .string ta] 25 (by first | rfl | simp))
  clear HL0 HB0
  have HO1 := Lib.hid (show w.heap.size < w.heap.size + 1 from by have := (HB1.out.1).lt; first | omega | (simp at this; omega))
  have HL2 := Lib.hid (HL1.out.alloc HL1.out.size (.cells #[.bool nb, .string sb, .bool mb, .string tb] 25))
  have HB2 := Lib.hid (HB1.out.push (w.heap.size + 1) #[.bool nb, .string sb, .bool mb, .string tb] 25 (by first | rfl | simp))
  clear HL1 HB1
  have fx0_0_2 := (HB2.out.2.1).at 0 (.bool na) rfl
  have fx0_1_2 := (HB2.out.2.1).at 1 (.string sa) rfl
  have fx0_2_2 := (HB2.out.2.1).at 2 (.bool ma) rfl
  have fx0_3_2 := (HB2.out.2.1).at 3 (.string ta) rfl
  have fx1_0_2 := (HB2.out.1).at 0 (.bool nb) rfl
  have fx1_1_2 := (HB2.out.1).at 1 (.string sb) rfl
  have fx1_2_2 := (HB2.out.1).at 2 (.bool mb) rfl
  have fx1_3_2 := (HB2.out.1).at 3 (.string tb) rfl
  have HO2 := Lib.hid (show w.heap.size + 1 < w.heap.size + 1 + 1 from by have := (HB2.out.1).lt; first | omega | (simp at this; omega))
  have HL3 := Lib.hid (HL2.out.alloc HL2.out.size (.cells #[.bool na, .string sa, .bool ma, .string ta, .bool nb, .string sb, .bool mb, .string tb] 25))
  have HB3 := Lib.hid (HB2.out.push (w.heap.size + 1 + 1) #[.bool na, .string sa, .bool ma, .string ta, .bool nb, .string sb, .bool mb, .string tb] 25 (by first | rfl | simp))
  clear HL2 HB2
  go_wp2_with fail
  refine (greatQ_box [(na, sa, ma, ta), (nb, sb, mb, tb)] (HB3.out.1) (show 2 ≤ 1000 by decide) HGZ.out).mono ?_
  rintro e w1 ⟨rfl, hb⟩
  have HL4 := Lib.hid (bstep HL3.out hb)
  have HB4 := Lib.hid (HB3.out.bel hb)
  clear hb
  clear HL3 HB3 fx0_0_2 fx0_1_2 fx0_2_2 fx0_3_2 fx1_0_2 fx1_1_2 fx1_2_2 fx1_3_2
  go_wp2_with fail
  refine (H1.out _).mono ?_
  rintro e w2 ⟨rfl, hb⟩
  have HL5 := Lib.hid (bstep HL4.out hb)
  have HB5 := Lib.hid (HB4.out.bel hb)
  clear hb
  clear HL4 HB4
  go_wp2
  go_ret
  exact ⟨rfl, HL5.out⟩
end Go.Proofs.Gv
