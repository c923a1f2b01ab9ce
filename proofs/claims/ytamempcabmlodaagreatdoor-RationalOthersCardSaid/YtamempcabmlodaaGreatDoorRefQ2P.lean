import Derived.Test.YtamempcabmlodaaGreatDoorRefGcdP
import Derived.Test.YtamempcabmlodaaGreatDoorRefPwr
import Derived.Test.YtamempcabmlodaaGreatDoorRefPrt
import Derived.Test.YtamempcabmlodaaGreatDoorRwref11P
import Derived.Test.YtamempcabmlodaaGreatDoorRwref15P
import Derived.Test.YtamempcabmlodaaGreatDoorRwref21P
import Derived.Test.YtamempcabmlodaaGreatDoorRwref26P
import Derived.Test.YtamempcabmlodaaGreatDoorRwref30P
import Derived.Test.YtamempcabmlodaaGreatDoorM2FloorP
set_option maxHeartbeats 4000000
set_option maxRecDepth 100000
set_option linter.unusedSimpArgs false
set_option linter.unusedVariables false
namespace Go.Proofs.Gv
open Go Go.RowKit
theorem rpSz {z : Int} {N : Nat} (h : z.natAbs < 2 ^ N) (hN : N ≤ 600000) : (mg z.natAbs).size ≤ 80000 :=
 Nat.le_trans (szB ((N + 7) / 8) (Nat.lt_of_lt_of_le h (Nat.pow_le_pow_right (by decide) (by omega)))) (by omega)
theorem rpSn {x N : Nat} (h : x < 2 ^ N) (hN : N ≤ 600000) : (mg x).size ≤ 80000 := by have := rpSz (z := (x : Int)) (N := N) (by simpa using h) hN; simpa using this
section
variable {na nb : Bool} {sa sb : ByteArray} {a b : Int}
theorem rrOne (W : World) : Calls Tryz.prog 44 #[.int .i64 1] W fun e w' => e = .returned (.agg #[.bool false, .string (mg 1)]) ∧ Below W.heap.size W w' := rOf_any 1 W (by decide) (by decide)
theorem rrOne2 (W : World) : Calls Tryz.prog 49 #[] W fun e w' => e = .returned (.agg #[.bool false, .string (mg 1)]) ∧ Below W.heap.size W w' := rone_w W rrOne
theorem rrSign (ha : Rp na sa a) (W : World) : Calls Tryz.prog 42 #[.agg #[.bool na, .string sa]] W fun e w' => e = .returned (.int .i64 (cmpI a 0)) ∧ Below W.heap.size W w' :=
 rsign_w W (fun W => rCompare_any _ _ _ _ _ _ W ha Rp.zero)
theorem rrNeg (ha : Rp na sa a) (W : World) : Calls Tryz.prog 52 #[.agg #[.bool na, .string sa]] W fun e w' => e = .returned (.agg #[.bool (sgn (-a)), .string (mg (-a).natAbs)]) ∧ Below W.heap.size W w' := by
 have := rneg_any na sa W ha.sz
 rw [ha.val] at this
 exact this
theorem rrGcd (ha : Rp na sa a) (hb : Rp nb sb b) (h1 : sa.size ≤ 80000) (h2 : sb.size ≤ 80000) (W : World) :
  Calls Tryz.prog 70 #[.agg #[.bool na, .string sa], .agg #[.bool nb, .string sb]] W fun e w' => e = .returned (.agg #[.bool false, .string (mg (Nat.gcd a.natAbs b.natAbs))]) ∧ Below W.heap.size W w' := by
 have := rGcd_any na nb sa sb W (by omega) (by omega)
 unfold RetI at this
 rwa [← ha.abs, ← hb.abs, sgnQ_nat, Int.natAbs_natCast] at this
theorem rrDiv {q r : Int} (ha : Rp na sa a) (hb : Rp nb sb b) (h1 : sa.size ≤ 80000) (h2 : sb.size ≤ 80000) (hd : DivSpec a b q r) (h0 : b ≠ 0) (W : World) :
  Calls Tryz.prog 55 #[.agg #[.bool na, .string sa], .agg #[.bool nb, .string sb]] W fun e w' => e = .returned (.tuple #[.agg #[.bool (sgn q), .string (mg q.natAbs)], .agg #[.bool (sgn r), .string (mg r.natAbs)], .int .i64 0]) ∧ Below W.heap.size W w' :=
 rDiv_any na nb sa sb a b q r W ha hb (by omega) (by omega) (by omega) hd
theorem rrMul (ha : Rp na sa a) (hb : Rp nb sb b) (h1 : sa.size ≤ 80000) (h2 : sb.size ≤ 80000) (W : World) :
  Calls Tryz.prog 48 #[.agg #[.bool na, .string sa], .agg #[.bool nb, .string sb]] W fun e w' => e = .returned (.agg #[.bool (sgn (a * b)), .string (mg (a * b).natAbs)]) ∧ Below W.heap.size W w' :=
 rMul_any na nb sa sb a b W ha hb (by omega) (by omega)
theorem rrAdd (ha : Rp na sa a) (hb : Rp nb sb b) (h1 : sa.size ≤ 80000) (h2 : sb.size ≤ 80000) (W : World) :
  Calls Tryz.prog 50 #[.agg #[.bool na, .string sa], .agg #[.bool nb, .string sb]] W fun e w' => e = .returned (.agg #[.bool (sgn (a + b)), .string (mg (a + b).natAbs)]) ∧ Below W.heap.size W w' :=
 rAdd_any na nb sa sb a b W ha hb (by omega) (by omega)
theorem size_le {n : Bool} {s : ByteArray} {a z : Int} (h : Rp n s a) {k : Nat} (hs : s.size ≤ k) (hz : z.natAbs ≤ a.natAbs) : (mg z.natAbs).size ≤ k := by
 refine Nat.le_trans (size_mg ?_) hs
 have h1 := iv_lt n s
 rw [h.val] at h1
 omega
theorem size_len {n : Bool} {s : ByteArray} {a : Int} {x : Nat} (h : Rp n s a) {k : Nat} (hs : s.size ≤ k) (hz : x ≤ a.natAbs) : (mg x).size ≤ k := by
 have := size_le (z := (x : Int)) h hs (by simpa using hz)
 simpa using this
theorem rrLow (ha : Rp na sa a) (hb : Rp nb sb b) (h1 : sa.size ≤ 80000) (h2 : sb.size ≤ 80000) (h0 : b ≠ 0) (W : World) :
  Calls Tryz.prog 43 #[.agg #[.bool na, .string sa], .agg #[.bool nb, .string sb]] W (RetQ W (Rat.divInt a b)) := by
 have C1 := rrSign hb
 rcases Int.lt_or_gt_of_ne h0 with h | h
 ·rw [cmpI_neg h] at C1
  have N1 := rrNeg ha
  have N2 := rrNeg hb
  have ha' : Rp (sgn (-a)) (mg (-a).natAbs) (-a) := ha.le (by omega)
  have hb' : Rp (sgn (-b)) (mg (-b).natAbs) (-b) := hb.le (by omega)
  have sa' := size_le (z := -a) ha h1 (by omega)
  have sb' := size_le (z := -b) hb h2 (by omega)
  have hgl : Nat.gcd (-a).natAbs (-b).natAbs ≤ b.natAbs := by have := Nat.gcd_le_right (-a).natAbs (show 0 < (-b).natAbs by omega); omega
  have hg : 0 < Nat.gcd (-a).natAbs (-b).natAbs := Nat.gcd_pos_of_pos_right _ (by omega)
  have G := rrGcd ha' hb' sa' sb'
  have hg' := rp_nat hb hgl
  have sg' := size_len hb h2 hgl
  have D1 := rrDiv ha' hg' sa' sg' (low_num (n := -a) (d := -b) (by omega)) (by omega)
  have D2 := rrDiv hb' hg' sb' sg' (low_den (n := -a) (d := -b) (by omega)) (by omega)
  rw [low_neg] at D1 D2
  rw [sgnQ_nat, Int.natAbs_natCast] at D2
  exact rlow_neg W C1 N1 N2 G D1 D2
 ·rw [cmpI_pos h] at C1
  have hgl : Nat.gcd a.natAbs b.natAbs ≤ b.natAbs := Nat.gcd_le_right _ (by omega)
  have hg : 0 < Nat.gcd a.natAbs b.natAbs := Nat.gcd_pos_of_pos_right _ (by omega)
  have G := rrGcd ha hb h1 h2
  have hg' := rp_nat hb hgl
  have sg' := size_len hb h2 hgl
  have D1 := rrDiv ha hg' h1 sg' (low_num (n := a) (d := b) h) (by omega)
  have D2 := rrDiv hb hg' h2 sg' (low_den (n := a) (d := b) h) (by omega)
  rw [sgnQ_nat, Int.natAbs_natCast] at D2
  exact rlow_pos W C1 G D1 D2
end
section
variable {na ma nb mb : Bool} {sa ta sb tb : ByteArray} {a b : Rat}
theorem rrCan (h : Rq na sa ma ta a) (W : World) : Calls Tryz.prog 47 #[.agg #[.bool na, .string sa, .bool ma, .string ta]] W (RetQ W a) := by
 have S := rrSign h.lo
 by_cases h0 : iv ma ta = 0
 ·rw [h0] at S
  have hv := h.val
  rw [h0, Rat.divInt_zero] at hv
  rw [← hv]
  exact (rCanon_zero W S rrOne2).mono fun e w' h => ret_zeroQ h
 ·have L := fun W => rrLow h.up h.lo (Nat.le_trans h.s1 (by decide)) (Nat.le_trans h.s2 (by decide)) h0 W
  rw [h.val] at L
  exact rCanon_w _ (cmpI_ne h0) W S L
theorem rrOf {n : Bool} {s : ByteArray} {z : Int} (h : Rp n s z) (h1 : s.size ≤ 80000) (W : World) : Calls Tryz.prog 16 #[.agg #[.bool n, .string s]] W (RetQ W (z : Rat)) := by
 have := fun W => rrLow h Rp.one h1 (rpSn (x := 1) (N := 1) (by decide) (by decide)) (by decide) W
 rw [divInt_1] at this
 exact rRatOf_w W rrOne2 this
theorem rrAddQ (ha : Rq na sa ma ta a) (hb : Rq nb sb mb tb b) (W : World) : Calls Tryz.prog 18 #[.agg #[.bool na, .string sa, .bool ma, .string ta], .agg #[.bool nb, .string sb, .bool mb, .string tb]] W (RetQ W (a + b)) := by
 obtain ⟨N, hN, A⟩ := ha.q1
 obtain ⟨M, hM, B⟩ := hb.q1
 have a1 := rp_num A (by omega)
 have a2 := rp_den A (by omega)
 have b1 := rp_num B (by omega)
 have b2 := rp_den B (by omega)
 have za1 := rpSz A.num (by omega)
 have za2 := rpSn A.lo (by omega)
 have zb1 := rpSz B.num (by omega)
 have zb2 := rpSn B.lo (by omega)
 have L := fun W => rrLow (rpV (iadd_lt (A.numden B) (A.dennum B)) (by omega)) (rpV (A.denden B) (by omega)) (rpSz (iadd_lt (A.numden B) (A.dennum B)) (by omega)) (rpSz (A.denden B) (by omega)) (Int.mul_ne_zero (den0 a) (den0 b)) W
 rw [q_add] at L
 exact rRatAdd_w W (rrCan ha) (rrCan hb) (rrMul a1 b2 za1 zb2) (rrMul b1 a2 zb1 za2) (rrAdd (rpV (A.numden B) (by omega)) (rpV (A.dennum B) (by omega)) (rpSz (A.numden B) (by omega)) (rpSz (A.dennum B) (by omega))) (rrMul a2 b2 za2 zb2) L
theorem rrNegQ (ha : Rq na sa ma ta a) (W : World) : Calls Tryz.prog 24 #[.agg #[.bool na, .string sa, .bool ma, .string ta]] W (RetQ W (-a)) := by
 obtain ⟨N, hN, A⟩ := ha.q1
 refine (rRatNeg_w W (rrCan ha) (rrNeg (rp_num A (by omega)))).mono fun e w' h => ?_
 exact h
theorem Rq.neg' (ha : Rq na sa ma ta a) : Rq (sgn (-a).num) (mg (-a).num.natAbs) false (mg (-a).den) (-a) := by
 obtain ⟨N, hN, A⟩ := ha.q1
 have h1 : a.num.natAbs ≤ (iv na sa).natAbs := by rw [← ha.val]; exact div_num_le _ _
 have h2 : a.den ≤ max 1 (iv ma ta).natAbs := by rw [← ha.val]; exact div_den_le _ _
 refine ⟨by rw [iv_V, iv_mgN, low_self], ?_, ?_⟩
 ·rw [q_neg_num, Int.natAbs_neg]; exact size_le ha.up ha.s1 h1
 ·show (mg a.den).size ≤ 20000
  rcases Nat.le_total 1 (iv ma ta).natAbs with h | h
  ·rw [Nat.max_eq_right h] at h2; exact size_len ha.lo ha.s2 h2
  ·rw [Nat.max_eq_left h] at h2
   exact Nat.le_trans (size_mg (k := 1) (by omega)) (by decide)
theorem rrSubQ (ha : Rq na sa ma ta a) (hb : Rq nb sb mb tb b) (W : World) : Calls Tryz.prog 20 #[.agg #[.bool na, .string sa, .bool ma, .string ta], .agg #[.bool nb, .string sb, .bool mb, .string tb]] W (RetQ W (a - b)) := by
 have L := fun W => rrAddQ ha hb.neg' W
 rw [← Rat.sub_eq_add_neg] at L
 exact rRatSub_w W (rrNegQ hb) L
theorem rrQuoQ (ha : Rq na sa ma ta a) (hb : Rq nb sb mb tb b) (h0 : b ≠ 0) (W : World) : Calls Tryz.prog 12 #[.agg #[.bool na, .string sa, .bool ma, .string ta], .agg #[.bool nb, .string sb, .bool mb, .string tb]] W (RetQE W (a / b) 0) := by
 obtain ⟨N, hN, A⟩ := ha.q1
 obtain ⟨M, hM, B⟩ := hb.q1
 have hbn : b.num ≠ 0 := fun h => h0 (q_num0.1 h)
 have L := fun W => rrLow (rpV (A.numden B) (by omega)) (rpV (imul_lt A.den B.num) (by omega)) (rpSz (A.numden B) (by omega)) (rpSz (imul_lt A.den B.num) (by omega)) (Int.mul_ne_zero (den0 a) hbn) W
 rw [q_quo] at L
 have S := rrSign (rp_num B (by omega))
 have M1 := rrMul (rp_num A (by omega)) (rp_den B (by omega)) (rpSz A.num (by omega)) (rpSn B.lo (by omega))
 have M2 := rrMul (rp_den A (by omega)) (rp_num B (by omega)) (rpSn A.lo (by omega)) (rpSz B.num (by omega))
 exact rRatQuo_w _ (cmpI_ne hbn) W (rrCan ha) (rrCan hb) S M1 M2 L
theorem rrCmpQ (ha : Rq na sa ma ta a) (hb : Rq nb sb mb tb b) (W : World) : Calls Tryz.prog 26 #[.agg #[.bool na, .string sa, .bool ma, .string ta], .agg #[.bool nb, .string sb, .bool mb, .string tb]] W fun e w' => e = .returned (.int .i64 (cmpQ a b)) ∧ Below W.heap.size W w' := by
 obtain ⟨N, hN, A⟩ := ha.q1
 obtain ⟨M, hM, B⟩ := hb.q1
 have S := rrSign (rp_num (A.sub B) (by omega))
 rw [cmpQ_sub] at S
 exact rRatCmp_w W (rrSubQ ha hb) S
theorem rrSignQ (ha : Rq na sa ma ta a) (W : World) : Calls Tryz.prog 59 #[.agg #[.bool na, .string sa, .bool ma, .string ta]] W fun e w' => e = .returned (.int .i64 (cmpQ a 0)) ∧ Below W.heap.size W w' := by
 obtain ⟨N, hN, A⟩ := ha.q1
 have S := rrSign (rp_num A (by omega))
 have e := cmpQ_sub a 0
 rw [show a - 0 = a by grind] at e
 rw [e] at S
 exact rRatSign_w W (rrCan ha) S
theorem rrFloorQ (ha : Rq na sa ma ta a) (W : World) : Calls Tryz.prog 28 #[.agg #[.bool na, .string sa, .bool ma, .string ta]] W fun e w' => e = .returned (.agg #[.bool (sgn a.floor), .string (mg a.floor.natAbs)]) ∧ Below W.heap.size W w' := by
 obtain ⟨N, hN, A⟩ := ha.q1
 exact rRatFloor_w W (rrCan ha) (rrDiv (rp_num A (by omega)) (rp_den A (by omega)) (rpSz A.num (by omega)) (rpSn A.lo (by omega)) (q_floor a) (den0 a))
end
end Go.Proofs.Gv
namespace Go.Proofs.Gv
open Go Go.RowKit
def RetT (n : Bool) (s : ByteArray) (m : Bool) (t : ByteArray) (c : Int) (w : World) (e : Ending) (w' : World) : Prop := e = .returned (.tuple #[.agg #[.bool n, .string s, .bool m, .string t], .int .i64 c]) ∧ Below w.heap.size w w'
theorem hz1 {na ma : Bool} {sa ta : ByteArray} (hs : sa.size ≤ maxLen) (ht : ta.size ≤ maxLen) : ∀ x ∈ ([(na, sa, ma, ta)] : List (Bool × ByteArray × Bool × ByteArray)), x.2.1.size ≤ maxLen ∧ x.2.2.2.size ≤ maxLen := fun x hx => by
 obtain rfl : x = (na, sa, ma, ta) := by simpa using hx
 exact ⟨hs, ht⟩
theorem hz2 {na ma nb mb : Bool} {sa ta sb tb : ByteArray} (hs : sa.size ≤ maxLen) (ht : ta.size ≤ maxLen) (hs' : sb.size ≤ maxLen) (ht' : tb.size ≤ maxLen) : ∀ x ∈ ([(na, sa, ma, ta), (nb, sb, mb, tb)] : List (Bool × ByteArray × Bool × ByteArray)), x.2.1.size ≤ maxLen ∧ x.2.2.2.size ≤ maxLen := fun x hx => by
 rcases List.mem_cons.1 hx with rfl | hx
 ·exact ⟨hs, ht⟩
 ·exact hz1 hs' ht' x hx
end Go.Proofs.Gv
namespace Go.Proofs.Gv
open Go Go.RowKit
theorem rPrintQ_int {na ma nc : Bool} {sa ta sc sx : ByteArray} (mc no : Bool) (tc so : ByteArray) (hq : eqI mc tc no so = true) (w : World)
  (H1 : GivesV 47 #[.agg #[.bool na, .string sa, .bool ma, .string ta]] (.agg #[.bool nc, .string sc, .bool mc, .string tc]))
  (H2 : GivesV 49 #[] (.agg #[.bool no, .string so]))
  (H3 : GivesV 65 #[.agg #[.bool nc, .string sc]] (.string sx))
  : Calls Tryz.prog 36 #[.agg #[.bool na, .string sa, .bool ma, .string ta]] w fun e w' => e = .returned (.string sx) ∧ Below w.heap.size w w' := by
 replace H1 := Lib.hid H1
 replace H2 := Lib.hid H2
 replace H3 := Lib.hid H3
 go_enter Tryz.func36, Tryz.ntmps36
 have HL0 := Lib.hid (Below.refl w.heap.size w)
 have HB0 := Lib.hid (show Bs [] w from trivial)
 have HO0 := Lib.hid (show w.heap.size ≤ w.heap.size from by have := HL0.out.size; first | omega | (simp at this; omega))
 obtain ⟨HL1, HB1⟩ := growLB HL0 HB0 (w.heap.size) #[.bool na, .string sa, .bool ma, .string ta] 25
 clear HL0 HB0
 obtain ⟨fx0_0_1, fx0_1_1, fx0_2_1, fx0_3_1⟩ := (HB1.out.1).at4
 go_wp2_with fail
 refine (H1.out _).mono ?_
 rintro e w1 ⟨rfl, hb⟩
 obtain ⟨HL2, HB2⟩ := cameLB HL1 HB1 hb
 clear hb
 clear HL1 HB1 fx0_0_1 fx0_1_1 fx0_2_1 fx0_3_1
 obtain ⟨fx0_0_2, fx0_1_2, fx0_2_2, fx0_3_2⟩ := (HB2.out.1).at4
 obtain ⟨fz0_0_2, fz0_1_2, fz0_2_2, fz0_3_2⟩ := (HB2.out.1).z4
 obtain ⟨HL3, HB3⟩ := keptLB (c := w.heap.size) [.bool nc, .string sc, .bool mc, .string tc] 0 0 HL2 HB2 (by have := HO0.out; omega) (by simp only [Bs.ap, Bs.ap0, List.length_cons, List.length_nil, and_true, true_and]; have := HO0.out; omega)
 simp only [setCs, setL, Bs.put, List.set_cons_succ, List.set_cons_zero, Nat.zero_add, Nat.reduceAdd] at HL3 HB3
 replace HL3 := Lib.hid HL3
 replace HB3 := Lib.hid HB3
 clear HL2 HB2
 go_wp2_with fail
 obtain ⟨W2, hW⟩ : ∃ W, ((((w1.setCell ⟨w.heap.size, 0, none⟩ (.bool nc)).setCell ⟨w.heap.size, 1, none⟩ (.string sc)).setCell ⟨w.heap.size, 2, none⟩ (.bool mc)).setCell ⟨w.heap.size, 3, none⟩ (.string tc)) = W := ⟨_, rfl⟩
 rw [hW] at HB3 HL3 ⊢
 clear hW fx0_0_2 fz0_0_2 fx0_1_2 fz0_1_2 fx0_2_2 fz0_2_2 fx0_3_2 fz0_3_2
 haveI := cls_some W2
 have fq0_2 : ∀ u : Cl W2, u.x.cell? ⟨w.heap.size, 2, none⟩ = some (.bool mc) := fun u => ((HB3.out.bel u.h).1).at 2 (.bool mc) rfl
 have fq0_3 : ∀ u : Cl W2, u.x.cell? ⟨w.heap.size, 3, none⟩ = some (.string tc) := fun u => ((HB3.out.bel u.h).1).at 3 (.string tc) rfl
 refine wp_region_cls (by kernel_rfl) ?_
 iterate 2 (go_big_quiet_step (fail))
 go_big_quiet_step ((go_at_call 49; exact quiet_cls H2.out _))
 iterate 1 (go_big_quiet_step (fail))
 refine wpQuiet_nil ?_
 intro w3 hw9
 have hb : Below W2.heap.size W2 w3 := by obtain ⟨u, rfl⟩ := hw9; exact u.h
 clear hw9 this fq0_2 fq0_3
 obtain ⟨HL4, HB4⟩ := cameLB HL3 HB3 hb
 clear hb
 clear HL3 HB3
 obtain ⟨fx0_0_4, fx0_1_4⟩ := (HB4.out.1).at2
 go_wp2_with fail
 refine (H3.out _).mono ?_
 rintro e w4 ⟨rfl, hb⟩
 obtain ⟨HL5, HB5⟩ := cameLB HL4 HB4 hb
 clear hb
 clear HL4 HB4 fx0_0_4 fx0_1_4
 go_wp2
 go_ret
 exact ⟨rfl, HL5.out⟩
end Go.Proofs.Gv
namespace Go.Proofs.Gv
open Go Go.RowKit
theorem rPrintQ_frac {na ma nc : Bool} {sa ta sc : ByteArray} (mc no : Bool) (tc so : ByteArray) (hq : eqI mc tc no so = false) (sx sy : ByteArray) (h1 : sx.size ≤ 1000000) (h2 : sy.size ≤ 1000000) (w : World)
  (H1 : GivesV 47 #[.agg #[.bool na, .string sa, .bool ma, .string ta]] (.agg #[.bool nc, .string sc, .bool mc, .string tc]))
  (H2 : GivesV 49 #[] (.agg #[.bool no, .string so]))
  (H3 : GivesV 65 #[.agg #[.bool nc, .string sc]] (.string sx))
  (H4 : GivesV 65 #[.agg #[.bool mc, .string tc]] (.string sy))
  : Calls Tryz.prog 36 #[.agg #[.bool na, .string sa, .bool ma, .string ta]] w fun e w' => e = .returned (.string (sx ++ ⟨#[47]⟩ ++ sy)) ∧ Below w.heap.size w w' := by
 replace H1 := Lib.hid H1
 replace H2 := Lib.hid H2
 replace H3 := Lib.hid H3
 replace H4 := Lib.hid H4
 go_enter Tryz.func36, Tryz.ntmps36
 have HL0 := Lib.hid (Below.refl w.heap.size w)
 have HB0 := Lib.hid (show Bs [] w from trivial)
 have HO0 := Lib.hid (show w.heap.size ≤ w.heap.size from by have := HL0.out.size; first | omega | (simp at this; omega))
 obtain ⟨HL1, HB1⟩ := growLB HL0 HB0 (w.heap.size) #[.bool na, .string sa, .bool ma, .string ta] 25
 clear HL0 HB0
 obtain ⟨fx0_0_1, fx0_1_1, fx0_2_1, fx0_3_1⟩ := (HB1.out.1).at4
 go_wp2_with fail
 refine (H1.out _).mono ?_
 rintro e w1 ⟨rfl, hb⟩
 obtain ⟨HL2, HB2⟩ := cameLB HL1 HB1 hb
 clear hb
 clear HL1 HB1 fx0_0_1 fx0_1_1 fx0_2_1 fx0_3_1
 obtain ⟨fx0_0_2, fx0_1_2, fx0_2_2, fx0_3_2⟩ := (HB2.out.1).at4
 obtain ⟨fz0_0_2, fz0_1_2, fz0_2_2, fz0_3_2⟩ := (HB2.out.1).z4
 obtain ⟨HL3, HB3⟩ := keptLB (c := w.heap.size) [.bool nc, .string sc, .bool mc, .string tc] 0 0 HL2 HB2 (by have := HO0.out; omega) (by simp only [Bs.ap, Bs.ap0, List.length_cons, List.length_nil, and_true, true_and]; have := HO0.out; omega)
 simp only [setCs, setL, Bs.put, List.set_cons_succ, List.set_cons_zero, Nat.zero_add, Nat.reduceAdd] at HL3 HB3
 replace HL3 := Lib.hid HL3
 replace HB3 := Lib.hid HB3
 clear HL2 HB2
 go_wp2_with fail
 obtain ⟨W2, hW⟩ : ∃ W, ((((w1.setCell ⟨w.heap.size, 0, none⟩ (.bool nc)).setCell ⟨w.heap.size, 1, none⟩ (.string sc)).setCell ⟨w.heap.size, 2, none⟩ (.bool mc)).setCell ⟨w.heap.size, 3, none⟩ (.string tc)) = W := ⟨_, rfl⟩
 rw [hW] at HB3 HL3 ⊢
 clear hW fx0_0_2 fz0_0_2 fx0_1_2 fz0_1_2 fx0_2_2 fz0_2_2 fx0_3_2 fz0_3_2
 haveI := cls_some W2
 have fq0_2 : ∀ u : Cl W2, u.x.cell? ⟨w.heap.size, 2, none⟩ = some (.bool mc) := fun u => ((HB3.out.bel u.h).1).at 2 (.bool mc) rfl
 have fq0_3 : ∀ u : Cl W2, u.x.cell? ⟨w.heap.size, 3, none⟩ = some (.string tc) := fun u => ((HB3.out.bel u.h).1).at 3 (.string tc) rfl
 refine wp_region_cls (by kernel_rfl) ?_
 iterate 2 (go_big_quiet_step (fail))
 go_big_quiet_step ((go_at_call 49; exact quiet_cls H2.out _))
 iterate 1 (go_big_quiet_step (fail))
 refine wpQuiet_nil ?_
 intro w3 hw9
 have hb : Below W2.heap.size W2 w3 := by obtain ⟨u, rfl⟩ := hw9; exact u.h
 clear hw9 this fq0_2 fq0_3
 obtain ⟨HL4, HB4⟩ := cameLB HL3 HB3 hb
 clear hb
 clear HL3 HB3
 go_wp2_with fail
 haveI := cls_some w3
 obtain ⟨fq0_0, fq0_1, fq0_2, fq0_3⟩ := BC.all4 fun u : Cl w3 => ((HB4.out.bel u.h).1)
 refine wp_region_cls (by kernel_rfl) ?_
 iterate 2 (go_big_quiet_step (fail))
 go_big_quiet_step ((go_at_call 65; exact quiet_cls H3.out _))
 iterate 3 (go_big_quiet_step (fail))
 go_big_quiet_step ((go_at_call 65; exact quiet_cls H4.out _))
 iterate 2 (go_big_quiet_step (fail))
 refine wpQuiet_nil ?_
 intro w4 hw9
 have hb : Below w3.heap.size w3 w4 := by obtain ⟨u, rfl⟩ := hw9; exact u.h
 clear hw9 this fq0_0 fq0_1 fq0_2 fq0_3
 obtain ⟨HL5, HB5⟩ := cameLB HL4 HB4 hb
 clear hb
 clear HL4 HB4
 go_wp2
 go_ret
 exact ⟨rfl, HL5.out⟩
end Go.Proofs.Gv
namespace Go.Proofs.Gv
open Go Go.RowKit
section
variable {na ma nb mb : Bool} {sa ta sb tb : ByteArray} {a b : Rat}
theorem rrPow (ha : Rq na sa ma ta a) {N : Nat} (hq : Qb N a) (n : Nat) (h1 : n ≤ 4096) (h2 : n * N ≤ 65536) (W : World) :
  Calls Tryz.prog 30 #[.agg #[.bool na, .string sa, .bool ma, .string ta], .int .i64 n] W (RetQE W (a ^ n) 0) := by
 obtain ⟨M, hM, A⟩ := ha.q1
 have b1 : bl a.num.natAbs ≤ N := bl_lt hq.up
 have b2 : bl (a.den : Int).natAbs ≤ N := bl_lt hq.den
 have r1 := rp_num A (by omega)
 have r2 := rp_den A (by omega)
 have P1 := fun W => rPower_any (sgn a.num) (mg a.num.natAbs) (n : Int) W (Nat.le_trans (rpSz A.num (by omega)) (by decide))
 have P2 := fun W => rPower_any false (mg a.den) (n : Int) W (Nat.le_trans (rpSn A.lo (by omega)) (by decide))
 have hE1 : powE (iv (sgn a.num) (mg a.num.natAbs)) n = 0 := by
  rw [r1.val]; unfold powE
  rw [if_neg (by omega), if_neg (by rw [Int.toNat_natCast]; have := Nat.mul_le_mul_left n b1; omega)]
 have hE2 : powE (iv false (mg a.den)) n = 0 := by
  rw [r2.val]; unfold powE
  rw [if_neg (by omega), if_neg (by rw [Int.toNat_natCast]; have := Nat.mul_le_mul_left n b2; omega)]
 have hV1 : powV (iv (sgn a.num) (mg a.num.natAbs)) n = (a ^ n).num := by unfold powV; rw [if_pos hE1, r1.val, Int.toNat_natCast, Rat.num_pow]
 have hV2 : powV (iv false (mg a.den)) n = ((a ^ n).den : Int) := by unfold powV; rw [if_pos hE2, r2.val, Int.toNat_natCast, Rat.den_pow, Int.natCast_pow]
 unfold RetIE at P1 P2
 rw [hE1, hV1] at P1
 rw [hE2, hV2, sgnQ_nat, Int.natAbs_natCast] at P2
 exact rRatPow_w W (rrCan ha) P1 P2
theorem rrPowE (ha : Rq na sa ma ta a) (n : Int) (h : n < 0 ∨ 4096 < n) (W : World) :
  Calls Tryz.prog 30 #[.agg #[.bool na, .string sa, .bool ma, .string ta], .int .i64 n] W (RetQZ W 2) := by
 obtain ⟨M, hM, A⟩ := ha.q1
 have P1 := fun W => rPower_any (sgn a.num) (mg a.num.natAbs) n W (Nat.le_trans (rpSz A.num (by omega)) (by decide))
 have hE : powE (iv (sgn a.num) (mg a.num.natAbs)) n = 2 := by unfold powE; rw [if_pos h]
 unfold RetIE at P1
 rw [hE] at P1
 exact rRatPow_e1 2 rfl W (rrCan ha) P1
theorem rrPrintI {n : Bool} {s : ByteArray} {z : Int} (h : Rp n s z) (hs : s.size ≤ 80000) (W : World) :
  Calls Tryz.prog 65 #[.agg #[.bool n, .string s]] W fun e w' => e = .returned (.string ⟨(txt z).toArray⟩) ∧ Below W.heap.size W w' := by
 have := rPrint_any n s W (by omega)
 rwa [prT_txt h] at this
theorem rrPrint (ha : Rq na sa ma ta a) (W : World) :
  Calls Tryz.prog 36 #[.agg #[.bool na, .string sa, .bool ma, .string ta]] W fun e w' => e = .returned (.string ⟨(ratT a).toArray⟩) ∧ Below W.heap.size W w' := by
 obtain ⟨M, hM, A⟩ := ha.q1
 have P1 := rrPrintI (rp_num A (by omega)) (rpSz A.num (by omega))
 have P2 := rrPrintI (rp_den A (by omega)) (rpSn A.lo (by omega))
 by_cases h : a.den = 1
 ·unfold ratT
  rw [if_pos h]
  exact rPrintQ_int _ _ _ _ (by rw [h]; exact eqI_iff.2 ⟨rfl, rfl⟩) W (rrCan ha) rrOne2 P1
 ·have := rPrintQ_frac (na := na) (ma := ma) (sa := sa) (ta := ta) _ _ _ _ (Bool.eq_false_iff.2 fun hc => h (mg_inj (eqI_iff.1 hc).2)) _ _ (txt_size A.up (by omega)) (txt_size A.den (by omega)) W (rrCan ha) rrOne2 P1 P2
  have e : (⟨(txt a.num).toArray⟩ ++ ⟨#[47]⟩ ++ ⟨(txt a.den).toArray⟩ : ByteArray) = ⟨(ratT a).toArray⟩ := by
   rw [show (⟨#[47]⟩ : ByteArray) = ⟨[47].toArray⟩ from rfl, bytes_app, bytes_app]
   unfold ratT
   rw [if_neg h]; simp
  rwa [e] at this
end
theorem simF_pos (k : Nat) (a b : Rat) (h0 : 0 < a) (hab : a ≤ b) (hk : a.den + b.den ≤ k) : 0 < simF k a b := by
 have := (sim_spec k a b h0 hab hk).1
 grind
theorem rrSim : ∀ (k : Nat) (na ma nb mb : Bool) (sa ta sb tb : ByteArray) (a b : Rat) (N : Nat), Rq na sa ma ta a → Rq nb sb mb tb b → 0 < a → a ≤ b → a.den + b.den ≤ k → Qb N a → Qb N b → N ≤ 4900 → ∀ W,
  Calls Tryz.prog 60 #[.agg #[.bool na, .string sa, .bool ma, .string ta], .agg #[.bool nb, .string sb, .bool mb, .string tb]] W (RetQ W (simF k a b)) := by
 intro k
 induction k with
 | zero => intro na ma nb mb sa ta sb tb a b N _ _ _ _ hk; have := a.den_pos; omega
 | succ k ih =>
   intro na ma nb mb sa ta sb tb a b N RA RB h0 hab hk A B hN W
   have NG := rrNegQ RA
   have F1 := fun W => rrFloorQ (A.neg.rq (by omega)) W
   have f1N : (-a).floor.natAbs < 2 ^ N := A.neg.floor
   have rl := rrNeg (rpV f1N (by omega))
   have lN : (-(-a).floor).natAbs < 2 ^ N := by rw [Int.natAbs_neg]; exact f1N
   have OL := rrOf (rpV lN (by omega)) (rpSz lN (by omega))
   have QL : Qb N ((-(-a).floor : Int) : Rat) := Qb.int lN A.pos
   have C := fun W => rrCmpQ (QL.rq (by omega)) RB W
   rw [simF_ref k a b hab]
   by_cases h1 : ((-(-a).floor : Int) : Rat) ≤ b
   ·rw [if_pos h1]
    exact rsim_int _ (cmpQ_le2 h1) W NG F1 rl OL C OL
   ·rw [if_neg h1]
    rw [cmpQ_one (Rat.not_le.1 h1)] at C
    have hf : (a.floor : Rat) ≠ a := fun e => h1 (by rw [sim_ceil, if_pos e, e]; exact hab)
    have h2 : ¬ ((a.floor + 1 : Int) : Rat) ≤ b := by rw [sim_ceil, if_neg hf] at h1; exact h1
    obtain ⟨_, g1, g2, p1, p2, d1, d2⟩ := sim_step h0 hab hf h2
    obtain ⟨QL2, QH2⟩ := Qb.step A B h0 hab hf h2
    have F2 := fun W => rrFloorQ RA W
    have f2N : a.floor.natAbs < 2 ^ N := A.floor
    have OF := rrOf (rpV f2N (by omega)) (rpSz f2N (by omega))
    have QF : Qb N (a.floor : Rat) := Qb.int f2N A.pos
    have O1 := fun W => rrOf Rp.one (rpSn (x := 1) (N := 1) (by decide) (by decide)) W
    rw [Rat.intCast_one] at O1
    have S1 := fun W => rrSubQ RB (QF.rq (by omega)) W
    have S2 := fun W => rrSubQ RA (QF.rq (by omega)) W
    have RO := Qb.one.rq (by decide)
    have D1 := fun W => rrQuoQ RO ((B.sub QF).rq (by omega)) (by grind) W
    have D2 := fun W => rrQuoQ RO ((A.sub QF).rq (by omega)) (by grind) W
    rw [q_one_div] at D1 D2
    have IH := fun W => ih _ _ _ _ _ _ _ _ _ _ N (QL2.rq (by omega)) (QH2.rq (by omega)) p1 p2 (by omega) QL2 QH2 hN W
    have QS := Qb.simF (k := k) QH2 p1 p2 (by omega)
    have hs0 : 0 < simF k (b - a.floor)⁻¹ (a - a.floor)⁻¹ := simF_pos k _ _ p1 p2 (by omega)
    have D3 := fun W => rrQuoQ RO (QS.rq (by omega)) (by grind) W
    rw [q_one_div] at D3
    have QI : Qb (1 + N) (simF k (b - a.floor)⁻¹ (a - a.floor)⁻¹)⁻¹ := by rw [← q_one_div]; exact Qb.one.quo QS
    have AD := fun W => rrAddQ (QF.rq (by omega)) (QI.rq (by omega)) W
    exact rsim_rec W NG F1 rl OL C F2 OF rrOne2 O1 S1 D1 rrOne2 O1 S2 D2 rrOne2 O1 IH D3 AD
section
variable {na ma nb mb : Bool} {sa ta sb tb : ByteArray} {a b : Rat}
theorem rrSimO (ha : Rq na sa ma ta a) (hb : Rq nb sb mb tb b) (h : b < a) (W : World) :
  Calls Tryz.prog 32 #[.agg #[.bool na, .string sa, .bool ma, .string ta], .agg #[.bool nb, .string sb, .bool mb, .string tb]] W (RetQZ W 10) := by
 have C := fun W => rrCmpQ ha hb W
 rw [cmpQ_one h] at C
 exact rSim_order W C
theorem rrSimQ (ha : Rq na sa ma ta a) (hb : Rq nb sb mb tb b) {N : Nat} (A : Qb N a) (B : Qb N b) (hN : N ≤ 4900) (h : a ≤ b) (W : World) :
  Calls Tryz.prog 32 #[.agg #[.bool na, .string sa, .bool ma, .string ta], .agg #[.bool nb, .string sb, .bool mb, .string tb]] W (RetQE W (simQ a b) 0) := by
 have C := fun W => rrCmpQ ha hb W
 have hc : decide ((0 : Int) < cmpQ a b) = false := by rw [cmpQ_gt0]; exact decide_eq_false (Rat.not_lt.2 h)
 have SA := fun W => rrSignQ ha W
 have SB := fun W => rrSignQ hb W
 unfold simQ
 by_cases h1 : b < 0
 ·rw [if_pos h1]
  have hp : 0 < -b := by grind
  have hle : -b ≤ -a := by grind
  rw [cmpQ_neg (show a < 0 by grind)] at SA
  rw [cmpQ_neg h1] at SB
  have S := fun W => rrSim (a.den + b.den) _ _ _ _ _ _ _ _ _ _ N (B.neg.rq (by omega)) (A.neg.rq (by omega)) hp hle (by show b.den + a.den ≤ _; omega) B.neg A.neg hN W
  have X := Qb.simF (k := a.den + b.den) A.neg hp hle (by show b.den + a.den ≤ _; omega)
  have Y := fun W => rrNegQ (X.rq (by omega)) W
  exact rSim_neg _ hc W C SA SB (rrNegQ hb) (rrNegQ ha) S Y
 rw [if_neg h1]
 by_cases h2 : a ≤ 0
 ·rw [if_pos h2]
  have hb0 : 0 ≤ cmpQ b 0 := by rcases cmpQ_ge (Rat.not_lt.1 h1) with e | e <;> rw [e] <;> decide
  have O := fun W => rrOf Rp.zero (by decide) W
  rw [Rat.intCast_zero] at O
  exact rSim_zero _ hc _ (cmpQ_le2 h2) _ hb0 W C SA SB O
 ·rw [if_neg h2]
  have h3 := Rat.not_le.1 h2
  rw [cmpQ_one h3] at SA
  have S := fun W => rrSim (a.den + b.den) _ _ _ _ _ _ _ _ _ _ N (A.rq (by omega)) (B.rq (by omega)) h3 h (Nat.le_refl _) A B hN W
  exact rSim_pos _ hc W C SA (rrCan ha) (rrCan hb) S
end
end Go.Proofs.Gv
