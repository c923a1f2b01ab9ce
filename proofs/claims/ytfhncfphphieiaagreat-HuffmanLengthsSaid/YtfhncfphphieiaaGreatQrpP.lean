import Derived.Test.YtfhncfphphieiaaGreatRefGcdP
import Derived.Test.YtfhncfphphieiaaGreatRwref6P
import Derived.Test.YtfhncfphphieiaaGreatRwref19P
set_option maxHeartbeats 4000000
set_option maxRecDepth 100000
set_option linter.unusedSimpArgs false
set_option linter.unusedVariables false
namespace Go.Proofs.Gv
open Go Go.RowKit
theorem rRatPow_w {na ma nc mc nx ny : Bool} {sa ta sc tc sx sy : ByteArray} {n0 : Int} (w : World)
  (H1 : GivesV 119 #[.agg #[.bool na, .string sa, .bool ma, .string ta]] (.agg #[.bool nc, .string sc, .bool mc, .string tc]))
  (H2 : GivesV 71 #[.agg #[.bool nc, .string sc], .int .i64 n0] (.tuple #[.agg #[.bool nx, .string sx], .int .i64 0]))
  (H3 : GivesV 71 #[.agg #[.bool mc, .string tc], .int .i64 n0] (.tuple #[.agg #[.bool ny, .string sy], .int .i64 0]))
  : Calls Tryz.prog 121 #[.agg #[.bool na, .string sa, .bool ma, .string ta], .int .i64 n0] w fun e w' => e = .returned (.tuple #[.agg #[.bool nx, .string sx, .bool ny, .string sy], .int .i64 0]) ∧ Below w.heap.size w w' := by
 replace H1 := Lib.hid H1
 replace H2 := Lib.hid H2
 replace H3 := Lib.hid H3
 go_enter Tryz.func121, Tryz.ntmps121
 have HL0 := Lib.hid (Below.refl w.heap.size w)
 have HB0 := Lib.hid (show Bs [] w from trivial)
 have HO0 := Lib.hid (show w.heap.size ≤ w.heap.size from by have := HL0.out.size; first | omega | (simp at this; omega))
 obtain ⟨HL1, HB1⟩ := growLB HL0 HB0 (w.heap.size) #[.bool na, .string sa, .bool ma, .string ta] 85
 clear HL0 HB0
 have HO1 := Lib.hid (show w.heap.size < w.heap.size + 1 from by have := (HB1.out.1).lt; first | omega | (simp at this; omega))
 obtain ⟨HL2, HB2⟩ := growLB HL1 HB1 (w.heap.size + 1) #[.bool false, .string ⟨#[]⟩, .bool false, .string ⟨#[]⟩] 85
 clear HL1 HB1
 obtain ⟨fx0_0_2, fx0_1_2, fx0_2_2, fx0_3_2⟩ := (HB2.out.2.1).at4
 go_wp2_with fail
 refine (H1.out _).mono ?_
 rintro e w1 ⟨rfl, hb⟩
 obtain ⟨HL3, HB3⟩ := cameLB HL2 HB2 hb
 clear hb
 clear HL2 HB2 fx0_0_2 fx0_1_2 fx0_2_2 fx0_3_2
 obtain ⟨fx0_0_3, fx0_1_3, fx0_2_3, fx0_3_3⟩ := (HB3.out.2.1).at4
 obtain ⟨fz0_0_3, fz0_1_3, fz0_2_3, fz0_3_3⟩ := (HB3.out.2.1).z4
 obtain ⟨HL4, HB4⟩ := keptLB (c := w.heap.size) [.bool nc, .string sc, .bool mc, .string tc] 0 1 HL3 HB3 (by have := HO0.out; have := HO1.out; omega) (by simp only [Bs.ap, Bs.ap0, List.length_cons, List.length_nil, and_true, true_and]; have := HO0.out; have := HO1.out; omega)
 simp only [setCs, setL, Bs.put, List.set_cons_succ, List.set_cons_zero, Nat.zero_add, Nat.reduceAdd] at HL4 HB4
 replace HL4 := Lib.hid HL4
 replace HB4 := Lib.hid HB4
 clear HL3 HB3
 obtain ⟨fx0_0_4, fx0_1_4⟩ := (HB4.out.2.1).at2
 go_wp2_with fail
 refine (H2.out _).mono ?_
 rintro e w2 ⟨rfl, hb⟩
 obtain ⟨HL5, HB5⟩ := cameLB HL4 HB4 hb
 clear hb
 clear HL4 HB4 fx0_0_3 fz0_0_3 fx0_1_3 fz0_1_3 fx0_2_3 fz0_2_3 fx0_3_3 fz0_3_3 fx0_0_4 fx0_1_4
 have HO2 := Lib.hid (show w.heap.size + 1 < w2.heap.size from by have := (HB5.out.1).lt; first | omega | (simp at this; omega))
 obtain ⟨HL6, HB6⟩ := growLB HL5 HB5 (w2.heap.size) #[.bool nx, .string sx] 36
 clear HL5 HB5
 have fx0_2_6 := (HB6.out.2.2.1).at 2 (.bool mc) rfl
 have fx0_3_6 := (HB6.out.2.2.1).at 3 (.string tc) rfl
 go_wp2_with fail
 refine (H3.out _).mono ?_
 rintro e w3 ⟨rfl, hb⟩
 obtain ⟨HL7, HB7⟩ := cameLB HL6 HB6 hb
 clear hb
 clear HL6 HB6 fx0_2_6 fx0_3_6
 have HO3 := Lib.hid (show w2.heap.size < w3.heap.size from by have := (HB7.out.1).lt; first | omega | (simp at this; omega))
 obtain ⟨HL8, HB8⟩ := growLB HL7 HB7 (w3.heap.size) #[.bool ny, .string sy] 36
 clear HL7 HB7
 obtain ⟨fx2_0_8, fx2_1_8⟩ := (HB8.out.2.1).at2
 obtain ⟨fx3_0_8, fx3_1_8⟩ := (HB8.out.1).at2
 obtain ⟨fx1_0_8, fx1_1_8, fx1_2_8, fx1_3_8⟩ := (HB8.out.2.2.1).at4
 obtain ⟨fz1_0_8, fz1_1_8, fz1_2_8, fz1_3_8⟩ := (HB8.out.2.2.1).z4
 obtain ⟨HL9, HB9⟩ := keptLB (c := w.heap.size + 1) [.bool nx, .string sx, .bool ny, .string sy] 0 2 HL8 HB8 (by have := HO0.out; have := HO1.out; have := HO2.out; have := HO3.out; omega) (by simp only [Bs.ap, Bs.ap0, List.length_cons, List.length_nil, and_true, true_and]; have := HO0.out; have := HO1.out; have := HO2.out; have := HO3.out; omega)
 simp only [setCs, setL, Bs.put, List.set_cons_succ, List.set_cons_zero, Nat.zero_add, Nat.reduceAdd] at HL9 HB9
 replace HL9 := Lib.hid HL9
 replace HB9 := Lib.hid HB9
 clear HL8 HB8
 obtain ⟨fx1_0_9, fx1_1_9, fx1_2_9, fx1_3_9⟩ := (HB9.out.2.2.1).at4
 go_wp2
 refine bodyPost_ret (v := .tuple #[.agg #[.bool nx, .string sx, .bool ny, .string sy], .int .i64 0]) (by simp [results, Tryz.results121, go_sem, fx1_0_9, fx1_1_9, fx1_2_9, fx1_3_9]) rfl ?_
 exact ⟨rfl, HL9.out⟩
end Go.Proofs.Gv
namespace Go.Proofs.Gv
open Go Go.RowKit
theorem rpSz {z : Int} {N : Nat} (h : z.natAbs < 2 ^ N) (hN : N ≤ 600000) : (mg z.natAbs).size ≤ 80000 :=
 Nat.le_trans (szB ((N + 7) / 8) (Nat.lt_of_lt_of_le h (Nat.pow_le_pow_right (by decide) (by omega)))) (by omega)
theorem rpSn {x N : Nat} (h : x < 2 ^ N) (hN : N ≤ 600000) : (mg x).size ≤ 80000 := by have := rpSz (z := (x : Int)) (N := N) (by simpa using h) hN; simpa using this
section
variable {na nb : Bool} {sa sb : ByteArray} {a b : Int}
theorem rrSign (ha : Rp na sa a) (W : World) : Calls Tryz.prog 110 #[.agg #[.bool na, .string sa]] W fun e w' => e = .returned (.int .i64 (cmpI a 0)) ∧ Below W.heap.size W w' :=
 rsign_w W (fun W => rCompare_any _ _ _ _ _ _ W ha Rp.zero)
theorem rrNeg (ha : Rp na sa a) (W : World) : Calls Tryz.prog 131 #[.agg #[.bool na, .string sa]] W fun e w' => e = .returned (.agg #[.bool (sgn (-a)), .string (mg (-a).natAbs)]) ∧ Below W.heap.size W w' := by
 have := rneg_any na sa W ha.sz
 rw [ha.val] at this
 exact this
theorem rrGcd (ha : Rp na sa a) (hb : Rp nb sb b) (h1 : sa.size ≤ 80000) (h2 : sb.size ≤ 80000) (W : World) :
  Calls Tryz.prog 132 #[.agg #[.bool na, .string sa], .agg #[.bool nb, .string sb]] W fun e w' => e = .returned (.agg #[.bool false, .string (mg (Nat.gcd a.natAbs b.natAbs))]) ∧ Below W.heap.size W w' := by
 have := rGcd_any na nb sa sb W (by omega) (by omega)
 unfold RetI at this
 rwa [← ha.abs, ← hb.abs, sgnQ_nat, Int.natAbs_natCast] at this
theorem rrMul (ha : Rp na sa a) (hb : Rp nb sb b) (h1 : sa.size ≤ 80000) (h2 : sb.size ≤ 80000) (W : World) :
  Calls Tryz.prog 69 #[.agg #[.bool na, .string sa], .agg #[.bool nb, .string sb]] W fun e w' => e = .returned (.agg #[.bool (sgn (a * b)), .string (mg (a * b).natAbs)]) ∧ Below W.heap.size W w' :=
 rMul_any na nb sa sb a b W ha hb (by omega) (by omega)
theorem rrAdd (ha : Rp na sa a) (hb : Rp nb sb b) (h1 : sa.size ≤ 80000) (h2 : sb.size ≤ 80000) (W : World) :
  Calls Tryz.prog 26 #[.agg #[.bool na, .string sa], .agg #[.bool nb, .string sb]] W fun e w' => e = .returned (.agg #[.bool (sgn (a + b)), .string (mg (a + b).natAbs)]) ∧ Below W.heap.size W w' :=
 rAdd_any na nb sa sb a b W ha hb (by omega) (by omega)
theorem size_le {n : Bool} {s : ByteArray} {a z : Int} (h : Rp n s a) {k : Nat} (hs : s.size ≤ k) (hz : z.natAbs ≤ a.natAbs) : (mg z.natAbs).size ≤ k := by
 refine Nat.le_trans (size_mg ?_) hs
 have h1 := iv_lt n s
 rw [h.val] at h1
 omega
theorem size_len {n : Bool} {s : ByteArray} {a : Int} {x : Nat} (h : Rp n s a) {k : Nat} (hs : s.size ≤ k) (hz : x ≤ a.natAbs) : (mg x).size ≤ k := by
 have := size_le (z := (x : Int)) h hs (by simpa using hz)
 simpa using this
end
section
variable {na ma nb mb : Bool} {sa ta sb tb : ByteArray} {a b : Rat}
theorem rrOfI {z : Int} (h1 : -9223372036854775808 ≤ z) (h2 : z < 9223372036854775808) (W : World) : Calls Tryz.prog 46 #[.int .i64 z] W fun e w' => e = .returned (.agg #[.bool (sgn z), .string (mg z.natAbs)]) ∧ Below W.heap.size W w' := rOf_any z W h1 h2
theorem of_sz {z : Int} (h1 : -9223372036854775808 ≤ z) (h2 : z < 9223372036854775808) : (mg z.natAbs).size ≤ 80000 := rpSz (N := 64) (by omega) (by decide)
theorem Rq.neg' (ha : Rq na sa ma ta a) : Rq (sgn (-a).num) (mg (-a).num.natAbs) false (mg (-a).den) (-a) := by
 obtain ⟨N, hN, A⟩ := ha.q1
 have h1 : a.num.natAbs ≤ (iv na sa).natAbs := by rw [← ha.val]; exact div_num_le _ _
 have h2 : a.den ≤ max 1 (iv ma ta).natAbs := by rw [← ha.val]; exact div_den_le _ _
 refine ⟨by rw [iv_V, iv_mgN, low_self], ?_, ?_⟩
 ·rw [q_neg_num, Int.natAbs_neg]; exact size_le ha.up ha.s1 h1
 ·show (mg a.den).size ≤ 20000
  rcases Nat.le_total 1 (iv ma ta).natAbs with h | h
  ·rw [Nat.max_eq_right h] at h2; exact size_len ha.lo ha.s2 h2
  ·rw [Nat.max_eq_left h] at h2
   exact Nat.le_trans (size_mg (k := 1) (by omega)) (by decide)
end
end Go.Proofs.Gv
namespace Go.Proofs.Gv
open Go Go.RowKit
theorem rDivP (na nb : Bool) (sa sb : ByteArray) (a b q : Int) (w : World) (ha : Rp na sa a) (hb : Rp nb sb b) (h1 : sa.size ≤ 90000) (h2 : sb.size ≤ 90000) (h0 : 0 < b) (hd : DivSpec a b q 0) :
  Calls Tryz.prog 133 #[.agg #[.bool na, .string sa], .agg #[.bool nb, .string sb]] w (RetDv w q 0) := by
 have hb0 : b.natAbs ≠ 0 := by omega
 have e := Nat.div_add_mod a.natAbs b.natAbs
 have hl := Nat.mod_lt a.natAbs (Nat.pos_of_ne_zero hb0)
 have es2 : sgn b = false := by unfold sgn; exact decide_eq_false (by omega)
 have ways : (((mg a.natAbs).size : Int) < 8 ∧ ((mg b.natAbs).size : Int) < 8) ∨ (decide (((mg a.natAbs).size : Int) < 8) = false ∨ (((mg a.natAbs).size : Int) < 8 ∧ decide (((mg b.natAbs).size : Int) < 8) = false)) := by
  by_cases h8 : ((mg a.natAbs).size : Int) < 8
  ·by_cases h9 : ((mg b.natAbs).size : Int) < 8
   ·exact .inl ⟨h8, h9⟩
   ·exact .inr (.inr ⟨h8, decide_eq_false h9⟩)
  ·exact .inr (.inl (decide_eq_false h8))
 have fin : ∀ q' r', DivSpec a b q' r' → Calls Tryz.prog 133 #[.agg #[.bool na, .string sa], .agg #[.bool nb, .string sb]] w (RetDv w q' r') →
   Calls Tryz.prog 133 #[.agg #[.bool na, .string sa], .agg #[.bool nb, .string sb]] w (RetDv w q 0) := fun q' r' hd' hc => by
  obtain ⟨rfl, rfl⟩ := div_uniq hd hd'
  exact hc
 cases es1 : sgn a
 ·refine fin _ _ ?_ (ways.elim (fun h => rdv_S_ff na nb sa sb a b w ha hb h1 h2 hb0 es1 es2 h.1 h.2) (fun h => rdv_L_ff na nb sa sb a b w ha hb h1 h2 hb0 es1 es2 h))
  exact dsp_of (sgn_f es1) (sgn_f es2) (dsp_pp e hl)
 ·have hR : a.natAbs % b.natAbs = 0 := by
   have h3 : a = q * b := by have := hd.1; omega
   rw [h3, Int.natAbs_mul]
   exact Nat.mul_mod_left _ _
  refine fin _ _ ?_ (ways.elim (fun h => rdv_S_tf0 na nb sa sb a b w ha hb h1 h2 hb0 es1 es2 hR h.1 h.2) (fun h => rdv_L_tf0 na nb sa sb a b w ha hb h1 h2 hb0 es1 es2 hR h))
  exact dsp_of (sgn_t es1) (sgn_f es2) (dsp_np0 e hl hR)
section
variable {na nb : Bool} {sa sb : ByteArray} {a b : Int}
theorem rrDivP {q : Int} (ha : Rp na sa a) (hb : Rp nb sb b) (h1 : sa.size ≤ 80000) (h2 : sb.size ≤ 80000) (hd : DivSpec a b q 0) (h0 : 0 < b) (W : World) :
  Calls Tryz.prog 133 #[.agg #[.bool na, .string sa], .agg #[.bool nb, .string sb]] W fun e w' => e = .returned (.tuple #[.agg #[.bool (sgn q), .string (mg q.natAbs)], .agg #[.bool (sgn 0), .string (mg (Int.natAbs 0))], .int .i64 0]) ∧ Below W.heap.size W w' :=
 rDivP na nb sa sb a b q W ha hb (by omega) (by omega) h0 hd
theorem rrLowP (ha : Rp na sa a) (hb : Rp nb sb b) (h1 : sa.size ≤ 80000) (h2 : sb.size ≤ 80000) (h : 0 < b) (W : World) :
  Calls Tryz.prog 120 #[.agg #[.bool na, .string sa], .agg #[.bool nb, .string sb]] W (RetQ W (Rat.divInt a b)) := by
 have C1 := rrSign hb
 rw [cmpI_pos h] at C1
 have hgl : Nat.gcd a.natAbs b.natAbs ≤ b.natAbs := Nat.gcd_le_right _ (by omega)
 have hg : 0 < Nat.gcd a.natAbs b.natAbs := Nat.gcd_pos_of_pos_right _ (by omega)
 have G := rrGcd ha hb h1 h2
 have hg' := rp_nat hb hgl
 have sg' := size_len hb h2 hgl
 have D1 := rrDivP ha hg' h1 sg' (low_num (n := a) (d := b) h) (by omega)
 have D2 := rrDivP hb hg' h2 sg' (low_den (n := a) (d := b) h) (by omega)
 rw [sgnQ_nat, Int.natAbs_natCast] at D2
 exact rlow_pos W C1 G D1 D2
end
section
variable {na ma nb mb : Bool} {sa ta sb tb : ByteArray} {a b : Rat}
theorem rrCanP (h : Rq na sa ma ta a) (h0 : 0 < iv ma ta) (W : World) : Calls Tryz.prog 119 #[.agg #[.bool na, .string sa, .bool ma, .string ta]] W (RetQ W a) := by
 have S := rrSign h.lo
 have L := fun W => rrLowP h.up h.lo (Nat.le_trans h.s1 (by decide)) (Nat.le_trans h.s2 (by decide)) h0 W
 rw [h.val] at L
 exact rCanon_w _ (cmpI_ne (by omega)) W S L
theorem rrRatioP {x y : Int} (h1 : -9223372036854775808 ≤ x) (h2 : x < 9223372036854775808) (h4 : y < 9223372036854775808) (h0 : 0 < y) (W : World) :
  Calls Tryz.prog 112 #[.int .i64 x, .int .i64 y] W (RetQE W (Rat.divInt x y) 0) := by
 have h' := rp_of (z := y) (by omega) h4
 have h := rp_of h1 h2
 have s1 := of_sz h1 h2
 have s2 := of_sz (z := y) (by omega) h4
 have N : ∀ W, Calls Tryz.prog 123 #[.agg #[.bool (sgn x), .string (mg x.natAbs)], .agg #[.bool (sgn y), .string (mg y.natAbs)]] W (RetQE W (Rat.divInt x y) 0) := fun W => rRatNew_w _ (cmpI_ne (by omega)) W (rrSign h') (fun W => rrLowP h h' s1 s2 h0 W)
 exact rRatRatio_w W (rrOfI h1 h2) (rrOfI (by omega) h4) N
theorem rrAddQP (ha : Rq na sa ma ta a) (pa : 0 < iv ma ta) (hb : Rq nb sb mb tb b) (pb : 0 < iv mb tb) (W : World) : Calls Tryz.prog 108 #[.agg #[.bool na, .string sa, .bool ma, .string ta], .agg #[.bool nb, .string sb, .bool mb, .string tb]] W (RetQ W (a + b)) := by
 obtain ⟨N, hN, A⟩ := ha.q1
 obtain ⟨M, hM, B⟩ := hb.q1
 have a1 := rp_num A (by omega)
 have a2 := rp_den A (by omega)
 have b1 := rp_num B (by omega)
 have b2 := rp_den B (by omega)
 have za1 := rpSz A.num (by omega)
 have za2 := rpSn A.lo (by omega)
 have zb1 := rpSz B.num (by omega)
 have zb2 := rpSn B.lo (by omega)
 have hp : (0 : Int) < (a.den : Int) * (b.den : Int) := Int.mul_pos (by have := a.den_pos; omega) (by have := b.den_pos; omega)
 have L := fun W => rrLowP (rpV (iadd_lt (A.numden B) (A.dennum B)) (by omega)) (rpV (A.denden B) (by omega)) (rpSz (iadd_lt (A.numden B) (A.dennum B)) (by omega)) (rpSz (A.denden B) (by omega)) hp W
 rw [q_add] at L
 exact rRatAdd_w W (rrCanP ha pa) (rrCanP hb pb) (rrMul a1 b2 za1 zb2) (rrMul b1 a2 zb1 za2) (rrAdd (rpV (A.numden B) (by omega)) (rpV (A.dennum B) (by omega)) (rpSz (A.numden B) (by omega)) (rpSz (A.dennum B) (by omega))) (rrMul a2 b2 za2 zb2) L
theorem pDen (a : Rat) : 0 < iv false (mg a.den) := by
 rw [iv_mgN]
 have := a.den_pos
 omega
theorem rrSubQP (ha : Rq na sa ma ta a) (pa : 0 < iv ma ta) (hb : Rq nb sb mb tb b) (pb : 0 < iv mb tb) (W : World) : Calls Tryz.prog 111 #[.agg #[.bool na, .string sa, .bool ma, .string ta], .agg #[.bool nb, .string sb, .bool mb, .string tb]] W (RetQ W (a - b)) := by
 have L := fun W => rrAddQP ha pa hb.neg' (pDen _) W
 rw [← Rat.sub_eq_add_neg] at L
 obtain ⟨M, hM, B⟩ := hb.q1
 have NG : ∀ W, Calls Tryz.prog 122 #[.agg #[.bool nb, .string sb, .bool mb, .string tb]] W (RetQ W (-b)) := fun W => (rRatNeg_w W (rrCanP hb pb) (rrNeg (rp_num B (by omega)))).mono fun e w' h => h
 exact rRatSub_w W NG L
theorem rrCmpQP (ha : Rq na sa ma ta a) (pa : 0 < iv ma ta) (hb : Rq nb sb mb tb b) (pb : 0 < iv mb tb) (W : World) : Calls Tryz.prog 87 #[.agg #[.bool na, .string sa, .bool ma, .string ta], .agg #[.bool nb, .string sb, .bool mb, .string tb]] W fun e w' => e = .returned (.int .i64 (cmpQ a b)) ∧ Below W.heap.size W w' := by
 obtain ⟨N, hN, A⟩ := ha.q1
 obtain ⟨M, hM, B⟩ := hb.q1
 have S := rrSign (rp_num (A.sub B) (by omega))
 rw [cmpQ_sub] at S
 exact rRatCmp_w W (rrSubQP ha pa hb pb) S
theorem rrPowP (ha : Rq na sa ma ta a) (pa : 0 < iv ma ta) {N : Nat} (hq : Qb N a) (n : Nat) (h1 : n ≤ 4096) (h2 : n * N ≤ 65536) (W : World) :
  Calls Tryz.prog 121 #[.agg #[.bool na, .string sa, .bool ma, .string ta], .int .i64 n] W (RetQE W (a ^ n) 0) := by
 obtain ⟨M, hM, A⟩ := ha.q1
 have b1 : bl a.num.natAbs ≤ N := bl_lt hq.up
 have b2 : bl (a.den : Int).natAbs ≤ N := bl_lt hq.den
 have r1 := rp_num A (by omega)
 have r2 := rp_den A (by omega)
 have P1 := fun W => rPower_any (sgn a.num) (mg a.num.natAbs) (n : Int) W (Nat.le_trans (rpSz A.num (by omega)) (by decide))
 have P2 := fun W => rPower_any false (mg a.den) (n : Int) W (Nat.le_trans (rpSn A.lo (by omega)) (by decide))
 have hE1 : powE (iv (sgn a.num) (mg a.num.natAbs)) n = 0 := by
  rw [r1.val]; unfold powE
  rw [if_neg (by omega), if_neg (by rw [Int.toNat_natCast]; have := Nat.mul_le_mul_left n b1; omega)]
 have hE2 : powE (iv false (mg a.den)) n = 0 := by
  rw [r2.val]; unfold powE
  rw [if_neg (by omega), if_neg (by rw [Int.toNat_natCast]; have := Nat.mul_le_mul_left n b2; omega)]
 have hV1 : powV (iv (sgn a.num) (mg a.num.natAbs)) n = (a ^ n).num := by unfold powV; rw [if_pos hE1, r1.val, Int.toNat_natCast, Rat.num_pow]
 have hV2 : powV (iv false (mg a.den)) n = ((a ^ n).den : Int) := by unfold powV; rw [if_pos hE2, r2.val, Int.toNat_natCast, Rat.den_pow, Int.natCast_pow]
 unfold RetIE at P1 P2
 rw [hE1, hV1] at P1
 rw [hE2, hV2, sgnQ_nat, Int.natAbs_natCast] at P2
 exact rRatPow_w W (rrCanP ha pa) P1 P2
end
end Go.Proofs.Gv
