import Derived.Test.YtamempcabmlodaaGreatDoorRwothers5P
set_option maxHeartbeats 4000000
set_option maxRecDepth 100000
set_option linter.unusedSimpArgs false
set_option linter.unusedVariables false
namespace Go.Proofs.Gv
open Go Go.RowKit
theorem others_law2 {nx mx nu mu nq mq : Bool} {sx tx su tu sq tq : ByteArray} {e1 e2 e3 : Int} (na ma : Bool) (sa ta : ByteArray) (nb mb : Bool) (sb tb : ByteArray) (hgz : ∀ x ∈ ([(na, sa, ma, ta), (nb, sb, mb, tb)] : List (Bool × ByteArray × Bool × ByteArray)), x.2.1.size ≤ maxLen ∧ x.2.2.2.size ≤ maxLen) (hgr : grQ 24 [(na, sa, ma, ta), (nb, sb, mb, tb)] = false) (n0 : Int) (hn1 : 40 < n0) (hn2 : decide (n0 ≤ 4096) = false) (s0 : ByteArray) (hl : decide ((200 : Int) < s0.size) = false) (sp : ByteArray) (w : World)
  (H1 : GivesV 29 #[.agg #[.bool na, .string sa, .bool ma, .string ta], .int .i64 n0] (.tuple #[.agg #[.bool nx, .string sx, .bool mx, .string tx], .int .i64 e1]))
  (H2 : GivesV 30 #[.agg #[.bool na, .string sa, .bool ma, .string ta], .int .i64 n0] (.tuple #[.agg #[.bool nx, .string sx, .bool mx, .string tx], .int .i64 e1]))
  (H3 : GivesV 31 #[.agg #[.bool na, .string sa, .bool ma, .string ta], .agg #[.bool nb, .string sb, .bool mb, .string tb]] (.tuple #[.agg #[.bool nu, .string su, .bool mu, .string tu], .int .i64 e2]))
  (H4 : GivesV 32 #[.agg #[.bool na, .string sa, .bool ma, .string ta], .agg #[.bool nb, .string sb, .bool mb, .string tb]] (.tuple #[.agg #[.bool nu, .string su, .bool mu, .string tu], .int .i64 e2]))
  (H5 : GivesV 33 #[.string s0] (.tuple #[.agg #[.bool nq, .string sq, .bool mq, .string tq], .int .i64 e3]))
  (H6 : GivesV 34 #[.string s0] (.tuple #[.agg #[.bool nq, .string sq, .bool mq, .string tq], .int .i64 e3]))
  (H7 : GivesV 35 #[.agg #[.bool na, .string sa, .bool ma, .string ta]] (.string sp))
  (H8 : GivesV 36 #[.agg #[.bool na, .string sa, .bool ma, .string ta]] (.string sp))
  (H9 : GivesV 6 #[] (.bool true))
  : Calls Tryz.prog 4 #[.agg #[.bool na, .string sa, .bool ma, .string ta], .agg #[.bool nb, .string sb, .bool mb, .string tb], .int .i64 n0, .string s0] w fun e w' => e = .returned (.bool true) ∧ Below w.heap.size w w' := by
 replace H1 := Lib.hid H1
 replace H2 := Lib.hid H2
 replace H3 := Lib.hid H3
 replace H4 := Lib.hid H4
 replace H5 := Lib.hid H5
 replace H6 := Lib.hid H6
 replace H7 := Lib.hid H7
 replace H8 := Lib.hid H8
 replace H9 := Lib.hid H9
 have HGZ := Lib.hid hgz
 clear hgz
 have qx : eqQ nx sx mx tx nx sx mx tx = true := eqQ_iff.2 ⟨⟨rfl, rfl⟩, ⟨rfl, rfl⟩⟩
 have qu : eqQ nu su mu tu nu su mu tu = true := eqQ_iff.2 ⟨⟨rfl, rfl⟩, ⟨rfl, rfl⟩⟩
 have qq : eqQ nq sq mq tq nq sq mq tq = true := eqQ_iff.2 ⟨⟨rfl, rfl⟩, ⟨rfl, rfl⟩⟩
 go_enter Tryz.func4, Tryz.ntmps4
 have HL0 := Lib.hid (Below.refl w.heap.size w)
 have HB0 := Lib.hid (show Bs [] w from trivial)
 have HO0 := Lib.hid (show w.heap.size ≤ w.heap.size from by have := HL0.out.size; first | omega | (simp at this; omega))
 obtain ⟨HL1, HB1⟩ := growLB HL0 HB0 (w.heap.size) #[.bool na, .string sa, .bool ma, .string ta] 25
 clear HL0 HB0
 have HO1 := Lib.hid (show w.heap.size < w.heap.size + 1 from by have := (HB1.out.1).lt; first | omega | (simp at this; omega))
 obtain ⟨HL2, HB2⟩ := growLB HL1 HB1 (w.heap.size + 1) #[.bool nb, .string sb, .bool mb, .string tb] 25
 clear HL1 HB1
 obtain ⟨fx0_0_2, fx0_1_2, fx0_2_2, fx0_3_2⟩ := (HB2.out.2.1).at4
 obtain ⟨fx1_0_2, fx1_1_2, fx1_2_2, fx1_3_2⟩ := (HB2.out.1).at4
 have HO2 := Lib.hid (show w.heap.size + 1 < w.heap.size + 1 + 1 from by have := (HB2.out.1).lt; first | omega | (simp at this; omega))
 obtain ⟨HL3, HB3⟩ := growLB HL2 HB2 (w.heap.size + 1 + 1) #[.bool na, .string sa, .bool ma, .string ta, .bool nb, .string sb, .bool mb, .string tb] 25
 clear HL2 HB2
 go_wp2_with fail
 refine (greatQ_box [(na, sa, ma, ta), (nb, sb, mb, tb)] (HB3.out.1) (show 2 ≤ 1000 by decide) HGZ.out).mono ?_
 rintro e w1 ⟨rfl, hb⟩
 obtain ⟨HL4, HB4⟩ := cameLB HL3 HB3 hb
 clear hb
 clear HL3 HB3 fx0_0_2 fx0_1_2 fx0_2_2 fx0_3_2 fx1_0_2 fx1_1_2 fx1_2_2 fx1_3_2
 obtain ⟨fx0_0_4, fx0_1_4, fx0_2_4, fx0_3_4⟩ := (HB4.out.2.2.1).at4
 go_wp2_with fail
 refine (H1.out _).mono ?_
 rintro e w2 ⟨rfl, hb⟩
 obtain ⟨HL5, HB5⟩ := cameLB HL4 HB4 hb
 clear hb
 clear HL4 HB4 fx0_0_4 fx0_1_4 fx0_2_4 fx0_3_4
 have HO3 := Lib.hid (show w.heap.size + 1 + 1 < w2.heap.size from by have := (HB5.out.1).lt; first | omega | (simp at this; omega))
 obtain ⟨HL6, HB6⟩ := growLB HL5 HB5 (w2.heap.size) #[.bool nx, .string sx, .bool mx, .string tx] 25
 clear HL5 HB5
 obtain ⟨fx0_0_6, fx0_1_6, fx0_2_6, fx0_3_6⟩ := (HB6.out.2.2.2.1).at4
 go_wp2_with fail
 refine (H2.out _).mono ?_
 rintro e w3 ⟨rfl, hb⟩
 obtain ⟨HL7, HB7⟩ := cameLB HL6 HB6 hb
 clear hb
 clear HL6 HB6 fx0_0_6 fx0_1_6 fx0_2_6 fx0_3_6
 have HO4 := Lib.hid (show w2.heap.size < w3.heap.size from by have := (HB7.out.1).lt; first | omega | (simp at this; omega))
 obtain ⟨HL8, HB8⟩ := growLB HL7 HB7 (w3.heap.size) #[.bool nx, .string sx, .bool mx, .string tx] 25
 clear HL7 HB7
 obtain ⟨fx0_0_8, fx0_1_8, fx0_2_8, fx0_3_8⟩ := (HB8.out.2.2.2.2.1).at4
 obtain ⟨fx1_0_8, fx1_1_8, fx1_2_8, fx1_3_8⟩ := (HB8.out.2.2.2.1).at4
 go_wp2_with fail
 refine (H3.out _).mono ?_
 rintro e w4 ⟨rfl, hb⟩
 obtain ⟨HL9, HB9⟩ := cameLB HL8 HB8 hb
 clear hb
 clear HL8 HB8 fx0_0_8 fx0_1_8 fx0_2_8 fx0_3_8 fx1_0_8 fx1_1_8 fx1_2_8 fx1_3_8
 have HO5 := Lib.hid (show w3.heap.size < w4.heap.size from by have := (HB9.out.1).lt; first | omega | (simp at this; omega))
 obtain ⟨HL10, HB10⟩ := growLB HL9 HB9 (w4.heap.size) #[.bool nu, .string su, .bool mu, .string tu] 25
 clear HL9 HB9
 obtain ⟨fx0_0_10, fx0_1_10, fx0_2_10, fx0_3_10⟩ := (HB10.out.2.2.2.2.2.1).at4
 obtain ⟨fx1_0_10, fx1_1_10, fx1_2_10, fx1_3_10⟩ := (HB10.out.2.2.2.2.1).at4
 go_wp2_with fail
 refine (H4.out _).mono ?_
 rintro e w5 ⟨rfl, hb⟩
 obtain ⟨HL11, HB11⟩ := cameLB HL10 HB10 hb
 clear hb
 clear HL10 HB10 fx0_0_10 fx0_1_10 fx0_2_10 fx0_3_10 fx1_0_10 fx1_1_10 fx1_2_10 fx1_3_10
 have HO6 := Lib.hid (show w4.heap.size < w5.heap.size from by have := (HB11.out.1).lt; first | omega | (simp at this; omega))
 obtain ⟨HL12, HB12⟩ := growLB HL11 HB11 (w5.heap.size) #[.bool nu, .string su, .bool mu, .string tu] 25
 clear HL11 HB11
 go_wp2_with fail
 refine (H5.out _).mono ?_
 rintro e w6 ⟨rfl, hb⟩
 obtain ⟨HL13, HB13⟩ := cameLB HL12 HB12 hb
 clear hb
 clear HL12 HB12
 have HO7 := Lib.hid (show w5.heap.size < w6.heap.size from by have := (HB13.out.1).lt; first | omega | (simp at this; omega))
 obtain ⟨HL14, HB14⟩ := growLB HL13 HB13 (w6.heap.size) #[.bool nq, .string sq, .bool mq, .string tq] 25
 clear HL13 HB13
 go_wp2_with fail
 refine (H6.out _).mono ?_
 rintro e w7 ⟨rfl, hb⟩
 obtain ⟨HL15, HB15⟩ := cameLB HL14 HB14 hb
 clear hb
 clear HL14 HB14
 have HO8 := Lib.hid (show w6.heap.size < w7.heap.size from by have := (HB15.out.1).lt; first | omega | (simp at this; omega))
 obtain ⟨HL16, HB16⟩ := growLB HL15 HB15 (w7.heap.size) #[.bool nq, .string sq, .bool mq, .string tq] 25
 clear HL15 HB15
 go_wp2_with fail
 obtain ⟨Bw2, hB⟩ : ∃ B, w2.heap.size = B := ⟨_, rfl⟩
 rw [hB] at HB16 ⊢
 try rw [hB] at HO0
 try rw [hB] at HO1
 try rw [hB] at HO2
 try rw [hB] at HO3
 try rw [hB] at HO4
 try rw [hB] at HO5
 try rw [hB] at HO6
 try rw [hB] at HO7
 try rw [hB] at HO8
 clear hB
 obtain ⟨Bw3, hB⟩ : ∃ B, w3.heap.size = B := ⟨_, rfl⟩
 rw [hB] at HB16 ⊢
 try rw [hB] at HO0
 try rw [hB] at HO1
 try rw [hB] at HO2
 try rw [hB] at HO3
 try rw [hB] at HO4
 try rw [hB] at HO5
 try rw [hB] at HO6
 try rw [hB] at HO7
 try rw [hB] at HO8
 clear hB
 obtain ⟨Bw4, hB⟩ : ∃ B, w4.heap.size = B := ⟨_, rfl⟩
 rw [hB] at HB16 ⊢
 try rw [hB] at HO0
 try rw [hB] at HO1
 try rw [hB] at HO2
 try rw [hB] at HO3
 try rw [hB] at HO4
 try rw [hB] at HO5
 try rw [hB] at HO6
 try rw [hB] at HO7
 try rw [hB] at HO8
 clear hB
 obtain ⟨Bw5, hB⟩ : ∃ B, w5.heap.size = B := ⟨_, rfl⟩
 rw [hB] at HB16 ⊢
 try rw [hB] at HO0
 try rw [hB] at HO1
 try rw [hB] at HO2
 try rw [hB] at HO3
 try rw [hB] at HO4
 try rw [hB] at HO5
 try rw [hB] at HO6
 try rw [hB] at HO7
 try rw [hB] at HO8
 clear hB
 obtain ⟨Bw6, hB⟩ : ∃ B, w6.heap.size = B := ⟨_, rfl⟩
 rw [hB] at HB16 ⊢
 try rw [hB] at HO0
 try rw [hB] at HO1
 try rw [hB] at HO2
 try rw [hB] at HO3
 try rw [hB] at HO4
 try rw [hB] at HO5
 try rw [hB] at HO6
 try rw [hB] at HO7
 try rw [hB] at HO8
 clear hB
 obtain ⟨Bw7, hB⟩ : ∃ B, w7.heap.size = B := ⟨_, rfl⟩
 rw [hB] at HB16 ⊢
 try rw [hB] at HO0
 try rw [hB] at HO1
 try rw [hB] at HO2
 try rw [hB] at HO3
 try rw [hB] at HO4
 try rw [hB] at HO5
 try rw [hB] at HO6
 try rw [hB] at HO7
 try rw [hB] at HO8
 clear hB
 obtain ⟨W8, hW⟩ : ∃ W, (w7.alloc (.cells #[.bool nq, .string sq, .bool mq, .string tq] 25)) = W := ⟨_, rfl⟩
 rw [hW] at HB16 HL16 ⊢
 clear hW
 haveI := cls_some W8
 obtain ⟨fq3_0, fq3_1, fq3_2, fq3_3⟩ := BC.all4 fun u : Cl W8 => ((HB16.out.bel u.h).2.2.2.2.2.1)
 obtain ⟨fq4_0, fq4_1, fq4_2, fq4_3⟩ := BC.all4 fun u : Cl W8 => ((HB16.out.bel u.h).2.2.2.2.1)
 obtain ⟨fq5_0, fq5_1, fq5_2, fq5_3⟩ := BC.all4 fun u : Cl W8 => ((HB16.out.bel u.h).2.2.2.1)
 obtain ⟨fq6_0, fq6_1, fq6_2, fq6_3⟩ := BC.all4 fun u : Cl W8 => ((HB16.out.bel u.h).2.2.1)
 obtain ⟨fq7_0, fq7_1, fq7_2, fq7_3⟩ := BC.all4 fun u : Cl W8 => ((HB16.out.bel u.h).2.1)
 obtain ⟨fq8_0, fq8_1, fq8_2, fq8_3⟩ := BC.all4 fun u : Cl W8 => ((HB16.out.bel u.h).1)
 obtain ⟨fq0_0, fq0_1, fq0_2, fq0_3⟩ := BC.all4 fun u : Cl W8 => ((HB16.out.bel u.h).2.2.2.2.2.2.2.2.1)
 refine wp_region_cls (by kernel_rfl) ?_
 iterate 30 (go_big_quiet_step (fail))
 go_big_quiet_step ((go_at_call 35; exact quiet_cls H7.out _))
 iterate 1 (go_big_quiet_step (fail))
 go_big_quiet_step ((go_at_call 36; exact quiet_cls H8.out _))
 iterate 3 (go_big_quiet_step (fail))
 go_big_quiet_step ((go_at_call 6; exact quiet_cls H9.out _))
 iterate 2 (go_big_quiet_step (fail))
 refine wpQuiet_nil ?_
 intro w9 hw9
 have hb : Below W8.heap.size W8 w9 := by obtain ⟨u, rfl⟩ := hw9; exact u.h
 clear hw9 this fq3_0 fq3_1 fq3_2 fq3_3 fq4_0 fq4_1 fq4_2 fq4_3 fq5_0 fq5_1 fq5_2 fq5_3 fq6_0 fq6_1 fq6_2 fq6_3 fq7_0 fq7_1 fq7_2 fq7_3 fq8_0 fq8_1 fq8_2 fq8_3 fq0_0 fq0_1 fq0_2 fq0_3
 obtain ⟨HL17, HB17⟩ := cameLB HL16 HB16 hb
 clear hb
 clear HL16 HB16
 go_wp2
 go_ret
 exact ⟨rfl, HL17.out⟩
theorem law_others (na ma : Bool) (sa ta : ByteArray) (nb mb : Bool) (sb tb : ByteArray) (n0 : Int) (s0 : ByteArray) (w : World) (hs : sa.size ≤ maxLen) (ht : ta.size ≤ maxLen) (hs' : sb.size ≤ maxLen) (ht' : tb.size ≤ maxLen) (hn : (Lit.int .i64 n0).wf = true) (h0 : s0.size ≤ maxLen) :
  Calls Tryz.prog 4 #[.agg #[.bool na, .string sa, .bool ma, .string ta], .agg #[.bool nb, .string sb, .bool mb, .string tb], .int .i64 n0, .string s0] w fun e w' => e = .returned (.bool true) ∧ Below w.heap.size w w' := by
 obtain ⟨n1, n2⟩ := bounds_i64 hn
 have hz := hz2 (na := na) (ma := ma) (nb := nb) (mb := mb) hs ht hs' ht'
 cases hgr : grQ 24 [(na, sa, ma, ta), (nb, sb, mb, tb)] with
 | true => exact others_great na ma sa ta nb mb sb tb hz hgr w cAwake02
 | false =>
   obtain ⟨h1, h2⟩ := grQ_false hgr (na, sa, ma, ta) (by simp)
   obtain ⟨h3, h4⟩ := grQ_false hgr (nb, sb, mb, tb) (by simp)
   by_cases hmid : 40 < n0 ∧ n0 ≤ 4096
   ·exact others_mid na ma sa ta nb mb sb tb hz hgr n0 hmid.1 hmid.2 w cAwake02
   have hmid2 : decide ((40 : Int) < n0) = false ∨ decide (n0 ≤ 4096) = false := by
    by_cases h : 40 < n0
    ·exact .inr (decide_eq_false fun h2 => hmid ⟨h, h2⟩)
    ·exact .inl (decide_eq_false h)
   by_cases hl : 200 < s0.size
   ·rcases hmid2 with hm | hm
    ·exact others_long na ma sa ta nb mb sb tb hz hgr n0 hm s0 (by omega) w cAwake02
    ·exact others_long2 na ma sa ta nb mb sb tb hz hgr n0 (by have := of_decide_eq_false hm; omega) hm s0 (by omega) w cAwake02
   obtain ⟨a, N, RA, A, hN⟩ := rq_small (n := na) (m := ma) 24 (by decide) h1 h2
   obtain ⟨b, M, RB, B, hM⟩ := rq_small (n := nb) (m := mb) 24 (by decide) h3 h4
   obtain ⟨K, hK, A', B'⟩ : ∃ K, K ≤ 200 ∧ Qb K a ∧ Qb K b := ⟨200, Nat.le_refl _, A.mono (by omega), B.mono (by omega)⟩
   have hlo : decide ((200 : Int) < s0.size) = false := decide_eq_false (by omega)
   obtain ⟨nx, sx, mx, tx, e1, X1, X2⟩ : ∃ nx sx mx tx e1, (∀ W, Calls Tryz.prog 29 #[.agg #[.bool na, .string sa, .bool ma, .string ta], .int .i64 n0] W (RetT nx sx mx tx e1 W)) ∧ (∀ W, Calls Tryz.prog 30 #[.agg #[.bool na, .string sa, .bool ma, .string ta], .int .i64 n0] W (RetT nx sx mx tx e1 W)) := by
    by_cases hr : n0 < 0 ∨ 4096 < n0
    ·exact ⟨_, _, _, _, _, cQPowE RA n0 n1 (by omega) hr, rrPowE RA n0 hr⟩
    ·obtain ⟨k, rfl⟩ : ∃ k : Nat, n0 = k := ⟨n0.toNat, by omega⟩
     have hk : k ≤ 40 := by omega
     have hkk : k * K ≤ 65536 := Nat.le_trans (Nat.mul_le_mul hk hK) (by decide)
     exact ⟨_, _, _, _, _, cQPow RA A' k (by omega) hkk, rrPow RA A' k (by omega) hkk⟩
   obtain ⟨nu, su, mu, tu, e2, U1, U2⟩ : ∃ nx sx mx tx e1, (∀ W, Calls Tryz.prog 31 #[.agg #[.bool na, .string sa, .bool ma, .string ta], .agg #[.bool nb, .string sb, .bool mb, .string tb]] W (RetT nx sx mx tx e1 W)) ∧ (∀ W, Calls Tryz.prog 32 #[.agg #[.bool na, .string sa, .bool ma, .string ta], .agg #[.bool nb, .string sb, .bool mb, .string tb]] W (RetT nx sx mx tx e1 W)) := by
    by_cases hr : b < a
    ·exact ⟨_, _, _, _, _, cQSimO RA RB A' B' (by omega) hr, rrSimO RA RB hr⟩
    ·exact ⟨_, _, _, _, _, cQSim RA RB A' B' (by omega) (Rat.not_lt.1 hr), rrSimQ RA RB A' B' (by omega) (Rat.not_lt.1 hr)⟩
   obtain ⟨nq, sq, mq, tq, e3, Q1, Q2⟩ : ∃ nx sx mx tx e1, (∀ W, Calls Tryz.prog 33 #[.string s0] W (RetT nx sx mx tx e1 W)) ∧ (∀ W, Calls Tryz.prog 34 #[.string s0] W (RetT nx sx mx tx e1 W)) := by
    have P1 := fun W => cQParse (s := s0) (by omega) W
    have P2 := fun W => rrParse (s := s0) (by omega) W
    cases hp : ratP s0.data.toList with
    | some q => rw [hp] at P1 P2; exact ⟨_, _, _, _, _, P1, P2⟩
    | none => rw [hp] at P1 P2; exact ⟨_, _, _, _, _, P1, P2⟩
   rcases hmid2 with hm | hm
   ·exact others_law na ma sa ta nb mb sb tb hz hgr n0 hm s0 hlo _ w X1 X2 U1 U2 Q1 Q2 (cQPrint RA) (rrPrint RA) cAwake02
   ·exact others_law2 na ma sa ta nb mb sb tb hz hgr n0 (by have := of_decide_eq_false hm; omega) hm s0 hlo _ w X1 X2 U1 U2 Q1 Q2 (cQPrint RA) (rrPrint RA) cAwake02
end Go.Proofs.Gv
