import Derived.Test.YtamempcabmlodaaGreatDoorRwlow2P
set_option maxHeartbeats 4000000
set_option maxRecDepth 100000
set_option linter.unusedSimpArgs false
set_option linter.unusedVariables false
namespace Go.Proofs.Gv
open Go Go.RowKit
variable {na ma nc mc nx ny nf nl nk mk nb mb nr mr ng nh mh no1 np1 mp1 nd1 md1 nq1 mq1 no2 np2 mp2 nd2 md2 nq2 mq2 no3 np3 mp3 ns3 ms3 nq3 mq3 : Bool} {sa ta sc tc sx sy sf sl sk tk sb tb sr tr sg sh th so1 sp1 tp1 sd1 td1 sq1 tq1 so2 sp2 tp2 sd2 td2 sq2 tq2 so3 sp3 tp3 ss3 ts3 sq3 tq3 : ByteArray}
theorem rRatPow_w {n0 : Int} (w : World)
  (H1 : GivesV 47 #[.agg #[.bool na, .string sa, .bool ma, .string ta]] (.agg #[.bool nc, .string sc, .bool mc, .string tc]))
  (H2 : GivesV 57 #[.agg #[.bool nc, .string sc], .int .i64 n0] (.tuple #[.agg #[.bool nx, .string sx], .int .i64 0]))
  (H3 : GivesV 57 #[.agg #[.bool mc, .string tc], .int .i64 n0] (.tuple #[.agg #[.bool ny, .string sy], .int .i64 0]))
  : Calls Tryz.prog 30 #[.agg #[.bool na, .string sa, .bool ma, .string ta], .int .i64 n0] w fun e w' => e = .returned (.tuple #[.agg #[.bool nx, .string sx, .bool ny, .string sy], .int .i64 0]) ∧ Below w.heap.size w w' := by
 replace H1 := Lib.hid H1
 replace H2 := Lib.hid H2
 replace H3 := Lib.hid H3
 go_enter Tryz.func30, Tryz.ntmps30
 have HL0 := Lib.hid (Below.refl w.heap.size w)
 have HB0 := Lib.hid (show Bs [] w from trivial)
 have HO0 := Lib.hid (show w.heap.size ≤ w.heap.size from by have := HL0.out.size; first | omega | (simp at this; omega))
 obtain ⟨HL1, HB1⟩ := growLB HL0 HB0 (w.heap.size) #[.bool na, .string sa, .bool ma, .string ta] 25
 clear HL0 HB0
 have HO1 := Lib.hid (show w.heap.size < w.heap.size + 1 from by have := (HB1.out.1).lt; first | omega | (simp at this; omega))
 obtain ⟨HL2, HB2⟩ := growLB HL1 HB1 (w.heap.size + 1) #[.bool false, .string ⟨#[]⟩, .bool false, .string ⟨#[]⟩] 25
 clear HL1 HB1
 obtain ⟨fx0_0_2, fx0_1_2, fx0_2_2, fx0_3_2⟩ := (HB2.out.2.1).at4
 go_wp2_with fail
 refine (H1.out _).mono ?_
 rintro e w1 ⟨rfl, hb⟩
 obtain ⟨HL3, HB3⟩ := cameLB HL2 HB2 hb
 clear hb
 clear HL2 HB2 fx0_0_2 fx0_1_2 fx0_2_2 fx0_3_2
 obtain ⟨fx0_0_3, fx0_1_3, fx0_2_3, fx0_3_3⟩ := (HB3.out.2.1).at4
 obtain ⟨fz0_0_3, fz0_1_3, fz0_2_3, fz0_3_3⟩ := (HB3.out.2.1).z4
 obtain ⟨HL4, HB4⟩ := keptLB (c := w.heap.size) [.bool nc, .string sc, .bool mc, .string tc] 0 1 HL3 HB3 (by have := HO0.out; have := HO1.out; omega) (by simp only [Bs.ap, Bs.ap0, List.length_cons, List.length_nil, and_true, true_and]; have := HO0.out; have := HO1.out; omega)
 simp only [setCs, setL, Bs.put, List.set_cons_succ, List.set_cons_zero, Nat.zero_add, Nat.reduceAdd] at HL4 HB4
 replace HL4 := Lib.hid HL4
 replace HB4 := Lib.hid HB4
 clear HL3 HB3
 obtain ⟨fx0_0_4, fx0_1_4⟩ := (HB4.out.2.1).at2
 go_wp2_with fail
 refine (H2.out _).mono ?_
 rintro e w2 ⟨rfl, hb⟩
 obtain ⟨HL5, HB5⟩ := cameLB HL4 HB4 hb
 clear hb
 clear HL4 HB4 fx0_0_3 fz0_0_3 fx0_1_3 fz0_1_3 fx0_2_3 fz0_2_3 fx0_3_3 fz0_3_3 fx0_0_4 fx0_1_4
 have HO2 := Lib.hid (show w.heap.size + 1 < w2.heap.size from by have := (HB5.out.1).lt; first | omega | (simp at this; omega))
 obtain ⟨HL6, HB6⟩ := growLB HL5 HB5 (w2.heap.size) #[.bool nx, .string sx] 23
 clear HL5 HB5
 have fx0_2_6 := (HB6.out.2.2.1).at 2 (.bool mc) rfl
 have fx0_3_6 := (HB6.out.2.2.1).at 3 (.string tc) rfl
 go_wp2_with fail
 refine (H3.out _).mono ?_
 rintro e w3 ⟨rfl, hb⟩
 obtain ⟨HL7, HB7⟩ := cameLB HL6 HB6 hb
 clear hb
 clear HL6 HB6 fx0_2_6 fx0_3_6
 have HO3 := Lib.hid (show w2.heap.size < w3.heap.size from by have := (HB7.out.1).lt; first | omega | (simp at this; omega))
 obtain ⟨HL8, HB8⟩ := growLB HL7 HB7 (w3.heap.size) #[.bool ny, .string sy] 23
 clear HL7 HB7
 obtain ⟨fx2_0_8, fx2_1_8⟩ := (HB8.out.2.1).at2
 obtain ⟨fx3_0_8, fx3_1_8⟩ := (HB8.out.1).at2
 obtain ⟨fx1_0_8, fx1_1_8, fx1_2_8, fx1_3_8⟩ := (HB8.out.2.2.1).at4
 obtain ⟨fz1_0_8, fz1_1_8, fz1_2_8, fz1_3_8⟩ := (HB8.out.2.2.1).z4
 obtain ⟨HL9, HB9⟩ := keptLB (c := w.heap.size + 1) [.bool nx, .string sx, .bool ny, .string sy] 0 2 HL8 HB8 (by have := HO0.out; have := HO1.out; have := HO2.out; have := HO3.out; omega) (by simp only [Bs.ap, Bs.ap0, List.length_cons, List.length_nil, and_true, true_and]; have := HO0.out; have := HO1.out; have := HO2.out; have := HO3.out; omega)
 simp only [setCs, setL, Bs.put, List.set_cons_succ, List.set_cons_zero, Nat.zero_add, Nat.reduceAdd] at HL9 HB9
 replace HL9 := Lib.hid HL9
 replace HB9 := Lib.hid HB9
 clear HL8 HB8
 obtain ⟨fx1_0_9, fx1_1_9, fx1_2_9, fx1_3_9⟩ := (HB9.out.2.2.1).at4
 go_wp2
 refine bodyPost_ret (v := .tuple #[.agg #[.bool nx, .string sx, .bool ny, .string sy], .int .i64 0]) (by simp [results, Tryz.results30, go_sem, fx1_0_9, fx1_1_9, fx1_2_9, fx1_3_9]) rfl ?_
 exact ⟨rfl, HL9.out⟩
theorem rRatPow_e1 {n0 : Int} (e0 : Int) (he : (e0 != 0) = true) (w : World)
  (H1 : GivesV 47 #[.agg #[.bool na, .string sa, .bool ma, .string ta]] (.agg #[.bool nc, .string sc, .bool mc, .string tc]))
  (H2 : GivesV 57 #[.agg #[.bool nc, .string sc], .int .i64 n0] (.tuple #[.agg #[.bool nx, .string sx], .int .i64 e0]))
  : Calls Tryz.prog 30 #[.agg #[.bool na, .string sa, .bool ma, .string ta], .int .i64 n0] w fun e w' => e = .returned (.tuple #[.agg #[.bool false, .string ⟨#[]⟩, .bool false, .string ⟨#[]⟩], .int .i64 e0]) ∧ Below w.heap.size w w' := by
 replace H1 := Lib.hid H1
 replace H2 := Lib.hid H2
 go_enter Tryz.func30, Tryz.ntmps30
 have HL0 := Lib.hid (Below.refl w.heap.size w)
 have HB0 := Lib.hid (show Bs [] w from trivial)
 have HO0 := Lib.hid (show w.heap.size ≤ w.heap.size from by have := HL0.out.size; first | omega | (simp at this; omega))
 obtain ⟨HL1, HB1⟩ := growLB HL0 HB0 (w.heap.size) #[.bool na, .string sa, .bool ma, .string ta] 25
 clear HL0 HB0
 have HO1 := Lib.hid (show w.heap.size < w.heap.size + 1 from by have := (HB1.out.1).lt; first | omega | (simp at this; omega))
 obtain ⟨HL2, HB2⟩ := growLB HL1 HB1 (w.heap.size + 1) #[.bool false, .string ⟨#[]⟩, .bool false, .string ⟨#[]⟩] 25
 clear HL1 HB1
 obtain ⟨fx0_0_2, fx0_1_2, fx0_2_2, fx0_3_2⟩ := (HB2.out.2.1).at4
 go_wp2_with fail
 refine (H1.out _).mono ?_
 rintro e w1 ⟨rfl, hb⟩
 obtain ⟨HL3, HB3⟩ := cameLB HL2 HB2 hb
 clear hb
 clear HL2 HB2 fx0_0_2 fx0_1_2 fx0_2_2 fx0_3_2
 obtain ⟨fx0_0_3, fx0_1_3, fx0_2_3, fx0_3_3⟩ := (HB3.out.2.1).at4
 obtain ⟨fz0_0_3, fz0_1_3, fz0_2_3, fz0_3_3⟩ := (HB3.out.2.1).z4
 obtain ⟨HL4, HB4⟩ := keptLB (c := w.heap.size) [.bool nc, .string sc, .bool mc, .string tc] 0 1 HL3 HB3 (by have := HO0.out; have := HO1.out; omega) (by simp only [Bs.ap, Bs.ap0, List.length_cons, List.length_nil, and_true, true_and]; have := HO0.out; have := HO1.out; omega)
 simp only [setCs, setL, Bs.put, List.set_cons_succ, List.set_cons_zero, Nat.zero_add, Nat.reduceAdd] at HL4 HB4
 replace HL4 := Lib.hid HL4
 replace HB4 := Lib.hid HB4
 clear HL3 HB3
 obtain ⟨fx0_0_4, fx0_1_4⟩ := (HB4.out.2.1).at2
 go_wp2_with fail
 refine (H2.out _).mono ?_
 rintro e w2 ⟨rfl, hb⟩
 obtain ⟨HL5, HB5⟩ := cameLB HL4 HB4 hb
 clear hb
 clear HL4 HB4 fx0_0_3 fz0_0_3 fx0_1_3 fz0_1_3 fx0_2_3 fz0_2_3 fx0_3_3 fz0_3_3 fx0_0_4 fx0_1_4
 have HO2 := Lib.hid (show w.heap.size + 1 < w2.heap.size from by have := (HB5.out.1).lt; first | omega | (simp at this; omega))
 obtain ⟨HL6, HB6⟩ := growLB HL5 HB5 (w2.heap.size) #[.bool nx, .string sx] 23
 clear HL5 HB5
 obtain ⟨fx1_0_6, fx1_1_6, fx1_2_6, fx1_3_6⟩ := (HB6.out.2.1).at4
 obtain ⟨fz1_0_6, fz1_1_6, fz1_2_6, fz1_3_6⟩ := (HB6.out.2.1).z4
 obtain ⟨HL7, HB7⟩ := keptLB (c := w.heap.size + 1) [.bool false, .string ⟨#[]⟩, .bool false, .string ⟨#[]⟩] 0 1 HL6 HB6 (by have := HO0.out; have := HO1.out; have := HO2.out; omega) (by simp only [Bs.ap, Bs.ap0, List.length_cons, List.length_nil, and_true, true_and]; have := HO0.out; have := HO1.out; have := HO2.out; omega)
 simp only [setCs, setL, Bs.put, List.set_cons_succ, List.set_cons_zero, Nat.zero_add, Nat.reduceAdd] at HL7 HB7
 replace HL7 := Lib.hid HL7
 replace HB7 := Lib.hid HB7
 clear HL6 HB6
 obtain ⟨fx1_0_7, fx1_1_7, fx1_2_7, fx1_3_7⟩ := (HB7.out.2.1).at4
 go_wp2
 refine bodyPost_ret (v := .tuple #[.agg #[.bool false, .string ⟨#[]⟩, .bool false, .string ⟨#[]⟩], .int .i64 e0]) (by simp [results, Tryz.results30, go_sem, fx1_0_7, fx1_1_7, fx1_2_7, fx1_3_7]) rfl ?_
 exact ⟨rfl, HL7.out⟩
theorem rsim_int (c1 : Int) (h1 : c1 ≤ 0) (w : World)
  (H1 : GivesV 24 #[.agg #[.bool na, .string sa, .bool ma, .string ta]] (.agg #[.bool nc, .string sc, .bool mc, .string tc]))
  (H2 : GivesV 28 #[.agg #[.bool nc, .string sc, .bool mc, .string tc]] (.agg #[.bool nf, .string sf]))
  (H3 : GivesV 52 #[.agg #[.bool nf, .string sf]] (.agg #[.bool nl, .string sl]))
  (H4 : GivesV 16 #[.agg #[.bool nl, .string sl]] (.agg #[.bool nk, .string sk, .bool mk, .string tk]))
  (H5 : GivesV 26 #[.agg #[.bool nk, .string sk, .bool mk, .string tk], .agg #[.bool nb, .string sb, .bool mb, .string tb]] (.int .i64 c1))
  (H6 : GivesV 16 #[.agg #[.bool nl, .string sl]] (.agg #[.bool nr, .string sr, .bool mr, .string tr]))
  : Calls Tryz.prog 60 #[.agg #[.bool na, .string sa, .bool ma, .string ta], .agg #[.bool nb, .string sb, .bool mb, .string tb]] w fun e w' => e = .returned (.agg #[.bool nr, .string sr, .bool mr, .string tr]) ∧ Below w.heap.size w w' := by
 replace H1 := Lib.hid H1
 replace H2 := Lib.hid H2
 replace H3 := Lib.hid H3
 replace H4 := Lib.hid H4
 replace H5 := Lib.hid H5
 replace H6 := Lib.hid H6
 go_enter Tryz.func60, Tryz.ntmps60
 have HL0 := Lib.hid (Below.refl w.heap.size w)
 have HB0 := Lib.hid (show Bs [] w from trivial)
 have HO0 := Lib.hid (show w.heap.size ≤ w.heap.size from by have := HL0.out.size; first | omega | (simp at this; omega))
 obtain ⟨HL1, HB1⟩ := growLB HL0 HB0 (w.heap.size) #[.bool na, .string sa, .bool ma, .string ta] 25
 clear HL0 HB0
 have HO1 := Lib.hid (show w.heap.size < w.heap.size + 1 from by have := (HB1.out.1).lt; first | omega | (simp at this; omega))
 obtain ⟨HL2, HB2⟩ := growLB HL1 HB1 (w.heap.size + 1) #[.bool nb, .string sb, .bool mb, .string tb] 25
 clear HL1 HB1
 have HO2 := Lib.hid (show w.heap.size + 1 < w.heap.size + 1 + 1 from by have := (HB2.out.1).lt; first | omega | (simp at this; omega))
 obtain ⟨HL3, HB3⟩ := growLB HL2 HB2 (w.heap.size + 1 + 1) #[.bool false, .string ⟨#[]⟩, .bool false, .string ⟨#[]⟩] 25
 clear HL2 HB2
 obtain ⟨fx0_0_3, fx0_1_3, fx0_2_3, fx0_3_3⟩ := (HB3.out.2.2.1).at4
 go_wp2_with fail
 refine (H1.out _).mono ?_
 rintro e w1 ⟨rfl, hb⟩
 obtain ⟨HL4, HB4⟩ := cameLB HL3 HB3 hb
 clear hb
 clear HL3 HB3 fx0_0_3 fx0_1_3 fx0_2_3 fx0_3_3
 go_wp2_with fail
 refine (H2.out _).mono ?_
 rintro e w2 ⟨rfl, hb⟩
 obtain ⟨HL5, HB5⟩ := cameLB HL4 HB4 hb
 clear hb
 clear HL4 HB4
 go_wp2_with fail
 refine (H3.out _).mono ?_
 rintro e w3 ⟨rfl, hb⟩
 obtain ⟨HL6, HB6⟩ := cameLB HL5 HB5 hb
 clear hb
 clear HL5 HB5
 have HO3 := Lib.hid (show w.heap.size + 1 + 1 < w3.heap.size from by have := (HB6.out.1).lt; first | omega | (simp at this; omega))
 obtain ⟨HL7, HB7⟩ := growLB HL6 HB6 (w3.heap.size) #[.bool nl, .string sl] 23
 clear HL6 HB6
 go_wp2_with fail
 obtain ⟨Bw3, hB⟩ : ∃ B, w3.heap.size = B := ⟨_, rfl⟩
 rw [hB] at HB7 ⊢
 try rw [hB] at HO0
 try rw [hB] at HO1
 try rw [hB] at HO2
 try rw [hB] at HO3
 clear hB
 obtain ⟨W4, hW⟩ : ∃ W, (w3.alloc (.cells #[.bool nl, .string sl] 23)) = W := ⟨_, rfl⟩
 rw [hW] at HB7 HL7 ⊢
 clear hW
 haveI := cls_some W4
 obtain ⟨fq3_0, fq3_1⟩ := BC.all2 fun u : Cl W4 => ((HB7.out.bel u.h).1)
 obtain ⟨fq1_0, fq1_1, fq1_2, fq1_3⟩ := BC.all4 fun u : Cl W4 => ((HB7.out.bel u.h).2.2.1)
 refine wp_region_cls (by kernel_rfl) ?_
 iterate 1 (go_big_quiet_step (fail))
 go_big_quiet_step ((go_at_call 16; exact quiet_cls H4.out _))
 iterate 1 (go_big_quiet_step (fail))
 go_big_quiet_step ((go_at_call 26; exact quiet_cls H5.out _))
 iterate 1 (go_big_quiet_step (fail))
 refine wpQuiet_nil ?_
 intro w5 hw9
 have hb : Below W4.heap.size W4 w5 := by obtain ⟨u, rfl⟩ := hw9; exact u.h
 clear hw9 this fq3_0 fq3_1 fq1_0 fq1_1 fq1_2 fq1_3
 obtain ⟨HL8, HB8⟩ := cameLB HL7 HB7 hb
 clear hb
 clear HL7 HB7
 obtain ⟨fx3_0_8, fx3_1_8⟩ := (HB8.out.1).at2
 go_wp2_with fail
 refine (H6.out _).mono ?_
 rintro e w6 ⟨rfl, hb⟩
 obtain ⟨HL9, HB9⟩ := cameLB HL8 HB8 hb
 clear hb
 clear HL8 HB8 fx3_0_8 fx3_1_8
 obtain ⟨fx2_0_9, fx2_1_9, fx2_2_9, fx2_3_9⟩ := (HB9.out.2.1).at4
 obtain ⟨fz2_0_9, fz2_1_9, fz2_2_9, fz2_3_9⟩ := (HB9.out.2.1).z4
 obtain ⟨HL10, HB10⟩ := keptLB (c := w.heap.size + 1 + 1) [.bool nr, .string sr, .bool mr, .string tr] 0 1 HL9 HB9 (by have := HO0.out; have := HO1.out; have := HO2.out; have := HO3.out; omega) (by simp only [Bs.ap, Bs.ap0, List.length_cons, List.length_nil, and_true, true_and]; have := HO0.out; have := HO1.out; have := HO2.out; have := HO3.out; omega)
 simp only [setCs, setL, Bs.put, List.set_cons_succ, List.set_cons_zero, Nat.zero_add, Nat.reduceAdd] at HL10 HB10
 replace HL10 := Lib.hid HL10
 replace HB10 := Lib.hid HB10
 clear HL9 HB9
 obtain ⟨fx2_0_10, fx2_1_10, fx2_2_10, fx2_3_10⟩ := (HB10.out.2.1).at4
 go_wp2
 refine bodyPost_ret (v := .agg #[.bool nr, .string sr, .bool mr, .string tr]) (by simp [results, Tryz.results60, go_sem, fx2_0_10, fx2_1_10, fx2_2_10, fx2_3_10]) rfl ?_
 exact ⟨rfl, HL10.out⟩
theorem rsim_rec {eq1 eq2 eq3 : Int} (w : World)
  (H1 : GivesV 24 #[.agg #[.bool na, .string sa, .bool ma, .string ta]] (.agg #[.bool nc, .string sc, .bool mc, .string tc]))
  (H2 : GivesV 28 #[.agg #[.bool nc, .string sc, .bool mc, .string tc]] (.agg #[.bool nf, .string sf]))
  (H3 : GivesV 52 #[.agg #[.bool nf, .string sf]] (.agg #[.bool nl, .string sl]))
  (H4 : GivesV 16 #[.agg #[.bool nl, .string sl]] (.agg #[.bool nk, .string sk, .bool mk, .string tk]))
  (H5 : GivesV 26 #[.agg #[.bool nk, .string sk, .bool mk, .string tk], .agg #[.bool nb, .string sb, .bool mb, .string tb]] (.int .i64 1))
  (H6 : GivesV 28 #[.agg #[.bool na, .string sa, .bool ma, .string ta]] (.agg #[.bool ng, .string sg]))
  (H7 : GivesV 16 #[.agg #[.bool ng, .string sg]] (.agg #[.bool nh, .string sh, .bool mh, .string th]))
  (H8 : GivesV 49 #[] (.agg #[.bool no1, .string so1]))
  (H9 : GivesV 16 #[.agg #[.bool no1, .string so1]] (.agg #[.bool np1, .string sp1, .bool mp1, .string tp1]))
  (H10 : GivesV 20 #[.agg #[.bool nb, .string sb, .bool mb, .string tb], .agg #[.bool nh, .string sh, .bool mh, .string th]] (.agg #[.bool nd1, .string sd1, .bool md1, .string td1]))
  (H11 : GivesV 12 #[.agg #[.bool np1, .string sp1, .bool mp1, .string tp1], .agg #[.bool nd1, .string sd1, .bool md1, .string td1]] (.tuple #[.agg #[.bool nq1, .string sq1, .bool mq1, .string tq1], .int .i64 eq1]))
  (H12 : GivesV 49 #[] (.agg #[.bool no2, .string so2]))
  (H13 : GivesV 16 #[.agg #[.bool no2, .string so2]] (.agg #[.bool np2, .string sp2, .bool mp2, .string tp2]))
  (H14 : GivesV 20 #[.agg #[.bool na, .string sa, .bool ma, .string ta], .agg #[.bool nh, .string sh, .bool mh, .string th]] (.agg #[.bool nd2, .string sd2, .bool md2, .string td2]))
  (H15 : GivesV 12 #[.agg #[.bool np2, .string sp2, .bool mp2, .string tp2], .agg #[.bool nd2, .string sd2, .bool md2, .string td2]] (.tuple #[.agg #[.bool nq2, .string sq2, .bool mq2, .string tq2], .int .i64 eq2]))
  (H16 : GivesV 49 #[] (.agg #[.bool no3, .string so3]))
  (H17 : GivesV 16 #[.agg #[.bool no3, .string so3]] (.agg #[.bool np3, .string sp3, .bool mp3, .string tp3]))
  (H18 : GivesV 60 #[.agg #[.bool nq1, .string sq1, .bool mq1, .string tq1], .agg #[.bool nq2, .string sq2, .bool mq2, .string tq2]] (.agg #[.bool ns3, .string ss3, .bool ms3, .string ts3]))
  (H19 : GivesV 12 #[.agg #[.bool np3, .string sp3, .bool mp3, .string tp3], .agg #[.bool ns3, .string ss3, .bool ms3, .string ts3]] (.tuple #[.agg #[.bool nq3, .string sq3, .bool mq3, .string tq3], .int .i64 eq3]))
  (H20 : GivesV 18 #[.agg #[.bool nh, .string sh, .bool mh, .string th], .agg #[.bool nq3, .string sq3, .bool mq3, .string tq3]] (.agg #[.bool nr, .string sr, .bool mr, .string tr]))
  : Calls Tryz.prog 60 #[.agg #[.bool na, .string sa, .bool ma, .string ta], .agg #[.bool nb, .string sb, .bool mb, .string tb]] w fun e w' => e = .returned (.agg #[.bool nr, .string sr, .bool mr, .string tr]) ∧ Below w.heap.size w w' := by
 replace H1 := Lib.hid H1
 replace H2 := Lib.hid H2
 replace H3 := Lib.hid H3
 replace H4 := Lib.hid H4
 replace H5 := Lib.hid H5
 replace H6 := Lib.hid H6
 replace H7 := Lib.hid H7
 replace H8 := Lib.hid H8
 replace H9 := Lib.hid H9
 replace H10 := Lib.hid H10
 replace H11 := Lib.hid H11
 replace H12 := Lib.hid H12
 replace H13 := Lib.hid H13
 replace H14 := Lib.hid H14
 replace H15 := Lib.hid H15
 replace H16 := Lib.hid H16
 replace H17 := Lib.hid H17
 replace H18 := Lib.hid H18
 replace H19 := Lib.hid H19
 replace H20 := Lib.hid H20
 go_enter Tryz.func60, Tryz.ntmps60
 have HL0 := Lib.hid (Below.refl w.heap.size w)
 have HB0 := Lib.hid (show Bs [] w from trivial)
 have HO0 := Lib.hid (show w.heap.size ≤ w.heap.size from by have := HL0.out.size; first | omega | (simp at this; omega))
 obtain ⟨HL1, HB1⟩ := growLB HL0 HB0 (w.heap.size) #[.bool na, .string sa, .bool ma, .string ta] 25
 clear HL0 HB0
 have HO1 := Lib.hid (show w.heap.size < w.heap.size + 1 from by have := (HB1.out.1).lt; first | omega | (simp at this; omega))
 obtain ⟨HL2, HB2⟩ := growLB HL1 HB1 (w.heap.size + 1) #[.bool nb, .string sb, .bool mb, .string tb] 25
 clear HL1 HB1
 have HO2 := Lib.hid (show w.heap.size + 1 < w.heap.size + 1 + 1 from by have := (HB2.out.1).lt; first | omega | (simp at this; omega))
 obtain ⟨HL3, HB3⟩ := growLB HL2 HB2 (w.heap.size + 1 + 1) #[.bool false, .string ⟨#[]⟩, .bool false, .string ⟨#[]⟩] 25
 clear HL2 HB2
 obtain ⟨fx0_0_3, fx0_1_3, fx0_2_3, fx0_3_3⟩ := (HB3.out.2.2.1).at4
 go_wp2_with fail
 refine (H1.out _).mono ?_
 rintro e w1 ⟨rfl, hb⟩
 obtain ⟨HL4, HB4⟩ := cameLB HL3 HB3 hb
 clear hb
 clear HL3 HB3 fx0_0_3 fx0_1_3 fx0_2_3 fx0_3_3
 go_wp2_with fail
 refine (H2.out _).mono ?_
 rintro e w2 ⟨rfl, hb⟩
 obtain ⟨HL5, HB5⟩ := cameLB HL4 HB4 hb
 clear hb
 clear HL4 HB4
 go_wp2_with fail
 refine (H3.out _).mono ?_
 rintro e w3 ⟨rfl, hb⟩
 obtain ⟨HL6, HB6⟩ := cameLB HL5 HB5 hb
 clear hb
 clear HL5 HB5
 have HO3 := Lib.hid (show w.heap.size + 1 + 1 < w3.heap.size from by have := (HB6.out.1).lt; first | omega | (simp at this; omega))
 obtain ⟨HL7, HB7⟩ := growLB HL6 HB6 (w3.heap.size) #[.bool nl, .string sl] 23
 clear HL6 HB6
 go_wp2_with fail
 obtain ⟨Bw3, hB⟩ : ∃ B, w3.heap.size = B := ⟨_, rfl⟩
 rw [hB] at HB7 ⊢
 try rw [hB] at HO0
 try rw [hB] at HO1
 try rw [hB] at HO2
 try rw [hB] at HO3
 clear hB
 obtain ⟨W4, hW⟩ : ∃ W, (w3.alloc (.cells #[.bool nl, .string sl] 23)) = W := ⟨_, rfl⟩
 rw [hW] at HB7 HL7 ⊢
 clear hW
 haveI := cls_some W4
 obtain ⟨fq3_0, fq3_1⟩ := BC.all2 fun u : Cl W4 => ((HB7.out.bel u.h).1)
 obtain ⟨fq1_0, fq1_1, fq1_2, fq1_3⟩ := BC.all4 fun u : Cl W4 => ((HB7.out.bel u.h).2.2.1)
 refine wp_region_cls (by kernel_rfl) ?_
 iterate 1 (go_big_quiet_step (fail))
 go_big_quiet_step ((go_at_call 16; exact quiet_cls H4.out _))
 iterate 1 (go_big_quiet_step (fail))
 go_big_quiet_step ((go_at_call 26; exact quiet_cls H5.out _))
 iterate 1 (go_big_quiet_step (fail))
 refine wpQuiet_nil ?_
 intro w5 hw9
 have hb : Below W4.heap.size W4 w5 := by obtain ⟨u, rfl⟩ := hw9; exact u.h
 clear hw9 this fq3_0 fq3_1 fq1_0 fq1_1 fq1_2 fq1_3
 obtain ⟨HL8, HB8⟩ := cameLB HL7 HB7 hb
 clear hb
 clear HL7 HB7
 obtain ⟨fx0_0_8, fx0_1_8, fx0_2_8, fx0_3_8⟩ := (HB8.out.2.2.2.1).at4
 go_wp2_with fail
 refine (H6.out _).mono ?_
 rintro e w6 ⟨rfl, hb⟩
 obtain ⟨HL9, HB9⟩ := cameLB HL8 HB8 hb
 clear hb
 clear HL8 HB8 fx0_0_8 fx0_1_8 fx0_2_8 fx0_3_8
 go_wp2_with fail
 refine (H7.out _).mono ?_
 rintro e w7 ⟨rfl, hb⟩
 obtain ⟨HL10, HB10⟩ := cameLB HL9 HB9 hb
 clear hb
 clear HL9 HB9
 have HO4 := Lib.hid (show Bw3 < w7.heap.size from by have := (HB10.out.1).lt; first | omega | (simp at this; omega))
 obtain ⟨HL11, HB11⟩ := growLB HL10 HB10 (w7.heap.size) #[.bool nh, .string sh, .bool mh, .string th] 25
 clear HL10 HB10
 go_wp2_with fail
 obtain ⟨Bw7, hB⟩ : ∃ B, w7.heap.size = B := ⟨_, rfl⟩
 rw [hB] at HB11 ⊢
 try rw [hB] at HO0
 try rw [hB] at HO1
 try rw [hB] at HO2
 try rw [hB] at HO3
 try rw [hB] at HO4
 clear hB
 obtain ⟨W8, hW⟩ : ∃ W, (w7.alloc (.cells #[.bool nh, .string sh, .bool mh, .string th] 25)) = W := ⟨_, rfl⟩
 rw [hW] at HB11 HL11 ⊢
 clear hW
 refine wp_region_front 12 zvQ (by kernel_rfl) shQ (by kernel_rfl) (by kernel_rfl) (zvQ_alloc _ (by kernel_rfl)) (shQ_store _ (by kernel_rfl)) ?_
 intro mm BW hm1 hm2 hBW
 haveI := clm_some mm BW
 obtain ⟨fq1_0, fq1_1, fq1_2, fq1_3⟩ := BC.all4 fun u : Clm mm BW => ((HB11.out.bel (u.old hm1 hBW)).2.2.2.1)
 obtain ⟨fq4_0, fq4_1, fq4_2, fq4_3⟩ := BC.all4 fun u : Clm mm BW => ((HB11.out.bel (u.old hm1 hBW)).1)
 simp only [frontOf, unmade, List.take_succ_cons, List.take_zero, List.map_cons, List.map_nil]
 go_big_quiet_step ((go_at_call 49; exact quiet_clm hm2 H8.out _))
 go_big_quiet_step ((go_at_call 16; exact quiet_clm hm2 H9.out _))
 iterate 2 (go_big_quiet_step (fail))
 go_big_quiet_step ((go_at_call 20; exact quiet_clm hm2 H10.out _))
 go_big_quiet_step ((go_at_call 12; exact quiet_clm hm2 H11.out _))
 iterate 6 (go_big_quiet_step (fail))
 refine wpQuiet_nil ?_
 refine ⟨List.forall_mem_cons.2 ⟨by kernel_rfl, List.forall_mem_nil _⟩, ?_⟩
 intro γ w9 hb hF
 clear hBW this hm1 hm2 fq1_0 fq1_1 fq1_2 fq1_3 fq4_0 fq4_1 fq4_2 fq4_3
 clear BW mm
 simp only [madesFrom, Facts, patch, List.take_succ_cons, List.take_zero, List.drop_succ_cons, List.drop_zero, Nat.zero_add, Nat.reduceAdd, List.mem_cons, List.not_mem_nil, or_false, forall_eq, forall_eq_or_imp, false_imp_iff, implies_true, and_true] at hF ⊢
 obtain ⟨hp7, hl7, hk7⟩ := hF
 obtain ⟨B7_9, hG⟩ : ∃ B, γ 9 = B := ⟨_, rfl⟩
 rw [hG] at hp7 hl7 hk7 ⊢
 clear hG
 have HL12 := Lib.hid (bstep HL11.out hb)
 have HO5 := Lib.hid (show Bw7 < B7_9 from Nat.lt_of_lt_of_le (HB11.out.1).lt hp7)
 have HB12 := Lib.hid (Bs.cons (show BC _ B7_9 [.bool nq1, .string sq1, .bool mq1, .string tq1] from BC.of hk7) (HB11.out.bel hb))
 clear hb hp7 hl7 hk7
 clear HL11 HB11
 try go_frame
 go_wp2_with fail
 refine wp_region_front 12 zvQ (by kernel_rfl) shQ (by kernel_rfl) (by kernel_rfl) (zvQ_alloc _ (by kernel_rfl)) (shQ_store _ (by kernel_rfl)) ?_
 intro mm BW hm1 hm2 hBW
 haveI := clm_some mm BW
 obtain ⟨fq0_0, fq0_1, fq0_2, fq0_3⟩ := BC.all4 fun u : Clm mm BW => ((HB12.out.bel (u.old hm1 hBW)).2.2.2.2.2.1)
 obtain ⟨fq4_0, fq4_1, fq4_2, fq4_3⟩ := BC.all4 fun u : Clm mm BW => ((HB12.out.bel (u.old hm1 hBW)).2.1)
 simp only [frontOf, unmade, List.take_succ_cons, List.take_zero, List.map_cons, List.map_nil]
 go_big_quiet_step ((go_at_call 49; exact quiet_clm hm2 H12.out _))
 go_big_quiet_step ((go_at_call 16; exact quiet_clm hm2 H13.out _))
 iterate 2 (go_big_quiet_step (fail))
 go_big_quiet_step ((go_at_call 20; exact quiet_clm hm2 H14.out _))
 go_big_quiet_step ((go_at_call 12; exact quiet_clm hm2 H15.out _))
 iterate 6 (go_big_quiet_step (fail))
 refine wpQuiet_nil ?_
 refine ⟨List.forall_mem_cons.2 ⟨by kernel_rfl, List.forall_mem_nil _⟩, ?_⟩
 intro γ w10 hb hF
 clear hBW this hm1 hm2 fq0_0 fq0_1 fq0_2 fq0_3 fq4_0 fq4_1 fq4_2 fq4_3
 clear BW mm
 simp only [madesFrom, Facts, patch, List.take_succ_cons, List.take_zero, List.drop_succ_cons, List.drop_zero, Nat.zero_add, Nat.reduceAdd, List.mem_cons, List.not_mem_nil, or_false, forall_eq, forall_eq_or_imp, false_imp_iff, implies_true, and_true] at hF ⊢
 obtain ⟨hp9, hl9, hk9⟩ := hF
 obtain ⟨B9_10, hG⟩ : ∃ B, γ 9 = B := ⟨_, rfl⟩
 rw [hG] at hp9 hl9 hk9 ⊢
 clear hG
 have HL13 := Lib.hid (bstep HL12.out hb)
 have HO6 := Lib.hid (show B7_9 < B9_10 from Nat.lt_of_lt_of_le (HB12.out.1).lt hp9)
 have HB13 := Lib.hid (Bs.cons (show BC _ B9_10 [.bool nq2, .string sq2, .bool mq2, .string tq2] from BC.of hk9) (HB12.out.bel hb))
 clear hb hp9 hl9 hk9
 clear HL12 HB12
 try go_frame
 go_wp2_with fail
 refine wp_region_front 12 zvQ (by kernel_rfl) shQ (by kernel_rfl) (by kernel_rfl) (zvQ_alloc _ (by kernel_rfl)) (shQ_store _ (by kernel_rfl)) ?_
 intro mm BW hm1 hm2 hBW
 haveI := clm_some mm BW
 obtain ⟨fq5_0, fq5_1, fq5_2, fq5_3⟩ := BC.all4 fun u : Clm mm BW => ((HB13.out.bel (u.old hm1 hBW)).2.1)
 obtain ⟨fq6_0, fq6_1, fq6_2, fq6_3⟩ := BC.all4 fun u : Clm mm BW => ((HB13.out.bel (u.old hm1 hBW)).1)
 simp only [frontOf, unmade, List.take_succ_cons, List.take_zero, List.map_cons, List.map_nil]
 go_big_quiet_step ((go_at_call 49; exact quiet_clm hm2 H16.out _))
 go_big_quiet_step ((go_at_call 16; exact quiet_clm hm2 H17.out _))
 iterate 2 (go_big_quiet_step (fail))
 go_big_quiet_step ((go_at_call 60; exact quiet_clm hm2 H18.out _))
 go_big_quiet_step ((go_at_call 12; exact quiet_clm hm2 H19.out _))
 iterate 6 (go_big_quiet_step (fail))
 refine wpQuiet_nil ?_
 refine ⟨List.forall_mem_cons.2 ⟨by kernel_rfl, List.forall_mem_nil _⟩, ?_⟩
 intro γ w11 hb hF
 clear hBW this hm1 hm2 fq5_0 fq5_1 fq5_2 fq5_3 fq6_0 fq6_1 fq6_2 fq6_3
 clear BW mm
 simp only [madesFrom, Facts, patch, List.take_succ_cons, List.take_zero, List.drop_succ_cons, List.drop_zero, Nat.zero_add, Nat.reduceAdd, List.mem_cons, List.not_mem_nil, or_false, forall_eq, forall_eq_or_imp, false_imp_iff, implies_true, and_true] at hF ⊢
 obtain ⟨hp11, hl11, hk11⟩ := hF
 obtain ⟨B11_11, hG⟩ : ∃ B, γ 9 = B := ⟨_, rfl⟩
 rw [hG] at hp11 hl11 hk11 ⊢
 clear hG
 have HL14 := Lib.hid (bstep HL13.out hb)
 have HO7 := Lib.hid (show B9_10 < B11_11 from Nat.lt_of_lt_of_le (HB13.out.1).lt hp11)
 have HB14 := Lib.hid (Bs.cons (show BC _ B11_11 [.bool nq3, .string sq3, .bool mq3, .string tq3] from BC.of hk11) (HB13.out.bel hb))
 clear hb hp11 hl11 hk11
 clear HL13 HB13
 try go_frame
 obtain ⟨fx4_0_14, fx4_1_14, fx4_2_14, fx4_3_14⟩ := (HB14.out.2.2.2.1).at4
 obtain ⟨fx7_0_14, fx7_1_14, fx7_2_14, fx7_3_14⟩ := (HB14.out.1).at4
 go_wp2_with fail
 refine (H20.out _).mono ?_
 rintro e w12 ⟨rfl, hb⟩
 obtain ⟨HL15, HB15⟩ := cameLB HL14 HB14 hb
 clear hb
 clear HL14 HB14 fx4_0_14 fx4_1_14 fx4_2_14 fx4_3_14 fx7_0_14 fx7_1_14 fx7_2_14 fx7_3_14
 obtain ⟨fx2_0_15, fx2_1_15, fx2_2_15, fx2_3_15⟩ := (HB15.out.2.2.2.2.2.1).at4
 obtain ⟨fz2_0_15, fz2_1_15, fz2_2_15, fz2_3_15⟩ := (HB15.out.2.2.2.2.2.1).z4
 obtain ⟨HL16, HB16⟩ := keptLB (c := w.heap.size + 1 + 1) [.bool nr, .string sr, .bool mr, .string tr] 0 5 HL15 HB15 (by have := HO0.out; have := HO1.out; have := HO2.out; have := HO3.out; have := HO4.out; have := HO5.out; have := HO6.out; have := HO7.out; omega) (by simp only [Bs.ap, Bs.ap0, List.length_cons, List.length_nil, and_true, true_and]; have := HO0.out; have := HO1.out; have := HO2.out; have := HO3.out; have := HO4.out; have := HO5.out; have := HO6.out; have := HO7.out; omega)
 simp only [setCs, setL, Bs.put, List.set_cons_succ, List.set_cons_zero, Nat.zero_add, Nat.reduceAdd] at HL16 HB16
 replace HL16 := Lib.hid HL16
 replace HB16 := Lib.hid HB16
 clear HL15 HB15
 obtain ⟨fx2_0_16, fx2_1_16, fx2_2_16, fx2_3_16⟩ := (HB16.out.2.2.2.2.2.1).at4
 go_wp2
 refine bodyPost_ret (v := .agg #[.bool nr, .string sr, .bool mr, .string tr]) (by simp [results, Tryz.results60, go_sem, fx2_0_16, fx2_1_16, fx2_2_16, fx2_3_16]) rfl ?_
 exact ⟨rfl, HL16.out⟩
end Go.Proofs.Gv
