import Derived.Test.YtamempcabmlodaaGreatDoorRwlow2P
set_option maxHeartbeats 4000000
set_option maxRecDepth 100000
set_option linter.unusedSimpArgs false
set_option linter.unusedVariables false
namespace Go.Proofs.Gv
open Go Go.RowKit
variable {na ma nb mb nr mr nc mc nd md ns ms : Bool} {sa ta sb tb sr tr sc tc sd td ss ts : ByteArray}
theorem rSim_order (w : World)
  (H1 : GivesV 26 #[.agg #[.bool na, .string sa, .bool ma, .string ta], .agg #[.bool nb, .string sb, .bool mb, .string tb]] (.int .i64 1))
  : Calls Tryz.prog 32 #[.agg #[.bool na, .string sa, .bool ma, .string ta], .agg #[.bool nb, .string sb, .bool mb, .string tb]] w fun e w' => e = .returned (.tuple #[.agg #[.bool false, .string ⟨#[]⟩, .bool false, .string ⟨#[]⟩], .int .i64 10]) ∧ Below w.heap.size w w' := by
 replace H1 := Lib.hid H1
 go_enter Tryz.func32, Tryz.ntmps32
 have HL0 := Lib.hid (Below.refl w.heap.size w)
 have HB0 := Lib.hid (show Bs [] w from trivial)
 have HO0 := Lib.hid (show w.heap.size ≤ w.heap.size from by have := HL0.out.size; first | omega | (simp at this; omega))
 obtain ⟨HL1, HB1⟩ := growLB HL0 HB0 (w.heap.size) #[.bool na, .string sa, .bool ma, .string ta] 25
 clear HL0 HB0
 have HO1 := Lib.hid (show w.heap.size < w.heap.size + 1 from by have := (HB1.out.1).lt; first | omega | (simp at this; omega))
 obtain ⟨HL2, HB2⟩ := growLB HL1 HB1 (w.heap.size + 1) #[.bool nb, .string sb, .bool mb, .string tb] 25
 clear HL1 HB1
 have HO2 := Lib.hid (show w.heap.size + 1 < w.heap.size + 1 + 1 from by have := (HB2.out.1).lt; first | omega | (simp at this; omega))
 obtain ⟨HL3, HB3⟩ := growLB HL2 HB2 (w.heap.size + 1 + 1) #[.bool false, .string ⟨#[]⟩, .bool false, .string ⟨#[]⟩] 25
 clear HL2 HB2
 obtain ⟨fx0_0_3, fx0_1_3, fx0_2_3, fx0_3_3⟩ := (HB3.out.2.2.1).at4
 obtain ⟨fx1_0_3, fx1_1_3, fx1_2_3, fx1_3_3⟩ := (HB3.out.2.1).at4
 go_wp2_with fail
 refine (H1.out _).mono ?_
 rintro e w1 ⟨rfl, hb⟩
 obtain ⟨HL4, HB4⟩ := cameLB HL3 HB3 hb
 clear hb
 clear HL3 HB3 fx0_0_3 fx0_1_3 fx0_2_3 fx0_3_3 fx1_0_3 fx1_1_3 fx1_2_3 fx1_3_3
 obtain ⟨fx2_0_4, fx2_1_4, fx2_2_4, fx2_3_4⟩ := (HB4.out.1).at4
 obtain ⟨fz2_0_4, fz2_1_4, fz2_2_4, fz2_3_4⟩ := (HB4.out.1).z4
 obtain ⟨HL5, HB5⟩ := keptLB (c := w.heap.size + 1 + 1) [.bool false, .string ⟨#[]⟩, .bool false, .string ⟨#[]⟩] 0 0 HL4 HB4 (by have := HO0.out; have := HO1.out; have := HO2.out; omega) (by simp only [Bs.ap, Bs.ap0, List.length_cons, List.length_nil, and_true, true_and]; have := HO0.out; have := HO1.out; have := HO2.out; omega)
 simp only [setCs, setL, Bs.put, List.set_cons_succ, List.set_cons_zero, Nat.zero_add, Nat.reduceAdd] at HL5 HB5
 replace HL5 := Lib.hid HL5
 replace HB5 := Lib.hid HB5
 clear HL4 HB4
 obtain ⟨fx2_0_5, fx2_1_5, fx2_2_5, fx2_3_5⟩ := (HB5.out.1).at4
 go_wp2
 refine bodyPost_ret (v := .tuple #[.agg #[.bool false, .string ⟨#[]⟩, .bool false, .string ⟨#[]⟩], .int .i64 10]) (by simp [results, Tryz.results32, go_sem, fx2_0_5, fx2_1_5, fx2_2_5, fx2_3_5]) rfl ?_
 exact ⟨rfl, HL5.out⟩
theorem rSim_zero (c1 : Int) (h1 : decide ((0 : Int) < c1) = false) (c2 : Int) (h2 : c2 ≤ 0) (c3 : Int) (h3 : 0 ≤ c3) (w : World)
  (H1 : GivesV 26 #[.agg #[.bool na, .string sa, .bool ma, .string ta], .agg #[.bool nb, .string sb, .bool mb, .string tb]] (.int .i64 c1))
  (H2 : GivesV 59 #[.agg #[.bool na, .string sa, .bool ma, .string ta]] (.int .i64 c2))
  (H3 : GivesV 59 #[.agg #[.bool nb, .string sb, .bool mb, .string tb]] (.int .i64 c3))
  (H4 : GivesV 16 #[.agg #[.bool false, .string ⟨#[]⟩]] (.agg #[.bool nr, .string sr, .bool mr, .string tr]))
  : Calls Tryz.prog 32 #[.agg #[.bool na, .string sa, .bool ma, .string ta], .agg #[.bool nb, .string sb, .bool mb, .string tb]] w fun e w' => e = .returned (.tuple #[.agg #[.bool nr, .string sr, .bool mr, .string tr], .int .i64 0]) ∧ Below w.heap.size w w' := by
 replace H1 := Lib.hid H1
 replace H2 := Lib.hid H2
 replace H3 := Lib.hid H3
 replace H4 := Lib.hid H4
 go_enter Tryz.func32, Tryz.ntmps32
 have HL0 := Lib.hid (Below.refl w.heap.size w)
 have HB0 := Lib.hid (show Bs [] w from trivial)
 have HO0 := Lib.hid (show w.heap.size ≤ w.heap.size from by have := HL0.out.size; first | omega | (simp at this; omega))
 obtain ⟨HL1, HB1⟩ := growLB HL0 HB0 (w.heap.size) #[.bool na, .string sa, .bool ma, .string ta] 25
 clear HL0 HB0
 have HO1 := Lib.hid (show w.heap.size < w.heap.size + 1 from by have := (HB1.out.1).lt; first | omega | (simp at this; omega))
 obtain ⟨HL2, HB2⟩ := growLB HL1 HB1 (w.heap.size + 1) #[.bool nb, .string sb, .bool mb, .string tb] 25
 clear HL1 HB1
 have HO2 := Lib.hid (show w.heap.size + 1 < w.heap.size + 1 + 1 from by have := (HB2.out.1).lt; first | omega | (simp at this; omega))
 obtain ⟨HL3, HB3⟩ := growLB HL2 HB2 (w.heap.size + 1 + 1) #[.bool false, .string ⟨#[]⟩, .bool false, .string ⟨#[]⟩] 25
 clear HL2 HB2
 obtain ⟨fx0_0_3, fx0_1_3, fx0_2_3, fx0_3_3⟩ := (HB3.out.2.2.1).at4
 obtain ⟨fx1_0_3, fx1_1_3, fx1_2_3, fx1_3_3⟩ := (HB3.out.2.1).at4
 go_wp2_with fail
 refine (H1.out _).mono ?_
 rintro e w1 ⟨rfl, hb⟩
 obtain ⟨HL4, HB4⟩ := cameLB HL3 HB3 hb
 clear hb
 clear HL3 HB3 fx0_0_3 fx0_1_3 fx0_2_3 fx0_3_3 fx1_0_3 fx1_1_3 fx1_2_3 fx1_3_3
 obtain ⟨fx0_0_4, fx0_1_4, fx0_2_4, fx0_3_4⟩ := (HB4.out.2.2.1).at4
 go_wp2_with fail
 refine (H2.out _).mono ?_
 rintro e w2 ⟨rfl, hb⟩
 obtain ⟨HL5, HB5⟩ := cameLB HL4 HB4 hb
 clear hb
 clear HL4 HB4 fx0_0_4 fx0_1_4 fx0_2_4 fx0_3_4
 obtain ⟨fx1_0_5, fx1_1_5, fx1_2_5, fx1_3_5⟩ := (HB5.out.2.1).at4
 go_wp2_with fail
 refine (H3.out _).mono ?_
 rintro e w3 ⟨rfl, hb⟩
 obtain ⟨HL6, HB6⟩ := cameLB HL5 HB5 hb
 clear hb
 clear HL5 HB5 fx1_0_5 fx1_1_5 fx1_2_5 fx1_3_5
 go_wp2_with fail
 refine (H4.out _).mono ?_
 rintro e w4 ⟨rfl, hb⟩
 obtain ⟨HL7, HB7⟩ := cameLB HL6 HB6 hb
 clear hb
 clear HL6 HB6
 obtain ⟨fx2_0_7, fx2_1_7, fx2_2_7, fx2_3_7⟩ := (HB7.out.1).at4
 obtain ⟨fz2_0_7, fz2_1_7, fz2_2_7, fz2_3_7⟩ := (HB7.out.1).z4
 obtain ⟨HL8, HB8⟩ := keptLB (c := w.heap.size + 1 + 1) [.bool nr, .string sr, .bool mr, .string tr] 0 0 HL7 HB7 (by have := HO0.out; have := HO1.out; have := HO2.out; omega) (by simp only [Bs.ap, Bs.ap0, List.length_cons, List.length_nil, and_true, true_and]; have := HO0.out; have := HO1.out; have := HO2.out; omega)
 simp only [setCs, setL, Bs.put, List.set_cons_succ, List.set_cons_zero, Nat.zero_add, Nat.reduceAdd] at HL8 HB8
 replace HL8 := Lib.hid HL8
 replace HB8 := Lib.hid HB8
 clear HL7 HB7
 obtain ⟨fx2_0_8, fx2_1_8, fx2_2_8, fx2_3_8⟩ := (HB8.out.1).at4
 go_wp2
 refine bodyPost_ret (v := .tuple #[.agg #[.bool nr, .string sr, .bool mr, .string tr], .int .i64 0]) (by simp [results, Tryz.results32, go_sem, fx2_0_8, fx2_1_8, fx2_2_8, fx2_3_8]) rfl ?_
 exact ⟨rfl, HL8.out⟩
theorem rSim_pos (c1 : Int) (h1 : decide ((0 : Int) < c1) = false) (w : World)
  (H1 : GivesV 26 #[.agg #[.bool na, .string sa, .bool ma, .string ta], .agg #[.bool nb, .string sb, .bool mb, .string tb]] (.int .i64 c1))
  (H2 : GivesV 59 #[.agg #[.bool na, .string sa, .bool ma, .string ta]] (.int .i64 1))
  (H3 : GivesV 47 #[.agg #[.bool na, .string sa, .bool ma, .string ta]] (.agg #[.bool nc, .string sc, .bool mc, .string tc]))
  (H4 : GivesV 47 #[.agg #[.bool nb, .string sb, .bool mb, .string tb]] (.agg #[.bool nd, .string sd, .bool md, .string td]))
  (H5 : GivesV 60 #[.agg #[.bool nc, .string sc, .bool mc, .string tc], .agg #[.bool nd, .string sd, .bool md, .string td]] (.agg #[.bool nr, .string sr, .bool mr, .string tr]))
  : Calls Tryz.prog 32 #[.agg #[.bool na, .string sa, .bool ma, .string ta], .agg #[.bool nb, .string sb, .bool mb, .string tb]] w fun e w' => e = .returned (.tuple #[.agg #[.bool nr, .string sr, .bool mr, .string tr], .int .i64 0]) ∧ Below w.heap.size w w' := by
 replace H1 := Lib.hid H1
 replace H2 := Lib.hid H2
 replace H3 := Lib.hid H3
 replace H4 := Lib.hid H4
 replace H5 := Lib.hid H5
 go_enter Tryz.func32, Tryz.ntmps32
 have HL0 := Lib.hid (Below.refl w.heap.size w)
 have HB0 := Lib.hid (show Bs [] w from trivial)
 have HO0 := Lib.hid (show w.heap.size ≤ w.heap.size from by have := HL0.out.size; first | omega | (simp at this; omega))
 obtain ⟨HL1, HB1⟩ := growLB HL0 HB0 (w.heap.size) #[.bool na, .string sa, .bool ma, .string ta] 25
 clear HL0 HB0
 have HO1 := Lib.hid (show w.heap.size < w.heap.size + 1 from by have := (HB1.out.1).lt; first | omega | (simp at this; omega))
 obtain ⟨HL2, HB2⟩ := growLB HL1 HB1 (w.heap.size + 1) #[.bool nb, .string sb, .bool mb, .string tb] 25
 clear HL1 HB1
 have HO2 := Lib.hid (show w.heap.size + 1 < w.heap.size + 1 + 1 from by have := (HB2.out.1).lt; first | omega | (simp at this; omega))
 obtain ⟨HL3, HB3⟩ := growLB HL2 HB2 (w.heap.size + 1 + 1) #[.bool false, .string ⟨#[]⟩, .bool false, .string ⟨#[]⟩] 25
 clear HL2 HB2
 obtain ⟨fx0_0_3, fx0_1_3, fx0_2_3, fx0_3_3⟩ := (HB3.out.2.2.1).at4
 obtain ⟨fx1_0_3, fx1_1_3, fx1_2_3, fx1_3_3⟩ := (HB3.out.2.1).at4
 go_wp2_with fail
 refine (H1.out _).mono ?_
 rintro e w1 ⟨rfl, hb⟩
 obtain ⟨HL4, HB4⟩ := cameLB HL3 HB3 hb
 clear hb
 clear HL3 HB3 fx0_0_3 fx0_1_3 fx0_2_3 fx0_3_3 fx1_0_3 fx1_1_3 fx1_2_3 fx1_3_3
 obtain ⟨fx0_0_4, fx0_1_4, fx0_2_4, fx0_3_4⟩ := (HB4.out.2.2.1).at4
 go_wp2_with fail
 refine (H2.out _).mono ?_
 rintro e w2 ⟨rfl, hb⟩
 obtain ⟨HL5, HB5⟩ := cameLB HL4 HB4 hb
 clear hb
 clear HL4 HB4 fx0_0_4 fx0_1_4 fx0_2_4 fx0_3_4
 obtain ⟨fx0_0_5, fx0_1_5, fx0_2_5, fx0_3_5⟩ := (HB5.out.2.2.1).at4
 go_wp2_with fail
 refine (H2.out _).mono ?_
 rintro e w3 ⟨rfl, hb⟩
 obtain ⟨HL6, HB6⟩ := cameLB HL5 HB5 hb
 clear hb
 clear HL5 HB5 fx0_0_5 fx0_1_5 fx0_2_5 fx0_3_5
 go_wp2_with fail
 refine wp_region_front 5 zvQ (by kernel_rfl) shQ (by kernel_rfl) (by kernel_rfl) (zvQ_alloc _ (by kernel_rfl)) (shQ_store _ (by kernel_rfl)) ?_
 intro mm BW hm1 hm2 hBW
 haveI := clm_some mm BW
 obtain ⟨fq0_0, fq0_1, fq0_2, fq0_3⟩ := BC.all4 fun u : Clm mm BW => ((HB6.out.bel (u.old hm1 hBW)).2.2.1)
 obtain ⟨fq1_0, fq1_1, fq1_2, fq1_3⟩ := BC.all4 fun u : Clm mm BW => ((HB6.out.bel (u.old hm1 hBW)).2.1)
 simp only [frontOf, unmade, List.take_succ_cons, List.take_zero, List.map_cons, List.map_nil]
 iterate 1 (go_big_quiet_step (fail))
 go_big_quiet_step ((go_at_call 47; exact quiet_clm hm2 H3.out _))
 iterate 1 (go_big_quiet_step (fail))
 go_big_quiet_step ((go_at_call 47; exact quiet_clm hm2 H4.out _))
 go_big_quiet_step ((go_at_call 60; exact quiet_clm hm2 H5.out _))
 refine wpQuiet_nil ?_
 refine ⟨List.forall_mem_nil _, ?_⟩
 intro γ w4 hb hF
 clear hBW this hm1 hm2 fq0_0 fq0_1 fq0_2 fq0_3 fq1_0 fq1_1 fq1_2 fq1_3
 clear BW mm
 simp only [madesFrom, Facts, patch, List.take_succ_cons, List.take_zero, List.drop_succ_cons, List.drop_zero, Nat.zero_add, Nat.reduceAdd, List.mem_cons, List.not_mem_nil, or_false, forall_eq, forall_eq_or_imp, false_imp_iff, implies_true, and_true] at hF ⊢
 obtain ⟨HL7, HB7⟩ := cameLB HL6 HB6 hb
 clear hb  hF
 clear HL6 HB6
 obtain ⟨fx2_0_7, fx2_1_7, fx2_2_7, fx2_3_7⟩ := (HB7.out.1).at4
 obtain ⟨fz2_0_7, fz2_1_7, fz2_2_7, fz2_3_7⟩ := (HB7.out.1).z4
 obtain ⟨HL8, HB8⟩ := keptLB (c := w.heap.size + 1 + 1) [.bool nr, .string sr, .bool mr, .string tr] 0 0 HL7 HB7 (by have := HO0.out; have := HO1.out; have := HO2.out; omega) (by simp only [Bs.ap, Bs.ap0, List.length_cons, List.length_nil, and_true, true_and]; have := HO0.out; have := HO1.out; have := HO2.out; omega)
 simp only [setCs, setL, Bs.put, List.set_cons_succ, List.set_cons_zero, Nat.zero_add, Nat.reduceAdd] at HL8 HB8
 replace HL8 := Lib.hid HL8
 replace HB8 := Lib.hid HB8
 clear HL7 HB7
 obtain ⟨fx2_0_8, fx2_1_8, fx2_2_8, fx2_3_8⟩ := (HB8.out.1).at4
 go_wp2
 refine bodyPost_ret (v := .tuple #[.agg #[.bool nr, .string sr, .bool mr, .string tr], .int .i64 0]) (by simp [results, Tryz.results32, go_sem, fx2_0_8, fx2_1_8, fx2_2_8, fx2_3_8]) rfl ?_
 exact ⟨rfl, HL8.out⟩
theorem rSim_neg (c1 : Int) (h1 : decide ((0 : Int) < c1) = false) (w : World)
  (H1 : GivesV 26 #[.agg #[.bool na, .string sa, .bool ma, .string ta], .agg #[.bool nb, .string sb, .bool mb, .string tb]] (.int .i64 c1))
  (H2 : GivesV 59 #[.agg #[.bool na, .string sa, .bool ma, .string ta]] (.int .i64 (-1)))
  (H3 : GivesV 59 #[.agg #[.bool nb, .string sb, .bool mb, .string tb]] (.int .i64 (-1)))
  (H4 : GivesV 24 #[.agg #[.bool nb, .string sb, .bool mb, .string tb]] (.agg #[.bool nc, .string sc, .bool mc, .string tc]))
  (H5 : GivesV 24 #[.agg #[.bool na, .string sa, .bool ma, .string ta]] (.agg #[.bool nd, .string sd, .bool md, .string td]))
  (H6 : GivesV 60 #[.agg #[.bool nc, .string sc, .bool mc, .string tc], .agg #[.bool nd, .string sd, .bool md, .string td]] (.agg #[.bool ns, .string ss, .bool ms, .string ts]))
  (H7 : GivesV 24 #[.agg #[.bool ns, .string ss, .bool ms, .string ts]] (.agg #[.bool nr, .string sr, .bool mr, .string tr]))
  : Calls Tryz.prog 32 #[.agg #[.bool na, .string sa, .bool ma, .string ta], .agg #[.bool nb, .string sb, .bool mb, .string tb]] w fun e w' => e = .returned (.tuple #[.agg #[.bool nr, .string sr, .bool mr, .string tr], .int .i64 0]) ∧ Below w.heap.size w w' := by
 replace H1 := Lib.hid H1
 replace H2 := Lib.hid H2
 replace H3 := Lib.hid H3
 replace H4 := Lib.hid H4
 replace H5 := Lib.hid H5
 replace H6 := Lib.hid H6
 replace H7 := Lib.hid H7
 go_enter Tryz.func32, Tryz.ntmps32
 have HL0 := Lib.hid (Below.refl w.heap.size w)
 have HB0 := Lib.hid (show Bs [] w from trivial)
 have HO0 := Lib.hid (show w.heap.size ≤ w.heap.size from by have := HL0.out.size; first | omega | (simp at this; omega))
 obtain ⟨HL1, HB1⟩ := growLB HL0 HB0 (w.heap.size) #[.bool na, .string sa, .bool ma, .string ta] 25
 clear HL0 HB0
 have HO1 := Lib.hid (show w.heap.size < w.heap.size + 1 from by have := (HB1.out.1).lt; first | omega | (simp at this; omega))
 obtain ⟨HL2, HB2⟩ := growLB HL1 HB1 (w.heap.size + 1) #[.bool nb, .string sb, .bool mb, .string tb] 25
 clear HL1 HB1
 have HO2 := Lib.hid (show w.heap.size + 1 < w.heap.size + 1 + 1 from by have := (HB2.out.1).lt; first | omega | (simp at this; omega))
 obtain ⟨HL3, HB3⟩ := growLB HL2 HB2 (w.heap.size + 1 + 1) #[.bool false, .string ⟨#[]⟩, .bool false, .string ⟨#[]⟩] 25
 clear HL2 HB2
 obtain ⟨fx0_0_3, fx0_1_3, fx0_2_3, fx0_3_3⟩ := (HB3.out.2.2.1).at4
 obtain ⟨fx1_0_3, fx1_1_3, fx1_2_3, fx1_3_3⟩ := (HB3.out.2.1).at4
 go_wp2_with fail
 refine (H1.out _).mono ?_
 rintro e w1 ⟨rfl, hb⟩
 obtain ⟨HL4, HB4⟩ := cameLB HL3 HB3 hb
 clear hb
 clear HL3 HB3 fx0_0_3 fx0_1_3 fx0_2_3 fx0_3_3 fx1_0_3 fx1_1_3 fx1_2_3 fx1_3_3
 obtain ⟨fx0_0_4, fx0_1_4, fx0_2_4, fx0_3_4⟩ := (HB4.out.2.2.1).at4
 go_wp2_with fail
 refine (H2.out _).mono ?_
 rintro e w2 ⟨rfl, hb⟩
 obtain ⟨HL5, HB5⟩ := cameLB HL4 HB4 hb
 clear hb
 clear HL4 HB4 fx0_0_4 fx0_1_4 fx0_2_4 fx0_3_4
 obtain ⟨fx1_0_5, fx1_1_5, fx1_2_5, fx1_3_5⟩ := (HB5.out.2.1).at4
 go_wp2_with fail
 refine (H3.out _).mono ?_
 rintro e w3 ⟨rfl, hb⟩
 obtain ⟨HL6, HB6⟩ := cameLB HL5 HB5 hb
 clear hb
 clear HL5 HB5 fx1_0_5 fx1_1_5 fx1_2_5 fx1_3_5
 obtain ⟨fx0_0_6, fx0_1_6, fx0_2_6, fx0_3_6⟩ := (HB6.out.2.2.1).at4
 go_wp2_with fail
 refine (H2.out _).mono ?_
 rintro e w4 ⟨rfl, hb⟩
 obtain ⟨HL7, HB7⟩ := cameLB HL6 HB6 hb
 clear hb
 clear HL6 HB6 fx0_0_6 fx0_1_6 fx0_2_6 fx0_3_6
 go_wp2_with fail
 refine wp_region_front 6 zvQ (by kernel_rfl) shQ (by kernel_rfl) (by kernel_rfl) (zvQ_alloc _ (by kernel_rfl)) (shQ_store _ (by kernel_rfl)) ?_
 intro mm BW hm1 hm2 hBW
 haveI := clm_some mm BW
 obtain ⟨fq1_0, fq1_1, fq1_2, fq1_3⟩ := BC.all4 fun u : Clm mm BW => ((HB7.out.bel (u.old hm1 hBW)).2.1)
 obtain ⟨fq0_0, fq0_1, fq0_2, fq0_3⟩ := BC.all4 fun u : Clm mm BW => ((HB7.out.bel (u.old hm1 hBW)).2.2.1)
 simp only [frontOf, unmade, List.take_succ_cons, List.take_zero, List.map_cons, List.map_nil]
 iterate 1 (go_big_quiet_step (fail))
 go_big_quiet_step ((go_at_call 24; exact quiet_clm hm2 H4.out _))
 iterate 1 (go_big_quiet_step (fail))
 go_big_quiet_step ((go_at_call 24; exact quiet_clm hm2 H5.out _))
 go_big_quiet_step ((go_at_call 60; exact quiet_clm hm2 H6.out _))
 go_big_quiet_step ((go_at_call 24; exact quiet_clm hm2 H7.out _))
 refine wpQuiet_nil ?_
 refine ⟨List.forall_mem_nil _, ?_⟩
 intro γ w5 hb hF
 clear hBW this hm1 hm2 fq1_0 fq1_1 fq1_2 fq1_3 fq0_0 fq0_1 fq0_2 fq0_3
 clear BW mm
 simp only [madesFrom, Facts, patch, List.take_succ_cons, List.take_zero, List.drop_succ_cons, List.drop_zero, Nat.zero_add, Nat.reduceAdd, List.mem_cons, List.not_mem_nil, or_false, forall_eq, forall_eq_or_imp, false_imp_iff, implies_true, and_true] at hF ⊢
 obtain ⟨HL8, HB8⟩ := cameLB HL7 HB7 hb
 clear hb  hF
 clear HL7 HB7
 obtain ⟨fx2_0_8, fx2_1_8, fx2_2_8, fx2_3_8⟩ := (HB8.out.1).at4
 obtain ⟨fz2_0_8, fz2_1_8, fz2_2_8, fz2_3_8⟩ := (HB8.out.1).z4
 obtain ⟨HL9, HB9⟩ := keptLB (c := w.heap.size + 1 + 1) [.bool nr, .string sr, .bool mr, .string tr] 0 0 HL8 HB8 (by have := HO0.out; have := HO1.out; have := HO2.out; omega) (by simp only [Bs.ap, Bs.ap0, List.length_cons, List.length_nil, and_true, true_and]; have := HO0.out; have := HO1.out; have := HO2.out; omega)
 simp only [setCs, setL, Bs.put, List.set_cons_succ, List.set_cons_zero, Nat.zero_add, Nat.reduceAdd] at HL9 HB9
 replace HL9 := Lib.hid HL9
 replace HB9 := Lib.hid HB9
 clear HL8 HB8
 obtain ⟨fx2_0_9, fx2_1_9, fx2_2_9, fx2_3_9⟩ := (HB9.out.1).at4
 go_wp2
 refine bodyPost_ret (v := .tuple #[.agg #[.bool nr, .string sr, .bool mr, .string tr], .int .i64 0]) (by simp [results, Tryz.results32, go_sem, fx2_0_9, fx2_1_9, fx2_2_9, fx2_3_9]) rfl ?_
 exact ⟨rfl, HL9.out⟩
end Go.Proofs.Gv
