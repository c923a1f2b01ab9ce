import Derived.Test.YtamempcabmlodaaGreatDoorRwlow2P
set_option maxHeartbeats 4000000
set_option maxRecDepth 100000
set_option linter.unusedSimpArgs false
set_option linter.unusedVariables false
namespace Go.Proofs.Gv
open Go Go.RowKit
theorem lowP_w {nb na ng nx nxr ny nyr : Bool} {sb sa sg sx sxr sy syr : ByteArray} {ex ey : Int} (c1 : Int) (h1 : (c1 == 0) = false) (h3 : decide (c1 < 0) = false) (c2 : Int) (h2 : (c2 == 0) = false) (w : World)
  (H1 : GivesV 40 #[.agg #[.bool nb, .string sb], .agg #[.bool false, .string ⟨#[]⟩]] (.int .i64 c1))
  (H2 : GivesV 40 #[.agg #[.bool na, .string sa], .agg #[.bool false, .string ⟨#[]⟩]] (.int .i64 c2))
  (H3 : GivesV 68 #[.agg #[.bool na, .string sa], .agg #[.bool nb, .string sb]] (.agg #[.bool ng, .string sg]))
  (H4 : GivesV 54 #[.agg #[.bool na, .string sa], .agg #[.bool ng, .string sg]] (.tuple #[.agg #[.bool nx, .string sx], .agg #[.bool nxr, .string sxr], .int .i64 ex]))
  (H5 : GivesV 54 #[.agg #[.bool nb, .string sb], .agg #[.bool ng, .string sg]] (.tuple #[.agg #[.bool ny, .string sy], .agg #[.bool nyr, .string syr], .int .i64 ey]))
  : Calls Tryz.prog 41 #[.agg #[.bool na, .string sa], .agg #[.bool nb, .string sb]] w fun e w' => e = .returned (.agg #[.bool nx, .string sx, .bool ny, .string sy]) ∧ Below w.heap.size w w' := by
 replace H1 := Lib.hid H1
 replace H2 := Lib.hid H2
 replace H3 := Lib.hid H3
 replace H4 := Lib.hid H4
 replace H5 := Lib.hid H5
 go_enter Tryz.func41, Tryz.ntmps41
 have HL0 := Lib.hid (Below.refl w.heap.size w)
 have HB0 := Lib.hid (show Bs [] w from trivial)
 have HO0 := Lib.hid (show w.heap.size ≤ w.heap.size from by have := HL0.out.size; first | omega | (simp at this; omega))
 obtain ⟨HL1, HB1⟩ := growLB HL0 HB0 (w.heap.size) #[.bool na, .string sa] 23
 clear HL0 HB0
 have HO1 := Lib.hid (show w.heap.size < w.heap.size + 1 from by have := (HB1.out.1).lt; first | omega | (simp at this; omega))
 obtain ⟨HL2, HB2⟩ := growLB HL1 HB1 (w.heap.size + 1) #[.bool nb, .string sb] 23
 clear HL1 HB1
 have HO2 := Lib.hid (show w.heap.size + 1 < w.heap.size + 1 + 1 from by have := (HB2.out.1).lt; first | omega | (simp at this; omega))
 obtain ⟨HL3, HB3⟩ := growLB HL2 HB2 (w.heap.size + 1 + 1) #[.bool false, .string ⟨#[]⟩, .bool false, .string ⟨#[]⟩] 25
 clear HL2 HB2
 obtain ⟨fx1_0_3, fx1_1_3⟩ := (HB3.out.2.1).at2
 go_wp2_with fail
 refine (H1.out _).mono ?_
 rintro e w1 ⟨rfl, hb⟩
 obtain ⟨HL4, HB4⟩ := cameLB HL3 HB3 hb
 clear hb
 clear HL3 HB3 fx1_0_3 fx1_1_3
 obtain ⟨fx0_0_4, fx0_1_4⟩ := (HB4.out.2.2.1).at2
 go_wp2_with fail
 refine (H2.out _).mono ?_
 rintro e w2 ⟨rfl, hb⟩
 obtain ⟨HL5, HB5⟩ := cameLB HL4 HB4 hb
 clear hb
 clear HL4 HB4 fx0_0_4 fx0_1_4
 obtain ⟨fx0_0_5, fx0_1_5⟩ := (HB5.out.2.2.1).at2
 obtain ⟨fx1_0_5, fx1_1_5⟩ := (HB5.out.2.1).at2
 go_wp2_with fail
 refine (H3.out _).mono ?_
 rintro e w3 ⟨rfl, hb⟩
 obtain ⟨HL6, HB6⟩ := cameLB HL5 HB5 hb
 clear hb
 clear HL5 HB5 fx0_0_5 fx0_1_5 fx1_0_5 fx1_1_5
 have HO3 := Lib.hid (show w.heap.size + 1 + 1 < w3.heap.size from by have := (HB6.out.1).lt; first | omega | (simp at this; omega))
 obtain ⟨HL7, HB7⟩ := growLB HL6 HB6 (w3.heap.size) #[.bool ng, .string sg] 23
 clear HL6 HB6
 obtain ⟨fx0_0_7, fx0_1_7⟩ := (HB7.out.2.2.2.1).at2
 obtain ⟨fx3_0_7, fx3_1_7⟩ := (HB7.out.1).at2
 go_wp2_with fail
 refine (H4.out _).mono ?_
 rintro e w4 ⟨rfl, hb⟩
 obtain ⟨HL8, HB8⟩ := cameLB HL7 HB7 hb
 clear hb
 clear HL7 HB7 fx0_0_7 fx0_1_7 fx3_0_7 fx3_1_7
 have HO4 := Lib.hid (show w3.heap.size < w4.heap.size from by have := (HB8.out.1).lt; first | omega | (simp at this; omega))
 obtain ⟨HL9, HB9⟩ := growLB HL8 HB8 (w4.heap.size) #[.bool nx, .string sx] 23
 clear HL8 HB8
 have HO5 := Lib.hid (show w4.heap.size < w4.heap.size + 1 from by have := (HB9.out.1).lt; first | omega | (simp at this; omega))
 obtain ⟨HL10, HB10⟩ := growLB HL9 HB9 (w4.heap.size + 1) #[.bool nxr, .string sxr] 23
 clear HL9 HB9
 obtain ⟨fx1_0_10, fx1_1_10⟩ := (HB10.out.2.2.2.2.1).at2
 obtain ⟨fx3_0_10, fx3_1_10⟩ := (HB10.out.2.2.1).at2
 go_wp2_with fail
 refine (H5.out _).mono ?_
 rintro e w5 ⟨rfl, hb⟩
 obtain ⟨HL11, HB11⟩ := cameLB HL10 HB10 hb
 clear hb
 clear HL10 HB10 fx1_0_10 fx1_1_10 fx3_0_10 fx3_1_10
 have HO6 := Lib.hid (show w4.heap.size + 1 < w5.heap.size from by have := (HB11.out.1).lt; first | omega | (simp at this; omega))
 obtain ⟨HL12, HB12⟩ := growLB HL11 HB11 (w5.heap.size) #[.bool ny, .string sy] 23
 clear HL11 HB11
 have HO7 := Lib.hid (show w5.heap.size < w5.heap.size + 1 from by have := (HB12.out.1).lt; first | omega | (simp at this; omega))
 obtain ⟨HL13, HB13⟩ := growLB HL12 HB12 (w5.heap.size + 1) #[.bool nyr, .string syr] 23
 clear HL12 HB12
 obtain ⟨fx4_0_13, fx4_1_13⟩ := (HB13.out.2.2.2.1).at2
 obtain ⟨fx6_0_13, fx6_1_13⟩ := (HB13.out.2.1).at2
 obtain ⟨fx2_0_13, fx2_1_13, fx2_2_13, fx2_3_13⟩ := (HB13.out.2.2.2.2.2.1).at4
 obtain ⟨fz2_0_13, fz2_1_13, fz2_2_13, fz2_3_13⟩ := (HB13.out.2.2.2.2.2.1).z4
 obtain ⟨HL14, HB14⟩ := keptLB (c := w.heap.size + 1 + 1) [.bool nx, .string sx, .bool ny, .string sy] 0 5 HL13 HB13 (by have := HO0.out; have := HO1.out; have := HO2.out; have := HO3.out; have := HO4.out; have := HO5.out; have := HO6.out; have := HO7.out; omega) (by simp only [Bs.ap, Bs.ap0, List.length_cons, List.length_nil, and_true, true_and]; have := HO0.out; have := HO1.out; have := HO2.out; have := HO3.out; have := HO4.out; have := HO5.out; have := HO6.out; have := HO7.out; omega)
 simp only [setCs, setL, Bs.put, List.set_cons_succ, List.set_cons_zero, Nat.zero_add, Nat.reduceAdd] at HL14 HB14
 replace HL14 := Lib.hid HL14
 replace HB14 := Lib.hid HB14
 clear HL13 HB13
 obtain ⟨fx2_0_14, fx2_1_14, fx2_2_14, fx2_3_14⟩ := (HB14.out.2.2.2.2.2.1).at4
 go_wp2
 refine bodyPost_ret (v := .agg #[.bool nx, .string sx, .bool ny, .string sy]) (by simp [results, Tryz.results41, go_sem, fx2_0_14, fx2_1_14, fx2_2_14, fx2_3_14]) rfl ?_
 exact ⟨rfl, HL14.out⟩
theorem lowN_w {nb na nx1 ny1 ng nx nxr ny nyr : Bool} {sb sa sx1 sy1 sg sx sxr sy syr : ByteArray} {ex ey : Int} (c1 : Int) (h1 : (c1 == 0) = false) (h3 : c1 < 0) (c2 : Int) (h2 : (c2 == 0) = false) (w : World)
  (H1 : GivesV 40 #[.agg #[.bool nb, .string sb], .agg #[.bool false, .string ⟨#[]⟩]] (.int .i64 c1))
  (H2 : GivesV 40 #[.agg #[.bool na, .string sa], .agg #[.bool false, .string ⟨#[]⟩]] (.int .i64 c2))
  (H3 : GivesV 51 #[.agg #[.bool na, .string sa]] (.agg #[.bool nx1, .string sx1]))
  (H4 : GivesV 51 #[.agg #[.bool nb, .string sb]] (.agg #[.bool ny1, .string sy1]))
  (H5 : GivesV 68 #[.agg #[.bool nx1, .string sx1], .agg #[.bool ny1, .string sy1]] (.agg #[.bool ng, .string sg]))
  (H6 : GivesV 54 #[.agg #[.bool nx1, .string sx1], .agg #[.bool ng, .string sg]] (.tuple #[.agg #[.bool nx, .string sx], .agg #[.bool nxr, .string sxr], .int .i64 ex]))
  (H7 : GivesV 54 #[.agg #[.bool ny1, .string sy1], .agg #[.bool ng, .string sg]] (.tuple #[.agg #[.bool ny, .string sy], .agg #[.bool nyr, .string syr], .int .i64 ey]))
  : Calls Tryz.prog 41 #[.agg #[.bool na, .string sa], .agg #[.bool nb, .string sb]] w fun e w' => e = .returned (.agg #[.bool nx, .string sx, .bool ny, .string sy]) ∧ Below w.heap.size w w' := by
 replace H1 := Lib.hid H1
 replace H2 := Lib.hid H2
 replace H3 := Lib.hid H3
 replace H4 := Lib.hid H4
 replace H5 := Lib.hid H5
 replace H6 := Lib.hid H6
 replace H7 := Lib.hid H7
 go_enter Tryz.func41, Tryz.ntmps41
 have HL0 := Lib.hid (Below.refl w.heap.size w)
 have HB0 := Lib.hid (show Bs [] w from trivial)
 have HO0 := Lib.hid (show w.heap.size ≤ w.heap.size from by have := HL0.out.size; first | omega | (simp at this; omega))
 obtain ⟨HL1, HB1⟩ := growLB HL0 HB0 (w.heap.size) #[.bool na, .string sa] 23
 clear HL0 HB0
 have HO1 := Lib.hid (show w.heap.size < w.heap.size + 1 from by have := (HB1.out.1).lt; first | omega | (simp at this; omega))
 obtain ⟨HL2, HB2⟩ := growLB HL1 HB1 (w.heap.size + 1) #[.bool nb, .string sb] 23
 clear HL1 HB1
 have HO2 := Lib.hid (show w.heap.size + 1 < w.heap.size + 1 + 1 from by have := (HB2.out.1).lt; first | omega | (simp at this; omega))
 obtain ⟨HL3, HB3⟩ := growLB HL2 HB2 (w.heap.size + 1 + 1) #[.bool false, .string ⟨#[]⟩, .bool false, .string ⟨#[]⟩] 25
 clear HL2 HB2
 obtain ⟨fx1_0_3, fx1_1_3⟩ := (HB3.out.2.1).at2
 go_wp2_with fail
 refine (H1.out _).mono ?_
 rintro e w1 ⟨rfl, hb⟩
 obtain ⟨HL4, HB4⟩ := cameLB HL3 HB3 hb
 clear hb
 clear HL3 HB3 fx1_0_3 fx1_1_3
 obtain ⟨fx0_0_4, fx0_1_4⟩ := (HB4.out.2.2.1).at2
 go_wp2_with fail
 refine (H2.out _).mono ?_
 rintro e w2 ⟨rfl, hb⟩
 obtain ⟨HL5, HB5⟩ := cameLB HL4 HB4 hb
 clear hb
 clear HL4 HB4 fx0_0_4 fx0_1_4
 go_wp2_with fail
 refine wp_region_front 4 zvQ (by kernel_rfl) shQ (by kernel_rfl) (by kernel_rfl) (zvQ_alloc _ (by kernel_rfl)) (shQ_store _ (by kernel_rfl)) ?_
 intro mm BW hm1 hm2 hBW
 haveI := clm_some mm BW
 obtain ⟨fq0_0, fq0_1⟩ := BC.all2 fun u : Clm mm BW => ((HB5.out.bel (u.old hm1 hBW)).2.2.1)
 obtain ⟨fq1_0, fq1_1⟩ := BC.all2 fun u : Clm mm BW => ((HB5.out.bel (u.old hm1 hBW)).2.1)
 simp only [frontOf, unmade, List.take_succ_cons, List.take_zero, List.map_cons, List.map_nil]
 iterate 1 (go_big_quiet_step (fail))
 go_big_quiet_step ((go_at_call 51; exact quiet_clm hm2 H3.out _))
 iterate 1 (go_big_quiet_step (fail))
 go_big_quiet_step ((go_at_call 51; exact quiet_clm hm2 H4.out _))
 refine wpQuiet_nil ?_
 refine ⟨List.forall_mem_nil _, ?_⟩
 intro γ w3 hb hF
 clear hBW this hm1 hm2 fq0_0 fq0_1 fq1_0 fq1_1
 clear BW mm
 simp only [madesFrom, Facts, patch, List.take_succ_cons, List.take_zero, List.drop_succ_cons, List.drop_zero, Nat.zero_add, Nat.reduceAdd, List.mem_cons, List.not_mem_nil, or_false, forall_eq, forall_eq_or_imp, false_imp_iff, implies_true, and_true] at hF ⊢
 obtain ⟨HL6, HB6⟩ := cameLB HL5 HB5 hb
 clear hb  hF
 clear HL5 HB5
 obtain ⟨fx0_0_6, fx0_1_6⟩ := (HB6.out.2.2.1).at2
 obtain ⟨fz0_0_6, fz0_1_6⟩ := (HB6.out.2.2.1).z2
 obtain ⟨HL7, HB7⟩ := keptLB (c := w.heap.size) [.bool nx1, .string sx1] 0 2 HL6 HB6 (by have := HO0.out; have := HO1.out; have := HO2.out; omega) (by simp only [Bs.ap, Bs.ap0, List.length_cons, List.length_nil, and_true, true_and]; have := HO0.out; have := HO1.out; have := HO2.out; omega)
 simp only [setCs, setL, Bs.put, List.set_cons_succ, List.set_cons_zero, Nat.zero_add, Nat.reduceAdd] at HL7 HB7
 replace HL7 := Lib.hid HL7
 replace HB7 := Lib.hid HB7
 clear HL6 HB6
 obtain ⟨fx1_0_7, fx1_1_7⟩ := (HB7.out.2.1).at2
 obtain ⟨fz1_0_7, fz1_1_7⟩ := (HB7.out.2.1).z2
 obtain ⟨HL8, HB8⟩ := keptLB (c := w.heap.size + 1) [.bool ny1, .string sy1] 0 1 HL7 HB7 (by have := HO0.out; have := HO1.out; have := HO2.out; omega) (by simp only [Bs.ap, Bs.ap0, List.length_cons, List.length_nil, and_true, true_and]; have := HO0.out; have := HO1.out; have := HO2.out; omega)
 simp only [setCs, setL, Bs.put, List.set_cons_succ, List.set_cons_zero, Nat.zero_add, Nat.reduceAdd] at HL8 HB8
 replace HL8 := Lib.hid HL8
 replace HB8 := Lib.hid HB8
 clear HL7 HB7
 obtain ⟨fx0_0_8, fx0_1_8⟩ := (HB8.out.2.2.1).at2
 obtain ⟨fx1_0_8, fx1_1_8⟩ := (HB8.out.2.1).at2
 go_wp2_with fail
 refine (H5.out _).mono ?_
 rintro e w4 ⟨rfl, hb⟩
 obtain ⟨HL9, HB9⟩ := cameLB HL8 HB8 hb
 clear hb
 clear HL8 HB8 fx0_0_6 fz0_0_6 fx0_1_6 fz0_1_6 fx1_0_7 fz1_0_7 fx1_1_7 fz1_1_7 fx0_0_8 fx0_1_8 fx1_0_8 fx1_1_8
 have HO3 := Lib.hid (show w.heap.size + 1 + 1 < w4.heap.size from by have := (HB9.out.1).lt; first | omega | (simp at this; omega))
 obtain ⟨HL10, HB10⟩ := growLB HL9 HB9 (w4.heap.size) #[.bool ng, .string sg] 23
 clear HL9 HB9
 obtain ⟨fx0_0_10, fx0_1_10⟩ := (HB10.out.2.2.2.1).at2
 obtain ⟨fx3_0_10, fx3_1_10⟩ := (HB10.out.1).at2
 go_wp2_with fail
 refine (H6.out _).mono ?_
 rintro e w5 ⟨rfl, hb⟩
 obtain ⟨HL11, HB11⟩ := cameLB HL10 HB10 hb
 clear hb
 clear HL10 HB10 fx0_0_10 fx0_1_10 fx3_0_10 fx3_1_10
 have HO4 := Lib.hid (show w4.heap.size < w5.heap.size from by have := (HB11.out.1).lt; first | omega | (simp at this; omega))
 obtain ⟨HL12, HB12⟩ := growLB HL11 HB11 (w5.heap.size) #[.bool nx, .string sx] 23
 clear HL11 HB11
 have HO5 := Lib.hid (show w5.heap.size < w5.heap.size + 1 from by have := (HB12.out.1).lt; first | omega | (simp at this; omega))
 obtain ⟨HL13, HB13⟩ := growLB HL12 HB12 (w5.heap.size + 1) #[.bool nxr, .string sxr] 23
 clear HL12 HB12
 obtain ⟨fx1_0_13, fx1_1_13⟩ := (HB13.out.2.2.2.2.1).at2
 obtain ⟨fx3_0_13, fx3_1_13⟩ := (HB13.out.2.2.1).at2
 go_wp2_with fail
 refine (H7.out _).mono ?_
 rintro e w6 ⟨rfl, hb⟩
 obtain ⟨HL14, HB14⟩ := cameLB HL13 HB13 hb
 clear hb
 clear HL13 HB13 fx1_0_13 fx1_1_13 fx3_0_13 fx3_1_13
 have HO6 := Lib.hid (show w5.heap.size + 1 < w6.heap.size from by have := (HB14.out.1).lt; first | omega | (simp at this; omega))
 obtain ⟨HL15, HB15⟩ := growLB HL14 HB14 (w6.heap.size) #[.bool ny, .string sy] 23
 clear HL14 HB14
 have HO7 := Lib.hid (show w6.heap.size < w6.heap.size + 1 from by have := (HB15.out.1).lt; first | omega | (simp at this; omega))
 obtain ⟨HL16, HB16⟩ := growLB HL15 HB15 (w6.heap.size + 1) #[.bool nyr, .string syr] 23
 clear HL15 HB15
 obtain ⟨fx4_0_16, fx4_1_16⟩ := (HB16.out.2.2.2.1).at2
 obtain ⟨fx6_0_16, fx6_1_16⟩ := (HB16.out.2.1).at2
 obtain ⟨fx2_0_16, fx2_1_16, fx2_2_16, fx2_3_16⟩ := (HB16.out.2.2.2.2.2.1).at4
 obtain ⟨fz2_0_16, fz2_1_16, fz2_2_16, fz2_3_16⟩ := (HB16.out.2.2.2.2.2.1).z4
 obtain ⟨HL17, HB17⟩ := keptLB (c := w.heap.size + 1 + 1) [.bool nx, .string sx, .bool ny, .string sy] 0 5 HL16 HB16 (by have := HO0.out; have := HO1.out; have := HO2.out; have := HO3.out; have := HO4.out; have := HO5.out; have := HO6.out; have := HO7.out; omega) (by simp only [Bs.ap, Bs.ap0, List.length_cons, List.length_nil, and_true, true_and]; have := HO0.out; have := HO1.out; have := HO2.out; have := HO3.out; have := HO4.out; have := HO5.out; have := HO6.out; have := HO7.out; omega)
 simp only [setCs, setL, Bs.put, List.set_cons_succ, List.set_cons_zero, Nat.zero_add, Nat.reduceAdd] at HL17 HB17
 replace HL17 := Lib.hid HL17
 replace HB17 := Lib.hid HB17
 clear HL16 HB16
 obtain ⟨fx2_0_17, fx2_1_17, fx2_2_17, fx2_3_17⟩ := (HB17.out.2.2.2.2.2.1).at4
 go_wp2
 refine bodyPost_ret (v := .agg #[.bool nx, .string sx, .bool ny, .string sy]) (by simp [results, Tryz.results41, go_sem, fx2_0_17, fx2_1_17, fx2_2_17, fx2_3_17]) rfl ?_
 exact ⟨rfl, HL17.out⟩
end Go.Proofs.Gv
