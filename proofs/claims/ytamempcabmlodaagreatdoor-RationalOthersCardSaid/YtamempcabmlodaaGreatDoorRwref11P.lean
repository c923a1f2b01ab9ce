import Derived.Test.YtamempcabmlodaaGreatDoorRwlow2P
set_option maxHeartbeats 4000000
set_option maxRecDepth 100000
set_option linter.unusedSimpArgs false
set_option linter.unusedVariables false
namespace Go.Proofs.Gv
open Go Go.RowKit
variable {no na nb ng nx nxr ny nyr nx1 ny1 ma nr mr : Bool} {so sa sb sg sx sxr sy syr sx1 sy1 ta sr tr : ByteArray}
theorem rone_w (w : World)
  (H1 : GivesV 44 #[.int .i64 1] (.agg #[.bool no, .string so]))
  : Calls Tryz.prog 49 #[] w fun e w' => e = .returned (.agg #[.bool no, .string so]) ∧ Below w.heap.size w w' := by
 replace H1 := Lib.hid H1
 go_enter Tryz.func49, Tryz.ntmps49
 have HL0 := Lib.hid (Below.refl w.heap.size w)
 have HB0 := Lib.hid (show Bs [] w from trivial)
 have HO0 := Lib.hid (show w.heap.size ≤ w.heap.size from by have := HL0.out.size; first | omega | (simp at this; omega))
 obtain ⟨HL1, HB1⟩ := growLB HL0 HB0 (w.heap.size) #[.bool false, .string ⟨#[]⟩] 23
 clear HL0 HB0
 go_wp2_with fail
 refine (H1.out _).mono ?_
 rintro e w1 ⟨rfl, hb⟩
 obtain ⟨HL2, HB2⟩ := cameLB HL1 HB1 hb
 clear hb
 clear HL1 HB1
 obtain ⟨fx0_0_2, fx0_1_2⟩ := (HB2.out.1).at2
 obtain ⟨fz0_0_2, fz0_1_2⟩ := (HB2.out.1).z2
 obtain ⟨HL3, HB3⟩ := keptLB (c := w.heap.size) [.bool no, .string so] 0 0 HL2 HB2 (by have := HO0.out; omega) (by simp only [Bs.ap, Bs.ap0, List.length_cons, List.length_nil, and_true, true_and]; have := HO0.out; omega)
 simp only [setCs, setL, Bs.put, List.set_cons_succ, List.set_cons_zero, Nat.zero_add, Nat.reduceAdd] at HL3 HB3
 replace HL3 := Lib.hid HL3
 replace HB3 := Lib.hid HB3
 clear HL2 HB2
 obtain ⟨fx0_0_3, fx0_1_3⟩ := (HB3.out.1).at2
 go_wp2
 refine bodyPost_ret (v := .agg #[.bool no, .string so]) (by simp [results, Tryz.results49, go_sem, fx0_0_3, fx0_1_3]) rfl ?_
 exact ⟨rfl, HL3.out⟩
theorem rsign_w {z0 : Int} (w : World)
  (H1 : GivesV 69 #[.agg #[.bool na, .string sa], .agg #[.bool false, .string ⟨#[]⟩]] (.int .i64 z0))
  : Calls Tryz.prog 42 #[.agg #[.bool na, .string sa]] w fun e w' => e = .returned (.int .i64 z0) ∧ Below w.heap.size w w' := by
 replace H1 := Lib.hid H1
 go_enter Tryz.func42, Tryz.ntmps42
 have HL0 := Lib.hid (Below.refl w.heap.size w)
 have HB0 := Lib.hid (show Bs [] w from trivial)
 have HO0 := Lib.hid (show w.heap.size ≤ w.heap.size from by have := HL0.out.size; first | omega | (simp at this; omega))
 obtain ⟨HL1, HB1⟩ := growLB HL0 HB0 (w.heap.size) #[.bool na, .string sa] 23
 clear HL0 HB0
 obtain ⟨fx0_0_1, fx0_1_1⟩ := (HB1.out.1).at2
 go_wp2_with fail
 refine (H1.out _).mono ?_
 rintro e w1 ⟨rfl, hb⟩
 obtain ⟨HL2, HB2⟩ := cameLB HL1 HB1 hb
 clear hb
 clear HL1 HB1 fx0_0_1 fx0_1_1
 go_wp2
 go_ret
 exact ⟨rfl, HL2.out⟩
theorem rlow_pos {ex ey : Int} (w : World)
  (H1 : GivesV 42 #[.agg #[.bool nb, .string sb]] (.int .i64 1))
  (H2 : GivesV 70 #[.agg #[.bool na, .string sa], .agg #[.bool nb, .string sb]] (.agg #[.bool ng, .string sg]))
  (H3 : GivesV 55 #[.agg #[.bool na, .string sa], .agg #[.bool ng, .string sg]] (.tuple #[.agg #[.bool nx, .string sx], .agg #[.bool nxr, .string sxr], .int .i64 ex]))
  (H4 : GivesV 55 #[.agg #[.bool nb, .string sb], .agg #[.bool ng, .string sg]] (.tuple #[.agg #[.bool ny, .string sy], .agg #[.bool nyr, .string syr], .int .i64 ey]))
  : Calls Tryz.prog 43 #[.agg #[.bool na, .string sa], .agg #[.bool nb, .string sb]] w fun e w' => e = .returned (.agg #[.bool nx, .string sx, .bool ny, .string sy]) ∧ Below w.heap.size w w' := by
 replace H1 := Lib.hid H1
 replace H2 := Lib.hid H2
 replace H3 := Lib.hid H3
 replace H4 := Lib.hid H4
 go_enter Tryz.func43, Tryz.ntmps43
 have HL0 := Lib.hid (Below.refl w.heap.size w)
 have HB0 := Lib.hid (show Bs [] w from trivial)
 have HO0 := Lib.hid (show w.heap.size ≤ w.heap.size from by have := HL0.out.size; first | omega | (simp at this; omega))
 obtain ⟨HL1, HB1⟩ := growLB HL0 HB0 (w.heap.size) #[.bool na, .string sa] 23
 clear HL0 HB0
 have HO1 := Lib.hid (show w.heap.size < w.heap.size + 1 from by have := (HB1.out.1).lt; first | omega | (simp at this; omega))
 obtain ⟨HL2, HB2⟩ := growLB HL1 HB1 (w.heap.size + 1) #[.bool nb, .string sb] 23
 clear HL1 HB1
 have HO2 := Lib.hid (show w.heap.size + 1 < w.heap.size + 1 + 1 from by have := (HB2.out.1).lt; first | omega | (simp at this; omega))
 obtain ⟨HL3, HB3⟩ := growLB HL2 HB2 (w.heap.size + 1 + 1) #[.bool false, .string ⟨#[]⟩, .bool false, .string ⟨#[]⟩] 25
 clear HL2 HB2
 obtain ⟨fx1_0_3, fx1_1_3⟩ := (HB3.out.2.1).at2
 go_wp2_with fail
 refine (H1.out _).mono ?_
 rintro e w1 ⟨rfl, hb⟩
 obtain ⟨HL4, HB4⟩ := cameLB HL3 HB3 hb
 clear hb
 clear HL3 HB3 fx1_0_3 fx1_1_3
 obtain ⟨fx0_0_4, fx0_1_4⟩ := (HB4.out.2.2.1).at2
 obtain ⟨fx1_0_4, fx1_1_4⟩ := (HB4.out.2.1).at2
 go_wp2_with fail
 refine (H2.out _).mono ?_
 rintro e w2 ⟨rfl, hb⟩
 obtain ⟨HL5, HB5⟩ := cameLB HL4 HB4 hb
 clear hb
 clear HL4 HB4 fx0_0_4 fx0_1_4 fx1_0_4 fx1_1_4
 have HO3 := Lib.hid (show w.heap.size + 1 + 1 < w2.heap.size from by have := (HB5.out.1).lt; first | omega | (simp at this; omega))
 obtain ⟨HL6, HB6⟩ := growLB HL5 HB5 (w2.heap.size) #[.bool ng, .string sg] 23
 clear HL5 HB5
 obtain ⟨fx0_0_6, fx0_1_6⟩ := (HB6.out.2.2.2.1).at2
 obtain ⟨fx3_0_6, fx3_1_6⟩ := (HB6.out.1).at2
 go_wp2_with fail
 refine (H3.out _).mono ?_
 rintro e w3 ⟨rfl, hb⟩
 obtain ⟨HL7, HB7⟩ := cameLB HL6 HB6 hb
 clear hb
 clear HL6 HB6 fx0_0_6 fx0_1_6 fx3_0_6 fx3_1_6
 obtain ⟨fx0_0_7, fx0_1_7⟩ := (HB7.out.2.2.2.1).at2
 obtain ⟨fz0_0_7, fz0_1_7⟩ := (HB7.out.2.2.2.1).z2
 obtain ⟨HL8, HB8⟩ := keptLB (c := w.heap.size) [.bool nx, .string sx] 0 3 HL7 HB7 (by have := HO0.out; have := HO1.out; have := HO2.out; have := HO3.out; omega) (by simp only [Bs.ap, Bs.ap0, List.length_cons, List.length_nil, and_true, true_and]; have := HO0.out; have := HO1.out; have := HO2.out; have := HO3.out; omega)
 simp only [setCs, setL, Bs.put, List.set_cons_succ, List.set_cons_zero, Nat.zero_add, Nat.reduceAdd] at HL8 HB8
 replace HL8 := Lib.hid HL8
 replace HB8 := Lib.hid HB8
 clear HL7 HB7
 obtain ⟨fx1_0_8, fx1_1_8⟩ := (HB8.out.2.2.1).at2
 obtain ⟨fx3_0_8, fx3_1_8⟩ := (HB8.out.1).at2
 go_wp2_with fail
 refine (H4.out _).mono ?_
 rintro e w4 ⟨rfl, hb⟩
 obtain ⟨HL9, HB9⟩ := cameLB HL8 HB8 hb
 clear hb
 clear HL8 HB8 fx0_0_7 fz0_0_7 fx0_1_7 fz0_1_7 fx1_0_8 fx1_1_8 fx3_0_8 fx3_1_8
 obtain ⟨fx1_0_9, fx1_1_9⟩ := (HB9.out.2.2.1).at2
 obtain ⟨fz1_0_9, fz1_1_9⟩ := (HB9.out.2.2.1).z2
 obtain ⟨HL10, HB10⟩ := keptLB (c := w.heap.size + 1) [.bool ny, .string sy] 0 2 HL9 HB9 (by have := HO0.out; have := HO1.out; have := HO2.out; have := HO3.out; omega) (by simp only [Bs.ap, Bs.ap0, List.length_cons, List.length_nil, and_true, true_and]; have := HO0.out; have := HO1.out; have := HO2.out; have := HO3.out; omega)
 simp only [setCs, setL, Bs.put, List.set_cons_succ, List.set_cons_zero, Nat.zero_add, Nat.reduceAdd] at HL10 HB10
 replace HL10 := Lib.hid HL10
 replace HB10 := Lib.hid HB10
 clear HL9 HB9
 obtain ⟨fx0_0_10, fx0_1_10⟩ := (HB10.out.2.2.2.1).at2
 obtain ⟨fx1_0_10, fx1_1_10⟩ := (HB10.out.2.2.1).at2
 obtain ⟨fx2_0_10, fx2_1_10, fx2_2_10, fx2_3_10⟩ := (HB10.out.2.1).at4
 obtain ⟨fz2_0_10, fz2_1_10, fz2_2_10, fz2_3_10⟩ := (HB10.out.2.1).z4
 obtain ⟨HL11, HB11⟩ := keptLB (c := w.heap.size + 1 + 1) [.bool nx, .string sx, .bool ny, .string sy] 0 1 HL10 HB10 (by have := HO0.out; have := HO1.out; have := HO2.out; have := HO3.out; omega) (by simp only [Bs.ap, Bs.ap0, List.length_cons, List.length_nil, and_true, true_and]; have := HO0.out; have := HO1.out; have := HO2.out; have := HO3.out; omega)
 simp only [setCs, setL, Bs.put, List.set_cons_succ, List.set_cons_zero, Nat.zero_add, Nat.reduceAdd] at HL11 HB11
 replace HL11 := Lib.hid HL11
 replace HB11 := Lib.hid HB11
 clear HL10 HB10
 obtain ⟨fx2_0_11, fx2_1_11, fx2_2_11, fx2_3_11⟩ := (HB11.out.2.1).at4
 go_wp2
 refine bodyPost_ret (v := .agg #[.bool nx, .string sx, .bool ny, .string sy]) (by simp [results, Tryz.results43, go_sem, fx2_0_11, fx2_1_11, fx2_2_11, fx2_3_11]) rfl ?_
 exact ⟨rfl, HL11.out⟩
theorem rlow_neg {ex ey : Int} (w : World)
  (H1 : GivesV 42 #[.agg #[.bool nb, .string sb]] (.int .i64 (-1)))
  (H2 : GivesV 52 #[.agg #[.bool na, .string sa]] (.agg #[.bool nx1, .string sx1]))
  (H3 : GivesV 52 #[.agg #[.bool nb, .string sb]] (.agg #[.bool ny1, .string sy1]))
  (H4 : GivesV 70 #[.agg #[.bool nx1, .string sx1], .agg #[.bool ny1, .string sy1]] (.agg #[.bool ng, .string sg]))
  (H5 : GivesV 55 #[.agg #[.bool nx1, .string sx1], .agg #[.bool ng, .string sg]] (.tuple #[.agg #[.bool nx, .string sx], .agg #[.bool nxr, .string sxr], .int .i64 ex]))
  (H6 : GivesV 55 #[.agg #[.bool ny1, .string sy1], .agg #[.bool ng, .string sg]] (.tuple #[.agg #[.bool ny, .string sy], .agg #[.bool nyr, .string syr], .int .i64 ey]))
  : Calls Tryz.prog 43 #[.agg #[.bool na, .string sa], .agg #[.bool nb, .string sb]] w fun e w' => e = .returned (.agg #[.bool nx, .string sx, .bool ny, .string sy]) ∧ Below w.heap.size w w' := by
 replace H1 := Lib.hid H1
 replace H2 := Lib.hid H2
 replace H3 := Lib.hid H3
 replace H4 := Lib.hid H4
 replace H5 := Lib.hid H5
 replace H6 := Lib.hid H6
 go_enter Tryz.func43, Tryz.ntmps43
 have HL0 := Lib.hid (Below.refl w.heap.size w)
 have HB0 := Lib.hid (show Bs [] w from trivial)
 have HO0 := Lib.hid (show w.heap.size ≤ w.heap.size from by have := HL0.out.size; first | omega | (simp at this; omega))
 obtain ⟨HL1, HB1⟩ := growLB HL0 HB0 (w.heap.size) #[.bool na, .string sa] 23
 clear HL0 HB0
 have HO1 := Lib.hid (show w.heap.size < w.heap.size + 1 from by have := (HB1.out.1).lt; first | omega | (simp at this; omega))
 obtain ⟨HL2, HB2⟩ := growLB HL1 HB1 (w.heap.size + 1) #[.bool nb, .string sb] 23
 clear HL1 HB1
 have HO2 := Lib.hid (show w.heap.size + 1 < w.heap.size + 1 + 1 from by have := (HB2.out.1).lt; first | omega | (simp at this; omega))
 obtain ⟨HL3, HB3⟩ := growLB HL2 HB2 (w.heap.size + 1 + 1) #[.bool false, .string ⟨#[]⟩, .bool false, .string ⟨#[]⟩] 25
 clear HL2 HB2
 obtain ⟨fx1_0_3, fx1_1_3⟩ := (HB3.out.2.1).at2
 go_wp2_with fail
 refine (H1.out _).mono ?_
 rintro e w1 ⟨rfl, hb⟩
 obtain ⟨HL4, HB4⟩ := cameLB HL3 HB3 hb
 clear hb
 clear HL3 HB3 fx1_0_3 fx1_1_3
 go_wp2_with fail
 refine wp_region_front 4 zvQ (by kernel_rfl) shQ (by kernel_rfl) (by kernel_rfl) (zvQ_alloc _ (by kernel_rfl)) (shQ_store _ (by kernel_rfl)) ?_
 intro mm BW hm1 hm2 hBW
 haveI := clm_some mm BW
 obtain ⟨fq0_0, fq0_1⟩ := BC.all2 fun u : Clm mm BW => ((HB4.out.bel (u.old hm1 hBW)).2.2.1)
 obtain ⟨fq1_0, fq1_1⟩ := BC.all2 fun u : Clm mm BW => ((HB4.out.bel (u.old hm1 hBW)).2.1)
 simp only [frontOf, unmade, List.take_succ_cons, List.take_zero, List.map_cons, List.map_nil]
 iterate 1 (go_big_quiet_step (fail))
 go_big_quiet_step ((go_at_call 52; exact quiet_clm hm2 H2.out _))
 iterate 1 (go_big_quiet_step (fail))
 go_big_quiet_step ((go_at_call 52; exact quiet_clm hm2 H3.out _))
 refine wpQuiet_nil ?_
 refine ⟨List.forall_mem_nil _, ?_⟩
 intro γ w2 hb hF
 clear hBW this hm1 hm2 fq0_0 fq0_1 fq1_0 fq1_1
 clear BW mm
 simp only [madesFrom, Facts, patch, List.take_succ_cons, List.take_zero, List.drop_succ_cons, List.drop_zero, Nat.zero_add, Nat.reduceAdd, List.mem_cons, List.not_mem_nil, or_false, forall_eq, forall_eq_or_imp, false_imp_iff, implies_true, and_true] at hF ⊢
 obtain ⟨HL5, HB5⟩ := cameLB HL4 HB4 hb
 clear hb  hF
 clear HL4 HB4
 obtain ⟨fx0_0_5, fx0_1_5⟩ := (HB5.out.2.2.1).at2
 obtain ⟨fz0_0_5, fz0_1_5⟩ := (HB5.out.2.2.1).z2
 obtain ⟨HL6, HB6⟩ := keptLB (c := w.heap.size) [.bool nx1, .string sx1] 0 2 HL5 HB5 (by have := HO0.out; have := HO1.out; have := HO2.out; omega) (by simp only [Bs.ap, Bs.ap0, List.length_cons, List.length_nil, and_true, true_and]; have := HO0.out; have := HO1.out; have := HO2.out; omega)
 simp only [setCs, setL, Bs.put, List.set_cons_succ, List.set_cons_zero, Nat.zero_add, Nat.reduceAdd] at HL6 HB6
 replace HL6 := Lib.hid HL6
 replace HB6 := Lib.hid HB6
 clear HL5 HB5
 obtain ⟨fx1_0_6, fx1_1_6⟩ := (HB6.out.2.1).at2
 obtain ⟨fz1_0_6, fz1_1_6⟩ := (HB6.out.2.1).z2
 obtain ⟨HL7, HB7⟩ := keptLB (c := w.heap.size + 1) [.bool ny1, .string sy1] 0 1 HL6 HB6 (by have := HO0.out; have := HO1.out; have := HO2.out; omega) (by simp only [Bs.ap, Bs.ap0, List.length_cons, List.length_nil, and_true, true_and]; have := HO0.out; have := HO1.out; have := HO2.out; omega)
 simp only [setCs, setL, Bs.put, List.set_cons_succ, List.set_cons_zero, Nat.zero_add, Nat.reduceAdd] at HL7 HB7
 replace HL7 := Lib.hid HL7
 replace HB7 := Lib.hid HB7
 clear HL6 HB6
 obtain ⟨fx0_0_7, fx0_1_7⟩ := (HB7.out.2.2.1).at2
 obtain ⟨fx1_0_7, fx1_1_7⟩ := (HB7.out.2.1).at2
 go_wp2_with fail
 refine (H4.out _).mono ?_
 rintro e w3 ⟨rfl, hb⟩
 obtain ⟨HL8, HB8⟩ := cameLB HL7 HB7 hb
 clear hb
 clear HL7 HB7 fx0_0_5 fz0_0_5 fx0_1_5 fz0_1_5 fx1_0_6 fz1_0_6 fx1_1_6 fz1_1_6 fx0_0_7 fx0_1_7 fx1_0_7 fx1_1_7
 have HO3 := Lib.hid (show w.heap.size + 1 + 1 < w3.heap.size from by have := (HB8.out.1).lt; first | omega | (simp at this; omega))
 obtain ⟨HL9, HB9⟩ := growLB HL8 HB8 (w3.heap.size) #[.bool ng, .string sg] 23
 clear HL8 HB8
 obtain ⟨fx0_0_9, fx0_1_9⟩ := (HB9.out.2.2.2.1).at2
 obtain ⟨fx3_0_9, fx3_1_9⟩ := (HB9.out.1).at2
 go_wp2_with fail
 refine (H5.out _).mono ?_
 rintro e w4 ⟨rfl, hb⟩
 obtain ⟨HL10, HB10⟩ := cameLB HL9 HB9 hb
 clear hb
 clear HL9 HB9 fx0_0_9 fx0_1_9 fx3_0_9 fx3_1_9
 obtain ⟨fx0_0_10, fx0_1_10⟩ := (HB10.out.2.2.2.1).at2
 obtain ⟨fz0_0_10, fz0_1_10⟩ := (HB10.out.2.2.2.1).z2
 obtain ⟨HL11, HB11⟩ := keptLB (c := w.heap.size) [.bool nx, .string sx] 0 3 HL10 HB10 (by have := HO0.out; have := HO1.out; have := HO2.out; have := HO3.out; omega) (by simp only [Bs.ap, Bs.ap0, List.length_cons, List.length_nil, and_true, true_and]; have := HO0.out; have := HO1.out; have := HO2.out; have := HO3.out; omega)
 simp only [setCs, setL, Bs.put, List.set_cons_succ, List.set_cons_zero, Nat.zero_add, Nat.reduceAdd] at HL11 HB11
 replace HL11 := Lib.hid HL11
 replace HB11 := Lib.hid HB11
 clear HL10 HB10
 obtain ⟨fx1_0_11, fx1_1_11⟩ := (HB11.out.2.2.1).at2
 obtain ⟨fx3_0_11, fx3_1_11⟩ := (HB11.out.1).at2
 go_wp2_with fail
 refine (H6.out _).mono ?_
 rintro e w5 ⟨rfl, hb⟩
 obtain ⟨HL12, HB12⟩ := cameLB HL11 HB11 hb
 clear hb
 clear HL11 HB11 fx0_0_10 fz0_0_10 fx0_1_10 fz0_1_10 fx1_0_11 fx1_1_11 fx3_0_11 fx3_1_11
 obtain ⟨fx1_0_12, fx1_1_12⟩ := (HB12.out.2.2.1).at2
 obtain ⟨fz1_0_12, fz1_1_12⟩ := (HB12.out.2.2.1).z2
 obtain ⟨HL13, HB13⟩ := keptLB (c := w.heap.size + 1) [.bool ny, .string sy] 0 2 HL12 HB12 (by have := HO0.out; have := HO1.out; have := HO2.out; have := HO3.out; omega) (by simp only [Bs.ap, Bs.ap0, List.length_cons, List.length_nil, and_true, true_and]; have := HO0.out; have := HO1.out; have := HO2.out; have := HO3.out; omega)
 simp only [setCs, setL, Bs.put, List.set_cons_succ, List.set_cons_zero, Nat.zero_add, Nat.reduceAdd] at HL13 HB13
 replace HL13 := Lib.hid HL13
 replace HB13 := Lib.hid HB13
 clear HL12 HB12
 obtain ⟨fx0_0_13, fx0_1_13⟩ := (HB13.out.2.2.2.1).at2
 obtain ⟨fx1_0_13, fx1_1_13⟩ := (HB13.out.2.2.1).at2
 obtain ⟨fx2_0_13, fx2_1_13, fx2_2_13, fx2_3_13⟩ := (HB13.out.2.1).at4
 obtain ⟨fz2_0_13, fz2_1_13, fz2_2_13, fz2_3_13⟩ := (HB13.out.2.1).z4
 obtain ⟨HL14, HB14⟩ := keptLB (c := w.heap.size + 1 + 1) [.bool nx, .string sx, .bool ny, .string sy] 0 1 HL13 HB13 (by have := HO0.out; have := HO1.out; have := HO2.out; have := HO3.out; omega) (by simp only [Bs.ap, Bs.ap0, List.length_cons, List.length_nil, and_true, true_and]; have := HO0.out; have := HO1.out; have := HO2.out; have := HO3.out; omega)
 simp only [setCs, setL, Bs.put, List.set_cons_succ, List.set_cons_zero, Nat.zero_add, Nat.reduceAdd] at HL14 HB14
 replace HL14 := Lib.hid HL14
 replace HB14 := Lib.hid HB14
 clear HL13 HB13
 obtain ⟨fx2_0_14, fx2_1_14, fx2_2_14, fx2_3_14⟩ := (HB14.out.2.1).at4
 go_wp2
 refine bodyPost_ret (v := .agg #[.bool nx, .string sx, .bool ny, .string sy]) (by simp [results, Tryz.results43, go_sem, fx2_0_14, fx2_1_14, fx2_2_14, fx2_3_14]) rfl ?_
 exact ⟨rfl, HL14.out⟩
theorem rCanon_zero (w : World)
  (H1 : GivesV 42 #[.agg #[.bool ma, .string ta]] (.int .i64 0))
  (H2 : GivesV 49 #[] (.agg #[.bool no, .string so]))
  : Calls Tryz.prog 47 #[.agg #[.bool na, .string sa, .bool ma, .string ta]] w fun e w' => e = .returned (.agg #[.bool false, .string ⟨#[]⟩, .bool no, .string so]) ∧ Below w.heap.size w w' := by
 replace H1 := Lib.hid H1
 replace H2 := Lib.hid H2
 go_enter Tryz.func47, Tryz.ntmps47
 have HL0 := Lib.hid (Below.refl w.heap.size w)
 have HB0 := Lib.hid (show Bs [] w from trivial)
 have HO0 := Lib.hid (show w.heap.size ≤ w.heap.size from by have := HL0.out.size; first | omega | (simp at this; omega))
 obtain ⟨HL1, HB1⟩ := growLB HL0 HB0 (w.heap.size) #[.bool na, .string sa, .bool ma, .string ta] 25
 clear HL0 HB0
 have HO1 := Lib.hid (show w.heap.size < w.heap.size + 1 from by have := (HB1.out.1).lt; first | omega | (simp at this; omega))
 obtain ⟨HL2, HB2⟩ := growLB HL1 HB1 (w.heap.size + 1) #[.bool false, .string ⟨#[]⟩, .bool false, .string ⟨#[]⟩] 25
 clear HL1 HB1
 have fx0_2_2 := (HB2.out.2.1).at 2 (.bool ma) rfl
 have fx0_3_2 := (HB2.out.2.1).at 3 (.string ta) rfl
 go_wp2_with fail
 refine (H1.out _).mono ?_
 rintro e w1 ⟨rfl, hb⟩
 obtain ⟨HL3, HB3⟩ := cameLB HL2 HB2 hb
 clear hb
 clear HL2 HB2 fx0_2_2 fx0_3_2
 go_wp2_with fail
 refine (H2.out _).mono ?_
 rintro e w2 ⟨rfl, hb⟩
 obtain ⟨HL4, HB4⟩ := cameLB HL3 HB3 hb
 clear hb
 clear HL3 HB3
 obtain ⟨fx1_0_4, fx1_1_4, fx1_2_4, fx1_3_4⟩ := (HB4.out.1).at4
 obtain ⟨fz1_0_4, fz1_1_4, fz1_2_4, fz1_3_4⟩ := (HB4.out.1).z4
 obtain ⟨HL5, HB5⟩ := keptLB (c := w.heap.size + 1) [.bool false, .string ⟨#[]⟩, .bool no, .string so] 0 0 HL4 HB4 (by have := HO0.out; have := HO1.out; omega) (by simp only [Bs.ap, Bs.ap0, List.length_cons, List.length_nil, and_true, true_and]; have := HO0.out; have := HO1.out; omega)
 simp only [setCs, setL, Bs.put, List.set_cons_succ, List.set_cons_zero, Nat.zero_add, Nat.reduceAdd] at HL5 HB5
 replace HL5 := Lib.hid HL5
 replace HB5 := Lib.hid HB5
 clear HL4 HB4
 obtain ⟨fx1_0_5, fx1_1_5, fx1_2_5, fx1_3_5⟩ := (HB5.out.1).at4
 go_wp2
 refine bodyPost_ret (v := .agg #[.bool false, .string ⟨#[]⟩, .bool no, .string so]) (by simp [results, Tryz.results47, go_sem, fx1_0_5, fx1_1_5, fx1_2_5, fx1_3_5]) rfl ?_
 exact ⟨rfl, HL5.out⟩
theorem rCanon_w (c1 : Int) (h1 : (c1 == 0) = false) (w : World)
  (H1 : GivesV 42 #[.agg #[.bool ma, .string ta]] (.int .i64 c1))
  (H2 : GivesV 43 #[.agg #[.bool na, .string sa], .agg #[.bool ma, .string ta]] (.agg #[.bool nr, .string sr, .bool mr, .string tr]))
  : Calls Tryz.prog 47 #[.agg #[.bool na, .string sa, .bool ma, .string ta]] w fun e w' => e = .returned (.agg #[.bool nr, .string sr, .bool mr, .string tr]) ∧ Below w.heap.size w w' := by
 replace H1 := Lib.hid H1
 replace H2 := Lib.hid H2
 go_enter Tryz.func47, Tryz.ntmps47
 have HL0 := Lib.hid (Below.refl w.heap.size w)
 have HB0 := Lib.hid (show Bs [] w from trivial)
 have HO0 := Lib.hid (show w.heap.size ≤ w.heap.size from by have := HL0.out.size; first | omega | (simp at this; omega))
 obtain ⟨HL1, HB1⟩ := growLB HL0 HB0 (w.heap.size) #[.bool na, .string sa, .bool ma, .string ta] 25
 clear HL0 HB0
 have HO1 := Lib.hid (show w.heap.size < w.heap.size + 1 from by have := (HB1.out.1).lt; first | omega | (simp at this; omega))
 obtain ⟨HL2, HB2⟩ := growLB HL1 HB1 (w.heap.size + 1) #[.bool false, .string ⟨#[]⟩, .bool false, .string ⟨#[]⟩] 25
 clear HL1 HB1
 have fx0_2_2 := (HB2.out.2.1).at 2 (.bool ma) rfl
 have fx0_3_2 := (HB2.out.2.1).at 3 (.string ta) rfl
 go_wp2_with fail
 refine (H1.out _).mono ?_
 rintro e w1 ⟨rfl, hb⟩
 obtain ⟨HL3, HB3⟩ := cameLB HL2 HB2 hb
 clear hb
 clear HL2 HB2 fx0_2_2 fx0_3_2
 obtain ⟨fx0_0_3, fx0_1_3, fx0_2_3, fx0_3_3⟩ := (HB3.out.2.1).at4
 go_wp2_with fail
 refine (H2.out _).mono ?_
 rintro e w2 ⟨rfl, hb⟩
 obtain ⟨HL4, HB4⟩ := cameLB HL3 HB3 hb
 clear hb
 clear HL3 HB3 fx0_0_3 fx0_1_3 fx0_2_3 fx0_3_3
 obtain ⟨fx1_0_4, fx1_1_4, fx1_2_4, fx1_3_4⟩ := (HB4.out.1).at4
 obtain ⟨fz1_0_4, fz1_1_4, fz1_2_4, fz1_3_4⟩ := (HB4.out.1).z4
 obtain ⟨HL5, HB5⟩ := keptLB (c := w.heap.size + 1) [.bool nr, .string sr, .bool mr, .string tr] 0 0 HL4 HB4 (by have := HO0.out; have := HO1.out; omega) (by simp only [Bs.ap, Bs.ap0, List.length_cons, List.length_nil, and_true, true_and]; have := HO0.out; have := HO1.out; omega)
 simp only [setCs, setL, Bs.put, List.set_cons_succ, List.set_cons_zero, Nat.zero_add, Nat.reduceAdd] at HL5 HB5
 replace HL5 := Lib.hid HL5
 replace HB5 := Lib.hid HB5
 clear HL4 HB4
 obtain ⟨fx1_0_5, fx1_1_5, fx1_2_5, fx1_3_5⟩ := (HB5.out.1).at4
 go_wp2
 refine bodyPost_ret (v := .agg #[.bool nr, .string sr, .bool mr, .string tr]) (by simp [results, Tryz.results47, go_sem, fx1_0_5, fx1_1_5, fx1_2_5, fx1_3_5]) rfl ?_
 exact ⟨rfl, HL5.out⟩
theorem rRatOf_w (w : World)
  (H1 : GivesV 49 #[] (.agg #[.bool no, .string so]))
  (H2 : GivesV 43 #[.agg #[.bool na, .string sa], .agg #[.bool no, .string so]] (.agg #[.bool nr, .string sr, .bool mr, .string tr]))
  : Calls Tryz.prog 16 #[.agg #[.bool na, .string sa]] w fun e w' => e = .returned (.agg #[.bool nr, .string sr, .bool mr, .string tr]) ∧ Below w.heap.size w w' := by
 replace H1 := Lib.hid H1
 replace H2 := Lib.hid H2
 go_enter Tryz.func16, Tryz.ntmps16
 have HL0 := Lib.hid (Below.refl w.heap.size w)
 have HB0 := Lib.hid (show Bs [] w from trivial)
 have HO0 := Lib.hid (show w.heap.size ≤ w.heap.size from by have := HL0.out.size; first | omega | (simp at this; omega))
 obtain ⟨HL1, HB1⟩ := growLB HL0 HB0 (w.heap.size) #[.bool na, .string sa] 23
 clear HL0 HB0
 have HO1 := Lib.hid (show w.heap.size < w.heap.size + 1 from by have := (HB1.out.1).lt; first | omega | (simp at this; omega))
 obtain ⟨HL2, HB2⟩ := growLB HL1 HB1 (w.heap.size + 1) #[.bool false, .string ⟨#[]⟩, .bool false, .string ⟨#[]⟩] 25
 clear HL1 HB1
 go_wp2_with fail
 obtain ⟨W1, hW⟩ : ∃ W, ((w.alloc (.cells #[.bool na, .string sa] 23)).alloc (.cells #[.bool false, .string ⟨#[]⟩, .bool false, .string ⟨#[]⟩] 25)) = W := ⟨_, rfl⟩
 rw [hW] at HB2 HL2 ⊢
 clear hW
 refine wp_region_front 3 zvQ (by kernel_rfl) shQ (by kernel_rfl) (by kernel_rfl) (zvQ_alloc _ (by kernel_rfl)) (shQ_store _ (by kernel_rfl)) ?_
 intro mm BW hm1 hm2 hBW
 haveI := clm_some mm BW
 obtain ⟨fq0_0, fq0_1⟩ := BC.all2 fun u : Clm mm BW => ((HB2.out.bel (u.old hm1 hBW)).2.1)
 simp only [frontOf, unmade, List.take_succ_cons, List.take_zero, List.map_cons, List.map_nil]
 iterate 1 (go_big_quiet_step (fail))
 go_big_quiet_step ((go_at_call 49; exact quiet_clm hm2 H1.out _))
 go_big_quiet_step ((go_at_call 43; exact quiet_clm hm2 H2.out _))
 refine wpQuiet_nil ?_
 refine ⟨List.forall_mem_nil _, ?_⟩
 intro γ w2 hb hF
 clear hBW this hm1 hm2 fq0_0 fq0_1
 clear BW mm
 simp only [madesFrom, Facts, patch, List.take_succ_cons, List.take_zero, List.drop_succ_cons, List.drop_zero, Nat.zero_add, Nat.reduceAdd, List.mem_cons, List.not_mem_nil, or_false, forall_eq, forall_eq_or_imp, false_imp_iff, implies_true, and_true] at hF ⊢
 obtain ⟨HL3, HB3⟩ := cameLB HL2 HB2 hb
 clear hb  hF
 clear HL2 HB2
 obtain ⟨fx1_0_3, fx1_1_3, fx1_2_3, fx1_3_3⟩ := (HB3.out.1).at4
 obtain ⟨fz1_0_3, fz1_1_3, fz1_2_3, fz1_3_3⟩ := (HB3.out.1).z4
 obtain ⟨HL4, HB4⟩ := keptLB (c := w.heap.size + 1) [.bool nr, .string sr, .bool mr, .string tr] 0 0 HL3 HB3 (by have := HO0.out; have := HO1.out; omega) (by simp only [Bs.ap, Bs.ap0, List.length_cons, List.length_nil, and_true, true_and]; have := HO0.out; have := HO1.out; omega)
 simp only [setCs, setL, Bs.put, List.set_cons_succ, List.set_cons_zero, Nat.zero_add, Nat.reduceAdd] at HL4 HB4
 replace HL4 := Lib.hid HL4
 replace HB4 := Lib.hid HB4
 clear HL3 HB3
 obtain ⟨fx1_0_4, fx1_1_4, fx1_2_4, fx1_3_4⟩ := (HB4.out.1).at4
 go_wp2
 refine bodyPost_ret (v := .agg #[.bool nr, .string sr, .bool mr, .string tr]) (by simp [results, Tryz.results16, go_sem, fx1_0_4, fx1_1_4, fx1_2_4, fx1_3_4]) rfl ?_
 exact ⟨rfl, HL4.out⟩
end Go.Proofs.Gv
