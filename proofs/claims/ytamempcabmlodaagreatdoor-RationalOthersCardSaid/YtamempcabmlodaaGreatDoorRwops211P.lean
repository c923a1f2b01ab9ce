import Derived.Test.YtamempcabmlodaaGreatDoorRwlow2P
set_option maxHeartbeats 4000000
set_option maxRecDepth 100000
set_option linter.unusedSimpArgs false
set_option linter.unusedVariables false
namespace Go.Proofs.Gv
open Go Go.RowKit
variable {na nb nx ma mb ny nr mr mc : Bool} {sa sb sx ta tb sy sr tr tc : ByteArray}
theorem tab3_w (w : World)
  (H1 : GivesV 53 #[.agg #[.bool na, .string sa], .agg #[.bool nb, .string sb]] (.agg #[.bool nx, .string sx]))
  (H2 : GivesV 53 #[.agg #[.bool ma, .string ta], .agg #[.bool mb, .string tb]] (.agg #[.bool ny, .string sy]))
  : Calls Tryz.prog 104 #[.agg #[.bool na, .string sa, .bool ma, .string ta], .agg #[.bool nb, .string sb, .bool mb, .string tb]] w fun e w' => e = .returned (.tuple #[.agg #[.bool nx, .string sx], .agg #[.bool ny, .string sy]]) ∧ Below w.heap.size w w' := by
 replace H1 := Lib.hid H1
 replace H2 := Lib.hid H2
 go_enter Tryz.func104, Tryz.ntmps104
 have HL0 := Lib.hid (Below.refl w.heap.size w)
 have HB0 := Lib.hid (show Bs [] w from trivial)
 have HO0 := Lib.hid (show w.heap.size ≤ w.heap.size from by have := HL0.out.size; first | omega | (simp at this; omega))
 obtain ⟨HL1, HB1⟩ := growLB HL0 HB0 (w.heap.size) #[.bool na, .string sa, .bool ma, .string ta] 25
 clear HL0 HB0
 have HO1 := Lib.hid (show w.heap.size < w.heap.size + 1 from by have := (HB1.out.1).lt; first | omega | (simp at this; omega))
 obtain ⟨HL2, HB2⟩ := growLB HL1 HB1 (w.heap.size + 1) #[.bool nb, .string sb, .bool mb, .string tb] 25
 clear HL1 HB1
 have HO2 := Lib.hid (show w.heap.size + 1 < w.heap.size + 1 + 1 from by have := (HB2.out.1).lt; first | omega | (simp at this; omega))
 obtain ⟨HL3, HB3⟩ := growLB HL2 HB2 (w.heap.size + 1 + 1) #[.bool false, .string ⟨#[]⟩] 23
 clear HL2 HB2
 have HO3 := Lib.hid (show w.heap.size + 1 + 1 < w.heap.size + 1 + 1 + 1 from by have := (HB3.out.1).lt; first | omega | (simp at this; omega))
 obtain ⟨HL4, HB4⟩ := growLB HL3 HB3 (w.heap.size + 1 + 1 + 1) #[.bool false, .string ⟨#[]⟩] 23
 clear HL3 HB3
 go_wp2_with fail
 obtain ⟨W1, hW⟩ : ∃ W, ((((w.alloc (.cells #[.bool na, .string sa, .bool ma, .string ta] 25)).alloc (.cells #[.bool nb, .string sb, .bool mb, .string tb] 25)).alloc (.cells #[.bool false, .string ⟨#[]⟩] 23)).alloc (.cells #[.bool false, .string ⟨#[]⟩] 23)) = W := ⟨_, rfl⟩
 rw [hW] at HB4 HL4 ⊢
 clear hW
 refine wp_region_front 10 zvQ (by kernel_rfl) shQ (by kernel_rfl) (by kernel_rfl) (zvQ_alloc _ (by kernel_rfl)) (shQ_store _ (by kernel_rfl)) ?_
 intro mm BW hm1 hm2 hBW
 haveI := clm_some mm BW
 obtain ⟨fq0_0, fq0_1⟩ := BC.all2 fun u : Clm mm BW => ((HB4.out.bel (u.old hm1 hBW)).2.2.2.1)
 obtain ⟨fq1_0, fq1_1⟩ := BC.all2 fun u : Clm mm BW => ((HB4.out.bel (u.old hm1 hBW)).2.2.1)
 have fq0_2 : ∀ u : Clm mm BW, u.x.cell? ⟨w.heap.size, 2, none⟩ = some (.bool ma) := fun u => ((HB4.out.bel (u.old hm1 hBW)).2.2.2.1).at 2 (.bool ma) rfl
 have fq0_3 : ∀ u : Clm mm BW, u.x.cell? ⟨w.heap.size, 3, none⟩ = some (.string ta) := fun u => ((HB4.out.bel (u.old hm1 hBW)).2.2.2.1).at 3 (.string ta) rfl
 have fq1_2 : ∀ u : Clm mm BW, u.x.cell? ⟨w.heap.size + 1, 2, none⟩ = some (.bool mb) := fun u => ((HB4.out.bel (u.old hm1 hBW)).2.2.1).at 2 (.bool mb) rfl
 have fq1_3 : ∀ u : Clm mm BW, u.x.cell? ⟨w.heap.size + 1, 3, none⟩ = some (.string tb) := fun u => ((HB4.out.bel (u.old hm1 hBW)).2.2.1).at 3 (.string tb) rfl
 simp only [frontOf, unmade, List.take_succ_cons, List.take_zero, List.map_cons, List.map_nil]
 iterate 4 (go_big_quiet_step (fail))
 go_big_quiet_step ((go_at_call 53; exact quiet_clm hm2 H1.out _))
 iterate 4 (go_big_quiet_step (fail))
 go_big_quiet_step ((go_at_call 53; exact quiet_clm hm2 H2.out _))
 refine wpQuiet_nil ?_
 refine ⟨List.forall_mem_nil _, ?_⟩
 intro γ w2 hb hF
 clear hBW this hm1 hm2 fq0_0 fq0_1 fq1_0 fq1_1 fq0_2 fq0_3 fq1_2 fq1_3
 clear BW mm
 simp only [madesFrom, Facts, patch, List.take_succ_cons, List.take_zero, List.drop_succ_cons, List.drop_zero, Nat.zero_add, Nat.reduceAdd, List.mem_cons, List.not_mem_nil, or_false, forall_eq, forall_eq_or_imp, false_imp_iff, implies_true, and_true] at hF ⊢
 obtain ⟨HL5, HB5⟩ := cameLB HL4 HB4 hb
 clear hb  hF
 clear HL4 HB4
 obtain ⟨fx2_0_5, fx2_1_5⟩ := (HB5.out.2.1).at2
 obtain ⟨fz2_0_5, fz2_1_5⟩ := (HB5.out.2.1).z2
 obtain ⟨HL6, HB6⟩ := keptLB (c := w.heap.size + 1 + 1) [.bool nx, .string sx] 0 1 HL5 HB5 (by have := HO0.out; have := HO1.out; have := HO2.out; have := HO3.out; omega) (by simp only [Bs.ap, Bs.ap0, List.length_cons, List.length_nil, and_true, true_and]; have := HO0.out; have := HO1.out; have := HO2.out; have := HO3.out; omega)
 simp only [setCs, setL, Bs.put, List.set_cons_succ, List.set_cons_zero, Nat.zero_add, Nat.reduceAdd] at HL6 HB6
 replace HL6 := Lib.hid HL6
 replace HB6 := Lib.hid HB6
 clear HL5 HB5
 obtain ⟨fx3_0_6, fx3_1_6⟩ := (HB6.out.1).at2
 obtain ⟨fz3_0_6, fz3_1_6⟩ := (HB6.out.1).z2
 obtain ⟨HL7, HB7⟩ := keptLB (c := w.heap.size + 1 + 1 + 1) [.bool ny, .string sy] 0 0 HL6 HB6 (by have := HO0.out; have := HO1.out; have := HO2.out; have := HO3.out; omega) (by simp only [Bs.ap, Bs.ap0, List.length_cons, List.length_nil, and_true, true_and]; have := HO0.out; have := HO1.out; have := HO2.out; have := HO3.out; omega)
 simp only [setCs, setL, Bs.put, List.set_cons_succ, List.set_cons_zero, Nat.zero_add, Nat.reduceAdd] at HL7 HB7
 replace HL7 := Lib.hid HL7
 replace HB7 := Lib.hid HB7
 clear HL6 HB6
 obtain ⟨fx2_0_7, fx2_1_7⟩ := (HB7.out.2.1).at2
 obtain ⟨fx3_0_7, fx3_1_7⟩ := (HB7.out.1).at2
 go_wp2
 refine bodyPost_ret (v := .tuple #[.agg #[.bool nx, .string sx], .agg #[.bool ny, .string sy]]) (by simp [results, Tryz.results104, go_sem, fx2_0_7, fx2_1_7, fx3_0_7, fx3_1_7]) rfl ?_
 exact ⟨rfl, HL7.out⟩
theorem tab4_w (w : World)
  (H1 : GivesV 53 #[.agg #[.bool na, .string sa], .agg #[.bool mb, .string tb]] (.agg #[.bool nx, .string sx]))
  (H2 : GivesV 53 #[.agg #[.bool ma, .string ta], .agg #[.bool nb, .string sb]] (.agg #[.bool ny, .string sy]))
  : Calls Tryz.prog 105 #[.agg #[.bool na, .string sa, .bool ma, .string ta], .agg #[.bool nb, .string sb, .bool mb, .string tb]] w fun e w' => e = .returned (.tuple #[.agg #[.bool nx, .string sx], .agg #[.bool ny, .string sy]]) ∧ Below w.heap.size w w' := by
 replace H1 := Lib.hid H1
 replace H2 := Lib.hid H2
 go_enter Tryz.func105, Tryz.ntmps105
 have HL0 := Lib.hid (Below.refl w.heap.size w)
 have HB0 := Lib.hid (show Bs [] w from trivial)
 have HO0 := Lib.hid (show w.heap.size ≤ w.heap.size from by have := HL0.out.size; first | omega | (simp at this; omega))
 obtain ⟨HL1, HB1⟩ := growLB HL0 HB0 (w.heap.size) #[.bool na, .string sa, .bool ma, .string ta] 25
 clear HL0 HB0
 have HO1 := Lib.hid (show w.heap.size < w.heap.size + 1 from by have := (HB1.out.1).lt; first | omega | (simp at this; omega))
 obtain ⟨HL2, HB2⟩ := growLB HL1 HB1 (w.heap.size + 1) #[.bool nb, .string sb, .bool mb, .string tb] 25
 clear HL1 HB1
 have HO2 := Lib.hid (show w.heap.size + 1 < w.heap.size + 1 + 1 from by have := (HB2.out.1).lt; first | omega | (simp at this; omega))
 obtain ⟨HL3, HB3⟩ := growLB HL2 HB2 (w.heap.size + 1 + 1) #[.bool false, .string ⟨#[]⟩] 23
 clear HL2 HB2
 have HO3 := Lib.hid (show w.heap.size + 1 + 1 < w.heap.size + 1 + 1 + 1 from by have := (HB3.out.1).lt; first | omega | (simp at this; omega))
 obtain ⟨HL4, HB4⟩ := growLB HL3 HB3 (w.heap.size + 1 + 1 + 1) #[.bool false, .string ⟨#[]⟩] 23
 clear HL3 HB3
 go_wp2_with fail
 obtain ⟨W1, hW⟩ : ∃ W, ((((w.alloc (.cells #[.bool na, .string sa, .bool ma, .string ta] 25)).alloc (.cells #[.bool nb, .string sb, .bool mb, .string tb] 25)).alloc (.cells #[.bool false, .string ⟨#[]⟩] 23)).alloc (.cells #[.bool false, .string ⟨#[]⟩] 23)) = W := ⟨_, rfl⟩
 rw [hW] at HB4 HL4 ⊢
 clear hW
 refine wp_region_front 10 zvQ (by kernel_rfl) shQ (by kernel_rfl) (by kernel_rfl) (zvQ_alloc _ (by kernel_rfl)) (shQ_store _ (by kernel_rfl)) ?_
 intro mm BW hm1 hm2 hBW
 haveI := clm_some mm BW
 obtain ⟨fq0_0, fq0_1⟩ := BC.all2 fun u : Clm mm BW => ((HB4.out.bel (u.old hm1 hBW)).2.2.2.1)
 have fq1_2 : ∀ u : Clm mm BW, u.x.cell? ⟨w.heap.size + 1, 2, none⟩ = some (.bool mb) := fun u => ((HB4.out.bel (u.old hm1 hBW)).2.2.1).at 2 (.bool mb) rfl
 have fq1_3 : ∀ u : Clm mm BW, u.x.cell? ⟨w.heap.size + 1, 3, none⟩ = some (.string tb) := fun u => ((HB4.out.bel (u.old hm1 hBW)).2.2.1).at 3 (.string tb) rfl
 have fq0_2 : ∀ u : Clm mm BW, u.x.cell? ⟨w.heap.size, 2, none⟩ = some (.bool ma) := fun u => ((HB4.out.bel (u.old hm1 hBW)).2.2.2.1).at 2 (.bool ma) rfl
 have fq0_3 : ∀ u : Clm mm BW, u.x.cell? ⟨w.heap.size, 3, none⟩ = some (.string ta) := fun u => ((HB4.out.bel (u.old hm1 hBW)).2.2.2.1).at 3 (.string ta) rfl
 obtain ⟨fq1_0, fq1_1⟩ := BC.all2 fun u : Clm mm BW => ((HB4.out.bel (u.old hm1 hBW)).2.2.1)
 simp only [frontOf, unmade, List.take_succ_cons, List.take_zero, List.map_cons, List.map_nil]
 iterate 4 (go_big_quiet_step (fail))
 go_big_quiet_step ((go_at_call 53; exact quiet_clm hm2 H1.out _))
 iterate 4 (go_big_quiet_step (fail))
 go_big_quiet_step ((go_at_call 53; exact quiet_clm hm2 H2.out _))
 refine wpQuiet_nil ?_
 refine ⟨List.forall_mem_nil _, ?_⟩
 intro γ w2 hb hF
 clear hBW this hm1 hm2 fq0_0 fq0_1 fq1_2 fq1_3 fq0_2 fq0_3 fq1_0 fq1_1
 clear BW mm
 simp only [madesFrom, Facts, patch, List.take_succ_cons, List.take_zero, List.drop_succ_cons, List.drop_zero, Nat.zero_add, Nat.reduceAdd, List.mem_cons, List.not_mem_nil, or_false, forall_eq, forall_eq_or_imp, false_imp_iff, implies_true, and_true] at hF ⊢
 obtain ⟨HL5, HB5⟩ := cameLB HL4 HB4 hb
 clear hb  hF
 clear HL4 HB4
 obtain ⟨fx2_0_5, fx2_1_5⟩ := (HB5.out.2.1).at2
 obtain ⟨fz2_0_5, fz2_1_5⟩ := (HB5.out.2.1).z2
 obtain ⟨HL6, HB6⟩ := keptLB (c := w.heap.size + 1 + 1) [.bool nx, .string sx] 0 1 HL5 HB5 (by have := HO0.out; have := HO1.out; have := HO2.out; have := HO3.out; omega) (by simp only [Bs.ap, Bs.ap0, List.length_cons, List.length_nil, and_true, true_and]; have := HO0.out; have := HO1.out; have := HO2.out; have := HO3.out; omega)
 simp only [setCs, setL, Bs.put, List.set_cons_succ, List.set_cons_zero, Nat.zero_add, Nat.reduceAdd] at HL6 HB6
 replace HL6 := Lib.hid HL6
 replace HB6 := Lib.hid HB6
 clear HL5 HB5
 obtain ⟨fx3_0_6, fx3_1_6⟩ := (HB6.out.1).at2
 obtain ⟨fz3_0_6, fz3_1_6⟩ := (HB6.out.1).z2
 obtain ⟨HL7, HB7⟩ := keptLB (c := w.heap.size + 1 + 1 + 1) [.bool ny, .string sy] 0 0 HL6 HB6 (by have := HO0.out; have := HO1.out; have := HO2.out; have := HO3.out; omega) (by simp only [Bs.ap, Bs.ap0, List.length_cons, List.length_nil, and_true, true_and]; have := HO0.out; have := HO1.out; have := HO2.out; have := HO3.out; omega)
 simp only [setCs, setL, Bs.put, List.set_cons_succ, List.set_cons_zero, Nat.zero_add, Nat.reduceAdd] at HL7 HB7
 replace HL7 := Lib.hid HL7
 replace HB7 := Lib.hid HB7
 clear HL6 HB6
 obtain ⟨fx2_0_7, fx2_1_7⟩ := (HB7.out.2.1).at2
 obtain ⟨fx3_0_7, fx3_1_7⟩ := (HB7.out.1).at2
 go_wp2
 refine bodyPost_ret (v := .tuple #[.agg #[.bool nx, .string sx], .agg #[.bool ny, .string sy]]) (by simp [results, Tryz.results105, go_sem, fx2_0_7, fx2_1_7, fx3_0_7, fx3_1_7]) rfl ?_
 exact ⟨rfl, HL7.out⟩
theorem ratAdd_w (w : World)
  (H1 : GivesV 46 #[.int .i64 0, .agg #[.bool na, .string sa, .bool ma, .string ta], .agg #[.bool nb, .string sb, .bool mb, .string tb]] (.agg #[.bool nr, .string sr, .bool mr, .string tr]))
  : Calls Tryz.prog 17 #[.agg #[.bool na, .string sa, .bool ma, .string ta], .agg #[.bool nb, .string sb, .bool mb, .string tb]] w fun e w' => e = .returned (.agg #[.bool nr, .string sr, .bool mr, .string tr]) ∧ Below w.heap.size w w' := by
 replace H1 := Lib.hid H1
 go_enter Tryz.func17, Tryz.ntmps17
 have HL0 := Lib.hid (Below.refl w.heap.size w)
 have HB0 := Lib.hid (show Bs [] w from trivial)
 have HO0 := Lib.hid (show w.heap.size ≤ w.heap.size from by have := HL0.out.size; first | omega | (simp at this; omega))
 obtain ⟨HL1, HB1⟩ := growLB HL0 HB0 (w.heap.size) #[.bool na, .string sa, .bool ma, .string ta] 25
 clear HL0 HB0
 have HO1 := Lib.hid (show w.heap.size < w.heap.size + 1 from by have := (HB1.out.1).lt; first | omega | (simp at this; omega))
 obtain ⟨HL2, HB2⟩ := growLB HL1 HB1 (w.heap.size + 1) #[.bool nb, .string sb, .bool mb, .string tb] 25
 clear HL1 HB1
 have HO2 := Lib.hid (show w.heap.size + 1 < w.heap.size + 1 + 1 from by have := (HB2.out.1).lt; first | omega | (simp at this; omega))
 obtain ⟨HL3, HB3⟩ := growLB HL2 HB2 (w.heap.size + 1 + 1) #[.bool false, .string ⟨#[]⟩, .bool false, .string ⟨#[]⟩] 25
 clear HL2 HB2
 obtain ⟨fx0_0_3, fx0_1_3, fx0_2_3, fx0_3_3⟩ := (HB3.out.2.2.1).at4
 obtain ⟨fx1_0_3, fx1_1_3, fx1_2_3, fx1_3_3⟩ := (HB3.out.2.1).at4
 go_wp2_with fail
 refine (H1.out _).mono ?_
 rintro e w1 ⟨rfl, hb⟩
 obtain ⟨HL4, HB4⟩ := cameLB HL3 HB3 hb
 clear hb
 clear HL3 HB3 fx0_0_3 fx0_1_3 fx0_2_3 fx0_3_3 fx1_0_3 fx1_1_3 fx1_2_3 fx1_3_3
 obtain ⟨fx2_0_4, fx2_1_4, fx2_2_4, fx2_3_4⟩ := (HB4.out.1).at4
 obtain ⟨fz2_0_4, fz2_1_4, fz2_2_4, fz2_3_4⟩ := (HB4.out.1).z4
 obtain ⟨HL5, HB5⟩ := keptLB (c := w.heap.size + 1 + 1) [.bool nr, .string sr, .bool mr, .string tr] 0 0 HL4 HB4 (by have := HO0.out; have := HO1.out; have := HO2.out; omega) (by simp only [Bs.ap, Bs.ap0, List.length_cons, List.length_nil, and_true, true_and]; have := HO0.out; have := HO1.out; have := HO2.out; omega)
 simp only [setCs, setL, Bs.put, List.set_cons_succ, List.set_cons_zero, Nat.zero_add, Nat.reduceAdd] at HL5 HB5
 replace HL5 := Lib.hid HL5
 replace HB5 := Lib.hid HB5
 clear HL4 HB4
 obtain ⟨fx2_0_5, fx2_1_5, fx2_2_5, fx2_3_5⟩ := (HB5.out.1).at4
 go_wp2
 refine bodyPost_ret (v := .agg #[.bool nr, .string sr, .bool mr, .string tr]) (by simp [results, Tryz.results17, go_sem, fx2_0_5, fx2_1_5, fx2_2_5, fx2_3_5]) rfl ?_
 exact ⟨rfl, HL5.out⟩
theorem ratSub_w (w : World)
  (H1 : GivesV 46 #[.int .i64 1, .agg #[.bool na, .string sa, .bool ma, .string ta], .agg #[.bool nb, .string sb, .bool mb, .string tb]] (.agg #[.bool nr, .string sr, .bool mr, .string tr]))
  : Calls Tryz.prog 19 #[.agg #[.bool na, .string sa, .bool ma, .string ta], .agg #[.bool nb, .string sb, .bool mb, .string tb]] w fun e w' => e = .returned (.agg #[.bool nr, .string sr, .bool mr, .string tr]) ∧ Below w.heap.size w w' := by
 replace H1 := Lib.hid H1
 go_enter Tryz.func19, Tryz.ntmps19
 have HL0 := Lib.hid (Below.refl w.heap.size w)
 have HB0 := Lib.hid (show Bs [] w from trivial)
 have HO0 := Lib.hid (show w.heap.size ≤ w.heap.size from by have := HL0.out.size; first | omega | (simp at this; omega))
 obtain ⟨HL1, HB1⟩ := growLB HL0 HB0 (w.heap.size) #[.bool na, .string sa, .bool ma, .string ta] 25
 clear HL0 HB0
 have HO1 := Lib.hid (show w.heap.size < w.heap.size + 1 from by have := (HB1.out.1).lt; first | omega | (simp at this; omega))
 obtain ⟨HL2, HB2⟩ := growLB HL1 HB1 (w.heap.size + 1) #[.bool nb, .string sb, .bool mb, .string tb] 25
 clear HL1 HB1
 have HO2 := Lib.hid (show w.heap.size + 1 < w.heap.size + 1 + 1 from by have := (HB2.out.1).lt; first | omega | (simp at this; omega))
 obtain ⟨HL3, HB3⟩ := growLB HL2 HB2 (w.heap.size + 1 + 1) #[.bool false, .string ⟨#[]⟩, .bool false, .string ⟨#[]⟩] 25
 clear HL2 HB2
 obtain ⟨fx0_0_3, fx0_1_3, fx0_2_3, fx0_3_3⟩ := (HB3.out.2.2.1).at4
 obtain ⟨fx1_0_3, fx1_1_3, fx1_2_3, fx1_3_3⟩ := (HB3.out.2.1).at4
 go_wp2_with fail
 refine (H1.out _).mono ?_
 rintro e w1 ⟨rfl, hb⟩
 obtain ⟨HL4, HB4⟩ := cameLB HL3 HB3 hb
 clear hb
 clear HL3 HB3 fx0_0_3 fx0_1_3 fx0_2_3 fx0_3_3 fx1_0_3 fx1_1_3 fx1_2_3 fx1_3_3
 obtain ⟨fx2_0_4, fx2_1_4, fx2_2_4, fx2_3_4⟩ := (HB4.out.1).at4
 obtain ⟨fz2_0_4, fz2_1_4, fz2_2_4, fz2_3_4⟩ := (HB4.out.1).z4
 obtain ⟨HL5, HB5⟩ := keptLB (c := w.heap.size + 1 + 1) [.bool nr, .string sr, .bool mr, .string tr] 0 0 HL4 HB4 (by have := HO0.out; have := HO1.out; have := HO2.out; omega) (by simp only [Bs.ap, Bs.ap0, List.length_cons, List.length_nil, and_true, true_and]; have := HO0.out; have := HO1.out; have := HO2.out; omega)
 simp only [setCs, setL, Bs.put, List.set_cons_succ, List.set_cons_zero, Nat.zero_add, Nat.reduceAdd] at HL5 HB5
 replace HL5 := Lib.hid HL5
 replace HB5 := Lib.hid HB5
 clear HL4 HB4
 obtain ⟨fx2_0_5, fx2_1_5, fx2_2_5, fx2_3_5⟩ := (HB5.out.1).at4
 go_wp2
 refine bodyPost_ret (v := .agg #[.bool nr, .string sr, .bool mr, .string tr]) (by simp [results, Tryz.results19, go_sem, fx2_0_5, fx2_1_5, fx2_2_5, fx2_3_5]) rfl ?_
 exact ⟨rfl, HL5.out⟩
theorem ratQuo_w (nc : Bool) (sc : ByteArray) (hq : eqI nc sc false ⟨#[]⟩ = false) (w : World)
  (H1 : GivesV 45 #[.agg #[.bool nb, .string sb, .bool mb, .string tb]] (.agg #[.bool nc, .string sc, .bool mc, .string tc]))
  (H2 : GivesV 46 #[.int .i64 3, .agg #[.bool na, .string sa, .bool ma, .string ta], .agg #[.bool nb, .string sb, .bool mb, .string tb]] (.agg #[.bool nr, .string sr, .bool mr, .string tr]))
  : Calls Tryz.prog 11 #[.agg #[.bool na, .string sa, .bool ma, .string ta], .agg #[.bool nb, .string sb, .bool mb, .string tb]] w fun e w' => e = .returned (.tuple #[.agg #[.bool nr, .string sr, .bool mr, .string tr], .int .i64 0]) ∧ Below w.heap.size w w' := by
 replace H1 := Lib.hid H1
 replace H2 := Lib.hid H2
 go_enter Tryz.func11, Tryz.ntmps11
 have HL0 := Lib.hid (Below.refl w.heap.size w)
 have HB0 := Lib.hid (show Bs [] w from trivial)
 have HO0 := Lib.hid (show w.heap.size ≤ w.heap.size from by have := HL0.out.size; first | omega | (simp at this; omega))
 obtain ⟨HL1, HB1⟩ := growLB HL0 HB0 (w.heap.size) #[.bool na, .string sa, .bool ma, .string ta] 25
 clear HL0 HB0
 have HO1 := Lib.hid (show w.heap.size < w.heap.size + 1 from by have := (HB1.out.1).lt; first | omega | (simp at this; omega))
 obtain ⟨HL2, HB2⟩ := growLB HL1 HB1 (w.heap.size + 1) #[.bool nb, .string sb, .bool mb, .string tb] 25
 clear HL1 HB1
 have HO2 := Lib.hid (show w.heap.size + 1 < w.heap.size + 1 + 1 from by have := (HB2.out.1).lt; first | omega | (simp at this; omega))
 obtain ⟨HL3, HB3⟩ := growLB HL2 HB2 (w.heap.size + 1 + 1) #[.bool false, .string ⟨#[]⟩, .bool false, .string ⟨#[]⟩] 25
 clear HL2 HB2
 obtain ⟨fx1_0_3, fx1_1_3, fx1_2_3, fx1_3_3⟩ := (HB3.out.2.1).at4
 go_wp2_with fail
 refine (H1.out _).mono ?_
 rintro e w1 ⟨rfl, hb⟩
 obtain ⟨HL4, HB4⟩ := cameLB HL3 HB3 hb
 clear hb
 clear HL3 HB3 fx1_0_3 fx1_1_3 fx1_2_3 fx1_3_3
 obtain ⟨fx0_0_4, fx0_1_4, fx0_2_4, fx0_3_4⟩ := (HB4.out.2.2.1).at4
 obtain ⟨fx1_0_4, fx1_1_4, fx1_2_4, fx1_3_4⟩ := (HB4.out.2.1).at4
 go_wp2_with fail
 refine (H2.out _).mono ?_
 rintro e w2 ⟨rfl, hb⟩
 obtain ⟨HL5, HB5⟩ := cameLB HL4 HB4 hb
 clear hb
 clear HL4 HB4 fx0_0_4 fx0_1_4 fx0_2_4 fx0_3_4 fx1_0_4 fx1_1_4 fx1_2_4 fx1_3_4
 obtain ⟨fx2_0_5, fx2_1_5, fx2_2_5, fx2_3_5⟩ := (HB5.out.1).at4
 obtain ⟨fz2_0_5, fz2_1_5, fz2_2_5, fz2_3_5⟩ := (HB5.out.1).z4
 obtain ⟨HL6, HB6⟩ := keptLB (c := w.heap.size + 1 + 1) [.bool nr, .string sr, .bool mr, .string tr] 0 0 HL5 HB5 (by have := HO0.out; have := HO1.out; have := HO2.out; omega) (by simp only [Bs.ap, Bs.ap0, List.length_cons, List.length_nil, and_true, true_and]; have := HO0.out; have := HO1.out; have := HO2.out; omega)
 simp only [setCs, setL, Bs.put, List.set_cons_succ, List.set_cons_zero, Nat.zero_add, Nat.reduceAdd] at HL6 HB6
 replace HL6 := Lib.hid HL6
 replace HB6 := Lib.hid HB6
 clear HL5 HB5
 obtain ⟨fx2_0_6, fx2_1_6, fx2_2_6, fx2_3_6⟩ := (HB6.out.1).at4
 go_wp2
 refine bodyPost_ret (v := .tuple #[.agg #[.bool nr, .string sr, .bool mr, .string tr], .int .i64 0]) (by simp [results, Tryz.results11, go_sem, fx2_0_6, fx2_1_6, fx2_2_6, fx2_3_6]) rfl ?_
 exact ⟨rfl, HL6.out⟩
theorem ratCheck_ok (w : World)
  (H1 : GivesV 45 #[.agg #[.bool na, .string sa, .bool ma, .string ta]] (.agg #[.bool na, .string sa, .bool ma, .string ta]))
  : Calls Tryz.prog 13 #[.agg #[.bool na, .string sa, .bool ma, .string ta]] w fun e w' => e = .returned (.int .i64 0) ∧ Below w.heap.size w w' := by
 replace H1 := Lib.hid H1
 have hq : eqQ na sa ma ta na sa ma ta = true := eqQ_iff.2 ⟨⟨rfl, rfl⟩, ⟨rfl, rfl⟩⟩
 go_enter Tryz.func13, Tryz.ntmps13
 have HL0 := Lib.hid (Below.refl w.heap.size w)
 have HB0 := Lib.hid (show Bs [] w from trivial)
 have HO0 := Lib.hid (show w.heap.size ≤ w.heap.size from by have := HL0.out.size; first | omega | (simp at this; omega))
 obtain ⟨HL1, HB1⟩ := growLB HL0 HB0 (w.heap.size) #[.bool na, .string sa, .bool ma, .string ta] 25
 clear HL0 HB0
 go_wp2_with fail
 obtain ⟨W1, hW⟩ : ∃ W, (w.alloc (.cells #[.bool na, .string sa, .bool ma, .string ta] 25)) = W := ⟨_, rfl⟩
 rw [hW] at HB1 HL1 ⊢
 clear hW
 haveI := cls_some W1
 obtain ⟨fq0_0, fq0_1, fq0_2, fq0_3⟩ := BC.all4 fun u : Cl W1 => ((HB1.out.bel u.h).1)
 refine wp_region_cls (by kernel_rfl) ?_
 iterate 1 (go_big_quiet_step (fail))
 go_big_quiet_step ((go_at_call 45; exact quiet_cls H1.out _))
 iterate 2 (go_big_quiet_step (fail))
 refine wpQuiet_nil ?_
 intro w2 hw9
 have hb : Below W1.heap.size W1 w2 := by obtain ⟨u, rfl⟩ := hw9; exact u.h
 clear hw9 this fq0_0 fq0_1 fq0_2 fq0_3
 obtain ⟨HL2, HB2⟩ := cameLB HL1 HB1 hb
 clear hb
 clear HL1 HB1
 go_wp2
 go_ret
 exact ⟨rfl, HL2.out⟩
theorem ratCheck_no (na nc ma mc : Bool) (sa sc ta tc : ByteArray) (hq : eqQ nc sc mc tc na sa ma ta = false) (w : World)
  (H1 : GivesV 45 #[.agg #[.bool na, .string sa, .bool ma, .string ta]] (.agg #[.bool nc, .string sc, .bool mc, .string tc]))
  : Calls Tryz.prog 13 #[.agg #[.bool na, .string sa, .bool ma, .string ta]] w fun e w' => e = .returned (.int .i64 1) ∧ Below w.heap.size w w' := by
 replace H1 := Lib.hid H1
 go_enter Tryz.func13, Tryz.ntmps13
 have HL0 := Lib.hid (Below.refl w.heap.size w)
 have HB0 := Lib.hid (show Bs [] w from trivial)
 have HO0 := Lib.hid (show w.heap.size ≤ w.heap.size from by have := HL0.out.size; first | omega | (simp at this; omega))
 obtain ⟨HL1, HB1⟩ := growLB HL0 HB0 (w.heap.size) #[.bool na, .string sa, .bool ma, .string ta] 25
 clear HL0 HB0
 go_wp2_with fail
 obtain ⟨W1, hW⟩ : ∃ W, (w.alloc (.cells #[.bool na, .string sa, .bool ma, .string ta] 25)) = W := ⟨_, rfl⟩
 rw [hW] at HB1 HL1 ⊢
 clear hW
 haveI := cls_some W1
 obtain ⟨fq0_0, fq0_1, fq0_2, fq0_3⟩ := BC.all4 fun u : Cl W1 => ((HB1.out.bel u.h).1)
 refine wp_region_cls (by kernel_rfl) ?_
 iterate 1 (go_big_quiet_step (fail))
 go_big_quiet_step ((go_at_call 45; exact quiet_cls H1.out _))
 iterate 2 (go_big_quiet_step (fail))
 refine wpQuiet_nil ?_
 intro w2 hw9
 have hb : Below W1.heap.size W1 w2 := by obtain ⟨u, rfl⟩ := hw9; exact u.h
 clear hw9 this fq0_0 fq0_1 fq0_2 fq0_3
 obtain ⟨HL2, HB2⟩ := cameLB HL1 HB1 hb
 clear hb
 clear HL1 HB1
 go_wp2
 go_ret
 exact ⟨rfl, HL2.out⟩
end Go.Proofs.Gv
