import Derived.Test.YtfhncfphphieiaaGreatRwlow4P
set_option maxHeartbeats 4000000
set_option maxRecDepth 100000
set_option linter.unusedSimpArgs false
set_option linter.unusedVariables false
namespace Go.Proofs.Gv
open Go Go.RowKit
variable {nb na nr mr ma nc mc mb nd md nx ny nz nu : Bool} {sb sa sr tr ta sc tc tb sd td sx sy sz su : ByteArray}
theorem rRatNew_w (c1 : Int) (h1 : (c1 == 0) = false) (w : World)
  (H1 : GivesV 110 #[.agg #[.bool nb, .string sb]] (.int .i64 c1))
  (H2 : GivesV 120 #[.agg #[.bool na, .string sa], .agg #[.bool nb, .string sb]] (.agg #[.bool nr, .string sr, .bool mr, .string tr]))
  : Calls Tryz.prog 123 #[.agg #[.bool na, .string sa], .agg #[.bool nb, .string sb]] w fun e w' => e = .returned (.tuple #[.agg #[.bool nr, .string sr, .bool mr, .string tr], .int .i64 0]) ∧ Below w.heap.size w w' := by
 replace H1 := Lib.hid H1
 replace H2 := Lib.hid H2
 go_enter Tryz.func123, Tryz.ntmps123
 have HL0 := Lib.hid (Below.refl w.heap.size w)
 have HB0 := Lib.hid (show Bs [] w from trivial)
 have HO0 := Lib.hid (show w.heap.size ≤ w.heap.size from by have := HL0.out.size; first | omega | (simp at this; omega))
 obtain ⟨HL1, HB1⟩ := growLB HL0 HB0 (w.heap.size) #[.bool na, .string sa] 36
 clear HL0 HB0
 have HO1 := Lib.hid (show w.heap.size < w.heap.size + 1 from by have := (HB1.out.1).lt; first | omega | (simp at this; omega))
 obtain ⟨HL2, HB2⟩ := growLB HL1 HB1 (w.heap.size + 1) #[.bool nb, .string sb] 36
 clear HL1 HB1
 have HO2 := Lib.hid (show w.heap.size + 1 < w.heap.size + 1 + 1 from by have := (HB2.out.1).lt; first | omega | (simp at this; omega))
 obtain ⟨HL3, HB3⟩ := growLB HL2 HB2 (w.heap.size + 1 + 1) #[.bool false, .string ⟨#[]⟩, .bool false, .string ⟨#[]⟩] 85
 clear HL2 HB2
 obtain ⟨fx1_0_3, fx1_1_3⟩ := (HB3.out.2.1).at2
 go_wp2_with fail
 refine (H1.out _).mono ?_
 rintro e w1 ⟨rfl, hb⟩
 obtain ⟨HL4, HB4⟩ := cameLB HL3 HB3 hb
 clear hb
 clear HL3 HB3 fx1_0_3 fx1_1_3
 obtain ⟨fx0_0_4, fx0_1_4⟩ := (HB4.out.2.2.1).at2
 obtain ⟨fx1_0_4, fx1_1_4⟩ := (HB4.out.2.1).at2
 go_wp2_with fail
 refine (H2.out _).mono ?_
 rintro e w2 ⟨rfl, hb⟩
 obtain ⟨HL5, HB5⟩ := cameLB HL4 HB4 hb
 clear hb
 clear HL4 HB4 fx0_0_4 fx0_1_4 fx1_0_4 fx1_1_4
 obtain ⟨fx2_0_5, fx2_1_5, fx2_2_5, fx2_3_5⟩ := (HB5.out.1).at4
 obtain ⟨fz2_0_5, fz2_1_5, fz2_2_5, fz2_3_5⟩ := (HB5.out.1).z4
 obtain ⟨HL6, HB6⟩ := keptLB (c := w.heap.size + 1 + 1) [.bool nr, .string sr, .bool mr, .string tr] 0 0 HL5 HB5 (by have := HO0.out; have := HO1.out; have := HO2.out; omega) (by simp only [Bs.ap, Bs.ap0, List.length_cons, List.length_nil, and_true, true_and]; have := HO0.out; have := HO1.out; have := HO2.out; omega)
 simp only [setCs, setL, Bs.put, List.set_cons_succ, List.set_cons_zero, Nat.zero_add, Nat.reduceAdd] at HL6 HB6
 replace HL6 := Lib.hid HL6
 replace HB6 := Lib.hid HB6
 clear HL5 HB5
 obtain ⟨fx2_0_6, fx2_1_6, fx2_2_6, fx2_3_6⟩ := (HB6.out.1).at4
 go_wp2
 refine bodyPost_ret (v := .tuple #[.agg #[.bool nr, .string sr, .bool mr, .string tr], .int .i64 0]) (by simp [results, Tryz.results123, go_sem, fx2_0_6, fx2_1_6, fx2_2_6, fx2_3_6]) rfl ?_
 exact ⟨rfl, HL6.out⟩
theorem rRatRatio_w {n0 d0 e0 : Int} (w : World)
  (H1 : GivesV 46 #[.int .i64 n0] (.agg #[.bool na, .string sa]))
  (H2 : GivesV 46 #[.int .i64 d0] (.agg #[.bool nb, .string sb]))
  (H3 : GivesV 123 #[.agg #[.bool na, .string sa], .agg #[.bool nb, .string sb]] (.tuple #[.agg #[.bool nr, .string sr, .bool mr, .string tr], .int .i64 e0]))
  : Calls Tryz.prog 112 #[.int .i64 n0, .int .i64 d0] w fun e w' => e = .returned (.tuple #[.agg #[.bool nr, .string sr, .bool mr, .string tr], .int .i64 e0]) ∧ Below w.heap.size w w' := by
 replace H1 := Lib.hid H1
 replace H2 := Lib.hid H2
 replace H3 := Lib.hid H3
 go_enter Tryz.func112, Tryz.ntmps112
 have HL0 := Lib.hid (Below.refl w.heap.size w)
 have HB0 := Lib.hid (show Bs [] w from trivial)
 have HO0 := Lib.hid (show w.heap.size ≤ w.heap.size from by have := HL0.out.size; first | omega | (simp at this; omega))
 obtain ⟨HL1, HB1⟩ := growLB HL0 HB0 (w.heap.size) #[.bool false, .string ⟨#[]⟩, .bool false, .string ⟨#[]⟩] 85
 clear HL0 HB0
 go_wp2_with fail
 refine (H1.out _).mono ?_
 rintro e w1 ⟨rfl, hb⟩
 obtain ⟨HL2, HB2⟩ := cameLB HL1 HB1 hb
 clear hb
 clear HL1 HB1
 go_wp2_with fail
 refine (H2.out _).mono ?_
 rintro e w2 ⟨rfl, hb⟩
 obtain ⟨HL3, HB3⟩ := cameLB HL2 HB2 hb
 clear hb
 clear HL2 HB2
 go_wp2_with fail
 refine (H3.out _).mono ?_
 rintro e w3 ⟨rfl, hb⟩
 obtain ⟨HL4, HB4⟩ := cameLB HL3 HB3 hb
 clear hb
 clear HL3 HB3
 obtain ⟨fx0_0_4, fx0_1_4, fx0_2_4, fx0_3_4⟩ := (HB4.out.1).at4
 obtain ⟨fz0_0_4, fz0_1_4, fz0_2_4, fz0_3_4⟩ := (HB4.out.1).z4
 obtain ⟨HL5, HB5⟩ := keptLB (c := w.heap.size) [.bool nr, .string sr, .bool mr, .string tr] 0 0 HL4 HB4 (by have := HO0.out; omega) (by simp only [Bs.ap, Bs.ap0, List.length_cons, List.length_nil, and_true, true_and]; have := HO0.out; omega)
 simp only [setCs, setL, Bs.put, List.set_cons_succ, List.set_cons_zero, Nat.zero_add, Nat.reduceAdd] at HL5 HB5
 replace HL5 := Lib.hid HL5
 replace HB5 := Lib.hid HB5
 clear HL4 HB4
 obtain ⟨fx0_0_5, fx0_1_5, fx0_2_5, fx0_3_5⟩ := (HB5.out.1).at4
 go_wp2
 refine bodyPost_ret (v := .tuple #[.agg #[.bool nr, .string sr, .bool mr, .string tr], .int .i64 e0]) (by simp [results, Tryz.results112, go_sem, fx0_0_5, fx0_1_5, fx0_2_5, fx0_3_5]) rfl ?_
 exact ⟨rfl, HL5.out⟩
theorem rRatAdd_w (w : World)
  (H1 : GivesV 119 #[.agg #[.bool na, .string sa, .bool ma, .string ta]] (.agg #[.bool nc, .string sc, .bool mc, .string tc]))
  (H2 : GivesV 119 #[.agg #[.bool nb, .string sb, .bool mb, .string tb]] (.agg #[.bool nd, .string sd, .bool md, .string td]))
  (H3 : GivesV 69 #[.agg #[.bool nc, .string sc], .agg #[.bool md, .string td]] (.agg #[.bool nx, .string sx]))
  (H4 : GivesV 69 #[.agg #[.bool nd, .string sd], .agg #[.bool mc, .string tc]] (.agg #[.bool ny, .string sy]))
  (H5 : GivesV 26 #[.agg #[.bool nx, .string sx], .agg #[.bool ny, .string sy]] (.agg #[.bool nz, .string sz]))
  (H6 : GivesV 69 #[.agg #[.bool mc, .string tc], .agg #[.bool md, .string td]] (.agg #[.bool nu, .string su]))
  (H7 : GivesV 120 #[.agg #[.bool nz, .string sz], .agg #[.bool nu, .string su]] (.agg #[.bool nr, .string sr, .bool mr, .string tr]))
  : Calls Tryz.prog 108 #[.agg #[.bool na, .string sa, .bool ma, .string ta], .agg #[.bool nb, .string sb, .bool mb, .string tb]] w fun e w' => e = .returned (.agg #[.bool nr, .string sr, .bool mr, .string tr]) ∧ Below w.heap.size w w' := by
 replace H1 := Lib.hid H1
 replace H2 := Lib.hid H2
 replace H3 := Lib.hid H3
 replace H4 := Lib.hid H4
 replace H5 := Lib.hid H5
 replace H6 := Lib.hid H6
 replace H7 := Lib.hid H7
 go_enter Tryz.func108, Tryz.ntmps108
 have HL0 := Lib.hid (Below.refl w.heap.size w)
 have HB0 := Lib.hid (show Bs [] w from trivial)
 have HO0 := Lib.hid (show w.heap.size ≤ w.heap.size from by have := HL0.out.size; first | omega | (simp at this; omega))
 obtain ⟨HL1, HB1⟩ := growLB HL0 HB0 (w.heap.size) #[.bool na, .string sa, .bool ma, .string ta] 85
 clear HL0 HB0
 have HO1 := Lib.hid (show w.heap.size < w.heap.size + 1 from by have := (HB1.out.1).lt; first | omega | (simp at this; omega))
 obtain ⟨HL2, HB2⟩ := growLB HL1 HB1 (w.heap.size + 1) #[.bool nb, .string sb, .bool mb, .string tb] 85
 clear HL1 HB1
 have HO2 := Lib.hid (show w.heap.size + 1 < w.heap.size + 1 + 1 from by have := (HB2.out.1).lt; first | omega | (simp at this; omega))
 obtain ⟨HL3, HB3⟩ := growLB HL2 HB2 (w.heap.size + 1 + 1) #[.bool false, .string ⟨#[]⟩, .bool false, .string ⟨#[]⟩] 85
 clear HL2 HB2
 go_wp2_with fail
 obtain ⟨W1, hW⟩ : ∃ W, (((w.alloc (.cells #[.bool na, .string sa, .bool ma, .string ta] 85)).alloc (.cells #[.bool nb, .string sb, .bool mb, .string tb] 85)).alloc (.cells #[.bool false, .string ⟨#[]⟩, .bool false, .string ⟨#[]⟩] 85)) = W := ⟨_, rfl⟩
 rw [hW] at HB3 HL3 ⊢
 clear hW
 refine wp_region_front 4 zvQ (by kernel_rfl) shQ (by kernel_rfl) (by kernel_rfl) (zvQ_alloc _ (by kernel_rfl)) (shQ_store _ (by kernel_rfl)) ?_
 intro mm BW hm1 hm2 hBW
 haveI := clm_some mm BW
 obtain ⟨fq0_0, fq0_1, fq0_2, fq0_3⟩ := BC.all4 fun u : Clm mm BW => ((HB3.out.bel (u.old hm1 hBW)).2.2.1)
 obtain ⟨fq1_0, fq1_1, fq1_2, fq1_3⟩ := BC.all4 fun u : Clm mm BW => ((HB3.out.bel (u.old hm1 hBW)).2.1)
 simp only [frontOf, unmade, List.take_succ_cons, List.take_zero, List.map_cons, List.map_nil]
 iterate 1 (go_big_quiet_step (fail))
 go_big_quiet_step ((go_at_call 119; exact quiet_clm hm2 H1.out _))
 iterate 1 (go_big_quiet_step (fail))
 go_big_quiet_step ((go_at_call 119; exact quiet_clm hm2 H2.out _))
 refine wpQuiet_nil ?_
 refine ⟨List.forall_mem_nil _, ?_⟩
 intro γ w2 hb hF
 clear hBW this hm1 hm2 fq0_0 fq0_1 fq0_2 fq0_3 fq1_0 fq1_1 fq1_2 fq1_3
 clear BW mm
 simp only [madesFrom, Facts, patch, List.take_succ_cons, List.take_zero, List.drop_succ_cons, List.drop_zero, Nat.zero_add, Nat.reduceAdd, List.mem_cons, List.not_mem_nil, or_false, forall_eq, forall_eq_or_imp, false_imp_iff, implies_true, and_true] at hF ⊢
 obtain ⟨HL4, HB4⟩ := cameLB HL3 HB3 hb
 clear hb  hF
 clear HL3 HB3
 obtain ⟨fx0_0_4, fx0_1_4, fx0_2_4, fx0_3_4⟩ := (HB4.out.2.2.1).at4
 obtain ⟨fz0_0_4, fz0_1_4, fz0_2_4, fz0_3_4⟩ := (HB4.out.2.2.1).z4
 obtain ⟨HL5, HB5⟩ := keptLB (c := w.heap.size) [.bool nc, .string sc, .bool mc, .string tc] 0 2 HL4 HB4 (by have := HO0.out; have := HO1.out; have := HO2.out; omega) (by simp only [Bs.ap, Bs.ap0, List.length_cons, List.length_nil, and_true, true_and]; have := HO0.out; have := HO1.out; have := HO2.out; omega)
 simp only [setCs, setL, Bs.put, List.set_cons_succ, List.set_cons_zero, Nat.zero_add, Nat.reduceAdd] at HL5 HB5
 replace HL5 := Lib.hid HL5
 replace HB5 := Lib.hid HB5
 clear HL4 HB4
 obtain ⟨fx1_0_5, fx1_1_5, fx1_2_5, fx1_3_5⟩ := (HB5.out.2.1).at4
 obtain ⟨fz1_0_5, fz1_1_5, fz1_2_5, fz1_3_5⟩ := (HB5.out.2.1).z4
 obtain ⟨HL6, HB6⟩ := keptLB (c := w.heap.size + 1) [.bool nd, .string sd, .bool md, .string td] 0 1 HL5 HB5 (by have := HO0.out; have := HO1.out; have := HO2.out; omega) (by simp only [Bs.ap, Bs.ap0, List.length_cons, List.length_nil, and_true, true_and]; have := HO0.out; have := HO1.out; have := HO2.out; omega)
 simp only [setCs, setL, Bs.put, List.set_cons_succ, List.set_cons_zero, Nat.zero_add, Nat.reduceAdd] at HL6 HB6
 replace HL6 := Lib.hid HL6
 replace HB6 := Lib.hid HB6
 clear HL5 HB5
 go_wp2_with fail
 obtain ⟨W3, hW⟩ : ∃ W, ((((((((w2.setCell ⟨w.heap.size, 0, none⟩ (.bool nc)).setCell ⟨w.heap.size, 1, none⟩ (.string sc)).setCell ⟨w.heap.size, 2, none⟩ (.bool mc)).setCell ⟨w.heap.size, 3, none⟩ (.string tc)).setCell ⟨w.heap.size + 1, 0, none⟩ (.bool nd)).setCell ⟨w.heap.size + 1, 1, none⟩ (.string sd)).setCell ⟨w.heap.size + 1, 2, none⟩ (.bool md)).setCell ⟨w.heap.size + 1, 3, none⟩ (.string td)) = W := ⟨_, rfl⟩
 rw [hW] at HB6 HL6 ⊢
 clear hW fx0_0_4 fz0_0_4 fx0_1_4 fz0_1_4 fx0_2_4 fz0_2_4 fx0_3_4 fz0_3_4 fx1_0_5 fz1_0_5 fx1_1_5 fz1_1_5 fx1_2_5 fz1_2_5 fx1_3_5 fz1_3_5
 refine wp_region_front 13 zvQ (by kernel_rfl) shQ (by kernel_rfl) (by kernel_rfl) (zvQ_alloc _ (by kernel_rfl)) (shQ_store _ (by kernel_rfl)) ?_
 intro mm BW hm1 hm2 hBW
 haveI := clm_some mm BW
 obtain ⟨fq0_0, fq0_1⟩ := BC.all2 fun u : Clm mm BW => ((HB6.out.bel (u.old hm1 hBW)).2.2.1)
 have fq1_2 : ∀ u : Clm mm BW, u.x.cell? ⟨w.heap.size + 1, 2, none⟩ = some (.bool md) := fun u => ((HB6.out.bel (u.old hm1 hBW)).2.1).at 2 (.bool md) rfl
 have fq1_3 : ∀ u : Clm mm BW, u.x.cell? ⟨w.heap.size + 1, 3, none⟩ = some (.string td) := fun u => ((HB6.out.bel (u.old hm1 hBW)).2.1).at 3 (.string td) rfl
 have fq1_0 : ∀ u : Clm mm BW, u.x.cell? ⟨w.heap.size + 1, 0, none⟩ = some (.bool nd) := fun u => ((HB6.out.bel (u.old hm1 hBW)).2.1).at 0 (.bool nd) rfl
 have fq1_1 : ∀ u : Clm mm BW, u.x.cell? ⟨w.heap.size + 1, 1, none⟩ = some (.string sd) := fun u => ((HB6.out.bel (u.old hm1 hBW)).2.1).at 1 (.string sd) rfl
 have fq0_2 : ∀ u : Clm mm BW, u.x.cell? ⟨w.heap.size, 2, none⟩ = some (.bool mc) := fun u => ((HB6.out.bel (u.old hm1 hBW)).2.2.1).at 2 (.bool mc) rfl
 have fq0_3 : ∀ u : Clm mm BW, u.x.cell? ⟨w.heap.size, 3, none⟩ = some (.string tc) := fun u => ((HB6.out.bel (u.old hm1 hBW)).2.2.1).at 3 (.string tc) rfl
 simp only [frontOf, unmade, List.take_succ_cons, List.take_zero, List.map_cons, List.map_nil]
 iterate 4 (go_big_quiet_step (fail))
 go_big_quiet_step ((go_at_call 69; exact quiet_clm hm2 H3.out _))
 iterate 4 (go_big_quiet_step (fail))
 go_big_quiet_step ((go_at_call 69; exact quiet_clm hm2 H4.out _))
 go_big_quiet_step ((go_at_call 26; exact quiet_clm hm2 H5.out _))
 iterate 2 (go_big_quiet_step (fail))
 refine wpQuiet_nil ?_
 refine ⟨List.forall_mem_cons.2 ⟨by kernel_rfl, List.forall_mem_nil _⟩, ?_⟩
 intro γ w4 hb hF
 clear hBW this hm1 hm2 fq0_0 fq0_1 fq1_2 fq1_3 fq1_0 fq1_1 fq0_2 fq0_3
 clear BW mm
 simp only [madesFrom, Facts, patch, List.take_succ_cons, List.take_zero, List.drop_succ_cons, List.drop_zero, Nat.zero_add, Nat.reduceAdd, List.mem_cons, List.not_mem_nil, or_false, forall_eq, forall_eq_or_imp, false_imp_iff, implies_true, and_true] at hF ⊢
 obtain ⟨hp5, hl5, hk5⟩ := hF
 obtain ⟨B5_4, hG⟩ : ∃ B, γ 11 = B := ⟨_, rfl⟩
 rw [hG] at hp5 hl5 hk5 ⊢
 clear hG
 have HL7 := Lib.hid (bstep HL6.out hb)
 have HO3 := Lib.hid (show w.heap.size + 1 + 1 < B5_4 from Nat.lt_of_lt_of_le (HB6.out.1).lt hp5)
 have HB7 := Lib.hid (Bs.cons (show BC _ B5_4 [.bool nz, .string sz] from BC.of hk5) (HB6.out.bel hb))
 clear hb hp5 hl5 hk5
 clear HL6 HB6
 try go_frame
 go_wp2_with fail
 refine wp_region_front 7 zvQ (by kernel_rfl) shQ (by kernel_rfl) (by kernel_rfl) (zvQ_alloc _ (by kernel_rfl)) (shQ_store _ (by kernel_rfl)) ?_
 intro mm BW hm1 hm2 hBW
 haveI := clm_some mm BW
 obtain ⟨fq3_0, fq3_1⟩ := BC.all2 fun u : Clm mm BW => ((HB7.out.bel (u.old hm1 hBW)).1)
 have fq0_2 : ∀ u : Clm mm BW, u.x.cell? ⟨w.heap.size, 2, none⟩ = some (.bool mc) := fun u => ((HB7.out.bel (u.old hm1 hBW)).2.2.2.1).at 2 (.bool mc) rfl
 have fq0_3 : ∀ u : Clm mm BW, u.x.cell? ⟨w.heap.size, 3, none⟩ = some (.string tc) := fun u => ((HB7.out.bel (u.old hm1 hBW)).2.2.2.1).at 3 (.string tc) rfl
 have fq1_2 : ∀ u : Clm mm BW, u.x.cell? ⟨w.heap.size + 1, 2, none⟩ = some (.bool md) := fun u => ((HB7.out.bel (u.old hm1 hBW)).2.2.1).at 2 (.bool md) rfl
 have fq1_3 : ∀ u : Clm mm BW, u.x.cell? ⟨w.heap.size + 1, 3, none⟩ = some (.string td) := fun u => ((HB7.out.bel (u.old hm1 hBW)).2.2.1).at 3 (.string td) rfl
 simp only [frontOf, unmade, List.take_succ_cons, List.take_zero, List.map_cons, List.map_nil]
 iterate 5 (go_big_quiet_step (fail))
 go_big_quiet_step ((go_at_call 69; exact quiet_clm hm2 H6.out _))
 go_big_quiet_step ((go_at_call 120; exact quiet_clm hm2 H7.out _))
 refine wpQuiet_nil ?_
 refine ⟨List.forall_mem_nil _, ?_⟩
 intro γ w5 hb hF
 clear hBW this hm1 hm2 fq3_0 fq3_1 fq0_2 fq0_3 fq1_2 fq1_3
 clear BW mm
 simp only [madesFrom, Facts, patch, List.take_succ_cons, List.take_zero, List.drop_succ_cons, List.drop_zero, Nat.zero_add, Nat.reduceAdd, List.mem_cons, List.not_mem_nil, or_false, forall_eq, forall_eq_or_imp, false_imp_iff, implies_true, and_true] at hF ⊢
 obtain ⟨HL8, HB8⟩ := cameLB HL7 HB7 hb
 clear hb  hF
 clear HL7 HB7
 obtain ⟨fx2_0_8, fx2_1_8, fx2_2_8, fx2_3_8⟩ := (HB8.out.2.1).at4
 obtain ⟨fz2_0_8, fz2_1_8, fz2_2_8, fz2_3_8⟩ := (HB8.out.2.1).z4
 obtain ⟨HL9, HB9⟩ := keptLB (c := w.heap.size + 1 + 1) [.bool nr, .string sr, .bool mr, .string tr] 0 1 HL8 HB8 (by have := HO0.out; have := HO1.out; have := HO2.out; have := HO3.out; omega) (by simp only [Bs.ap, Bs.ap0, List.length_cons, List.length_nil, and_true, true_and]; have := HO0.out; have := HO1.out; have := HO2.out; have := HO3.out; omega)
 simp only [setCs, setL, Bs.put, List.set_cons_succ, List.set_cons_zero, Nat.zero_add, Nat.reduceAdd] at HL9 HB9
 replace HL9 := Lib.hid HL9
 replace HB9 := Lib.hid HB9
 clear HL8 HB8
 obtain ⟨fx2_0_9, fx2_1_9, fx2_2_9, fx2_3_9⟩ := (HB9.out.2.1).at4
 go_wp2
 refine bodyPost_ret (v := .agg #[.bool nr, .string sr, .bool mr, .string tr]) (by simp [results, Tryz.results108, go_sem, fx2_0_9, fx2_1_9, fx2_2_9, fx2_3_9]) rfl ?_
 exact ⟨rfl, HL9.out⟩
theorem rRatNeg_w (w : World)
  (H1 : GivesV 119 #[.agg #[.bool na, .string sa, .bool ma, .string ta]] (.agg #[.bool nc, .string sc, .bool mc, .string tc]))
  (H2 : GivesV 131 #[.agg #[.bool nc, .string sc]] (.agg #[.bool nr, .string sr]))
  : Calls Tryz.prog 122 #[.agg #[.bool na, .string sa, .bool ma, .string ta]] w fun e w' => e = .returned (.agg #[.bool nr, .string sr, .bool mc, .string tc]) ∧ Below w.heap.size w w' := by
 replace H1 := Lib.hid H1
 replace H2 := Lib.hid H2
 go_enter Tryz.func122, Tryz.ntmps122
 have HL0 := Lib.hid (Below.refl w.heap.size w)
 have HB0 := Lib.hid (show Bs [] w from trivial)
 have HO0 := Lib.hid (show w.heap.size ≤ w.heap.size from by have := HL0.out.size; first | omega | (simp at this; omega))
 obtain ⟨HL1, HB1⟩ := growLB HL0 HB0 (w.heap.size) #[.bool na, .string sa, .bool ma, .string ta] 85
 clear HL0 HB0
 have HO1 := Lib.hid (show w.heap.size < w.heap.size + 1 from by have := (HB1.out.1).lt; first | omega | (simp at this; omega))
 obtain ⟨HL2, HB2⟩ := growLB HL1 HB1 (w.heap.size + 1) #[.bool false, .string ⟨#[]⟩, .bool false, .string ⟨#[]⟩] 85
 clear HL1 HB1
 obtain ⟨fx0_0_2, fx0_1_2, fx0_2_2, fx0_3_2⟩ := (HB2.out.2.1).at4
 go_wp2_with fail
 refine (H1.out _).mono ?_
 rintro e w1 ⟨rfl, hb⟩
 obtain ⟨HL3, HB3⟩ := cameLB HL2 HB2 hb
 clear hb
 clear HL2 HB2 fx0_0_2 fx0_1_2 fx0_2_2 fx0_3_2
 obtain ⟨fx0_0_3, fx0_1_3, fx0_2_3, fx0_3_3⟩ := (HB3.out.2.1).at4
 obtain ⟨fz0_0_3, fz0_1_3, fz0_2_3, fz0_3_3⟩ := (HB3.out.2.1).z4
 obtain ⟨HL4, HB4⟩ := keptLB (c := w.heap.size) [.bool nc, .string sc, .bool mc, .string tc] 0 1 HL3 HB3 (by have := HO0.out; have := HO1.out; omega) (by simp only [Bs.ap, Bs.ap0, List.length_cons, List.length_nil, and_true, true_and]; have := HO0.out; have := HO1.out; omega)
 simp only [setCs, setL, Bs.put, List.set_cons_succ, List.set_cons_zero, Nat.zero_add, Nat.reduceAdd] at HL4 HB4
 replace HL4 := Lib.hid HL4
 replace HB4 := Lib.hid HB4
 clear HL3 HB3
 go_wp2_with fail
 obtain ⟨W2, hW⟩ : ∃ W, ((((w1.setCell ⟨w.heap.size, 0, none⟩ (.bool nc)).setCell ⟨w.heap.size, 1, none⟩ (.string sc)).setCell ⟨w.heap.size, 2, none⟩ (.bool mc)).setCell ⟨w.heap.size, 3, none⟩ (.string tc)) = W := ⟨_, rfl⟩
 rw [hW] at HB4 HL4 ⊢
 clear hW fx0_0_3 fz0_0_3 fx0_1_3 fz0_1_3 fx0_2_3 fz0_2_3 fx0_3_3 fz0_3_3
 refine wp_region_front 6 zvQ (by kernel_rfl) shQ (by kernel_rfl) (by kernel_rfl) (zvQ_alloc _ (by kernel_rfl)) (shQ_store _ (by kernel_rfl)) ?_
 intro mm BW hm1 hm2 hBW
 haveI := clm_some mm BW
 obtain ⟨fq0_0, fq0_1, fq0_2, fq0_3⟩ := BC.all4 fun u : Clm mm BW => ((HB4.out.bel (u.old hm1 hBW)).2.1)
 simp only [frontOf, unmade, List.take_succ_cons, List.take_zero, List.map_cons, List.map_nil]
 iterate 2 (go_big_quiet_step (fail))
 go_big_quiet_step ((go_at_call 131; exact quiet_clm hm2 H2.out _))
 iterate 3 (go_big_quiet_step (fail))
 refine wpQuiet_nil ?_
 refine ⟨List.forall_mem_nil _, ?_⟩
 intro γ w3 hb hF
 clear hBW this hm1 hm2 fq0_0 fq0_1 fq0_2 fq0_3
 clear BW mm
 simp only [madesFrom, Facts, patch, List.take_succ_cons, List.take_zero, List.drop_succ_cons, List.drop_zero, Nat.zero_add, Nat.reduceAdd, List.mem_cons, List.not_mem_nil, or_false, forall_eq, forall_eq_or_imp, false_imp_iff, implies_true, and_true] at hF ⊢
 obtain ⟨HL5, HB5⟩ := cameLB HL4 HB4 hb
 clear hb  hF
 clear HL4 HB4
 obtain ⟨fx1_0_5, fx1_1_5, fx1_2_5, fx1_3_5⟩ := (HB5.out.1).at4
 obtain ⟨fz1_0_5, fz1_1_5, fz1_2_5, fz1_3_5⟩ := (HB5.out.1).z4
 obtain ⟨HL6, HB6⟩ := keptLB (c := w.heap.size + 1) [.bool nr, .string sr, .bool mc, .string tc] 0 0 HL5 HB5 (by have := HO0.out; have := HO1.out; omega) (by simp only [Bs.ap, Bs.ap0, List.length_cons, List.length_nil, and_true, true_and]; have := HO0.out; have := HO1.out; omega)
 simp only [setCs, setL, Bs.put, List.set_cons_succ, List.set_cons_zero, Nat.zero_add, Nat.reduceAdd] at HL6 HB6
 replace HL6 := Lib.hid HL6
 replace HB6 := Lib.hid HB6
 clear HL5 HB5
 obtain ⟨fx1_0_6, fx1_1_6, fx1_2_6, fx1_3_6⟩ := (HB6.out.1).at4
 go_wp2
 refine bodyPost_ret (v := .agg #[.bool nr, .string sr, .bool mc, .string tc]) (by simp [results, Tryz.results122, go_sem, fx1_0_6, fx1_1_6, fx1_2_6, fx1_3_6]) rfl ?_
 exact ⟨rfl, HL6.out⟩
theorem rRatSub_w (w : World)
  (H1 : GivesV 122 #[.agg #[.bool nb, .string sb, .bool mb, .string tb]] (.agg #[.bool nc, .string sc, .bool mc, .string tc]))
  (H2 : GivesV 108 #[.agg #[.bool na, .string sa, .bool ma, .string ta], .agg #[.bool nc, .string sc, .bool mc, .string tc]] (.agg #[.bool nr, .string sr, .bool mr, .string tr]))
  : Calls Tryz.prog 111 #[.agg #[.bool na, .string sa, .bool ma, .string ta], .agg #[.bool nb, .string sb, .bool mb, .string tb]] w fun e w' => e = .returned (.agg #[.bool nr, .string sr, .bool mr, .string tr]) ∧ Below w.heap.size w w' := by
 replace H1 := Lib.hid H1
 replace H2 := Lib.hid H2
 go_enter Tryz.func111, Tryz.ntmps111
 have HL0 := Lib.hid (Below.refl w.heap.size w)
 have HB0 := Lib.hid (show Bs [] w from trivial)
 have HO0 := Lib.hid (show w.heap.size ≤ w.heap.size from by have := HL0.out.size; first | omega | (simp at this; omega))
 obtain ⟨HL1, HB1⟩ := growLB HL0 HB0 (w.heap.size) #[.bool na, .string sa, .bool ma, .string ta] 85
 clear HL0 HB0
 have HO1 := Lib.hid (show w.heap.size < w.heap.size + 1 from by have := (HB1.out.1).lt; first | omega | (simp at this; omega))
 obtain ⟨HL2, HB2⟩ := growLB HL1 HB1 (w.heap.size + 1) #[.bool nb, .string sb, .bool mb, .string tb] 85
 clear HL1 HB1
 have HO2 := Lib.hid (show w.heap.size + 1 < w.heap.size + 1 + 1 from by have := (HB2.out.1).lt; first | omega | (simp at this; omega))
 obtain ⟨HL3, HB3⟩ := growLB HL2 HB2 (w.heap.size + 1 + 1) #[.bool false, .string ⟨#[]⟩, .bool false, .string ⟨#[]⟩] 85
 clear HL2 HB2
 go_wp2_with fail
 obtain ⟨W1, hW⟩ : ∃ W, (((w.alloc (.cells #[.bool na, .string sa, .bool ma, .string ta] 85)).alloc (.cells #[.bool nb, .string sb, .bool mb, .string tb] 85)).alloc (.cells #[.bool false, .string ⟨#[]⟩, .bool false, .string ⟨#[]⟩] 85)) = W := ⟨_, rfl⟩
 rw [hW] at HB3 HL3 ⊢
 clear hW
 refine wp_region_front 4 zvQ (by kernel_rfl) shQ (by kernel_rfl) (by kernel_rfl) (zvQ_alloc _ (by kernel_rfl)) (shQ_store _ (by kernel_rfl)) ?_
 intro mm BW hm1 hm2 hBW
 haveI := clm_some mm BW
 obtain ⟨fq0_0, fq0_1, fq0_2, fq0_3⟩ := BC.all4 fun u : Clm mm BW => ((HB3.out.bel (u.old hm1 hBW)).2.2.1)
 obtain ⟨fq1_0, fq1_1, fq1_2, fq1_3⟩ := BC.all4 fun u : Clm mm BW => ((HB3.out.bel (u.old hm1 hBW)).2.1)
 simp only [frontOf, unmade, List.take_succ_cons, List.take_zero, List.map_cons, List.map_nil]
 iterate 2 (go_big_quiet_step (fail))
 go_big_quiet_step ((go_at_call 122; exact quiet_clm hm2 H1.out _))
 go_big_quiet_step ((go_at_call 108; exact quiet_clm hm2 H2.out _))
 refine wpQuiet_nil ?_
 refine ⟨List.forall_mem_nil _, ?_⟩
 intro γ w2 hb hF
 clear hBW this hm1 hm2 fq0_0 fq0_1 fq0_2 fq0_3 fq1_0 fq1_1 fq1_2 fq1_3
 clear BW mm
 simp only [madesFrom, Facts, patch, List.take_succ_cons, List.take_zero, List.drop_succ_cons, List.drop_zero, Nat.zero_add, Nat.reduceAdd, List.mem_cons, List.not_mem_nil, or_false, forall_eq, forall_eq_or_imp, false_imp_iff, implies_true, and_true] at hF ⊢
 obtain ⟨HL4, HB4⟩ := cameLB HL3 HB3 hb
 clear hb  hF
 clear HL3 HB3
 obtain ⟨fx2_0_4, fx2_1_4, fx2_2_4, fx2_3_4⟩ := (HB4.out.1).at4
 obtain ⟨fz2_0_4, fz2_1_4, fz2_2_4, fz2_3_4⟩ := (HB4.out.1).z4
 obtain ⟨HL5, HB5⟩ := keptLB (c := w.heap.size + 1 + 1) [.bool nr, .string sr, .bool mr, .string tr] 0 0 HL4 HB4 (by have := HO0.out; have := HO1.out; have := HO2.out; omega) (by simp only [Bs.ap, Bs.ap0, List.length_cons, List.length_nil, and_true, true_and]; have := HO0.out; have := HO1.out; have := HO2.out; omega)
 simp only [setCs, setL, Bs.put, List.set_cons_succ, List.set_cons_zero, Nat.zero_add, Nat.reduceAdd] at HL5 HB5
 replace HL5 := Lib.hid HL5
 replace HB5 := Lib.hid HB5
 clear HL4 HB4
 obtain ⟨fx2_0_5, fx2_1_5, fx2_2_5, fx2_3_5⟩ := (HB5.out.1).at4
 go_wp2
 refine bodyPost_ret (v := .agg #[.bool nr, .string sr, .bool mr, .string tr]) (by simp [results, Tryz.results111, go_sem, fx2_0_5, fx2_1_5, fx2_2_5, fx2_3_5]) rfl ?_
 exact ⟨rfl, HL5.out⟩
theorem rRatCmp_w {z0 : Int} (w : World)
  (H1 : GivesV 111 #[.agg #[.bool na, .string sa, .bool ma, .string ta], .agg #[.bool nb, .string sb, .bool mb, .string tb]] (.agg #[.bool nc, .string sc, .bool mc, .string tc]))
  (H2 : GivesV 110 #[.agg #[.bool nc, .string sc]] (.int .i64 z0))
  : Calls Tryz.prog 87 #[.agg #[.bool na, .string sa, .bool ma, .string ta], .agg #[.bool nb, .string sb, .bool mb, .string tb]] w fun e w' => e = .returned (.int .i64 z0) ∧ Below w.heap.size w w' := by
 replace H1 := Lib.hid H1
 replace H2 := Lib.hid H2
 go_enter Tryz.func87, Tryz.ntmps87
 have HL0 := Lib.hid (Below.refl w.heap.size w)
 have HB0 := Lib.hid (show Bs [] w from trivial)
 have HO0 := Lib.hid (show w.heap.size ≤ w.heap.size from by have := HL0.out.size; first | omega | (simp at this; omega))
 obtain ⟨HL1, HB1⟩ := growLB HL0 HB0 (w.heap.size) #[.bool na, .string sa, .bool ma, .string ta] 85
 clear HL0 HB0
 have HO1 := Lib.hid (show w.heap.size < w.heap.size + 1 from by have := (HB1.out.1).lt; first | omega | (simp at this; omega))
 obtain ⟨HL2, HB2⟩ := growLB HL1 HB1 (w.heap.size + 1) #[.bool nb, .string sb, .bool mb, .string tb] 85
 clear HL1 HB1
 obtain ⟨fx0_0_2, fx0_1_2, fx0_2_2, fx0_3_2⟩ := (HB2.out.2.1).at4
 obtain ⟨fx1_0_2, fx1_1_2, fx1_2_2, fx1_3_2⟩ := (HB2.out.1).at4
 go_wp2_with fail
 refine (H1.out _).mono ?_
 rintro e w1 ⟨rfl, hb⟩
 obtain ⟨HL3, HB3⟩ := cameLB HL2 HB2 hb
 clear hb
 clear HL2 HB2 fx0_0_2 fx0_1_2 fx0_2_2 fx0_3_2 fx1_0_2 fx1_1_2 fx1_2_2 fx1_3_2
 go_wp2_with fail
 refine (H2.out _).mono ?_
 rintro e w2 ⟨rfl, hb⟩
 obtain ⟨HL4, HB4⟩ := cameLB HL3 HB3 hb
 clear hb
 clear HL3 HB3
 go_wp2
 go_ret
 exact ⟨rfl, HL4.out⟩
end Go.Proofs.Gv
