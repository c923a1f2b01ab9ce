/- Layer 02: functions of rational, walked over the results of what they call (printed by gen02s.py). -/
import Derived.Test.YtamempcabmlodaaDoorRatTabP
set_option linter.unusedSimpArgs false
set_option linter.unusedVariables false
namespace Go.Proofs.Gv
open Go Go.RowKit

set_option maxRecDepth 100000 in
set_option maxHeartbeats 4000000 in
theorem ratSim_zero_zpm {na ma nc mc nb mb nd md nz mz : Bool} {sa ta sc tc sb tb sd td sz tz : ByteArray} (w : World)
    (H1 : ∀ W, Calls Tryd.prog 36 #[.agg #[.bool na, .string sa, .bool ma, .string ta]] W fun e w' => e = .returned (.agg #[.bool nc, .string sc, .bool mc, .string tc]) ∧ Below W.heap.size W w')
    (H2 : ∀ W, Calls Tryd.prog 36 #[.agg #[.bool nb, .string sb, .bool mb, .string tb]] W fun e w' => e = .returned (.agg #[.bool nd, .string sd, .bool md, .string td]) ∧ Below W.heap.size W w')
    (H3 : ∀ W, Calls Tryd.prog 41 #[.agg #[.bool false, .string ⟨#[]⟩], .agg #[.bool false, .string ⟨#[]⟩]] W fun e w' => e = .returned (.agg #[.bool nz, .string sz, .bool mz, .string tz]) ∧ Below W.heap.size W w')
    (H4 : ∀ W, Calls Tryd.prog 15 #[.agg #[.bool nc, .string sc, .bool mc, .string tc], .agg #[.bool nd, .string sd, .bool md, .string td]] W fun e w' => e = .returned (.int .i64 0) ∧ Below W.heap.size W w')
    (H5 : ∀ W, Calls Tryd.prog 15 #[.agg #[.bool nd, .string sd, .bool md, .string td], .agg #[.bool nz, .string sz, .bool mz, .string tz]] W fun e w' => e = .returned (.int .i64 1) ∧ Below W.heap.size W w')
    (H6 : ∀ W, Calls Tryd.prog 15 #[.agg #[.bool nc, .string sc, .bool mc, .string tc], .agg #[.bool nz, .string sz, .bool mz, .string tz]] W fun e w' => e = .returned (.int .i64 (-1)) ∧ Below W.heap.size W w')
    : Calls Tryd.prog 28 #[.agg #[.bool na, .string sa, .bool ma, .string ta], .agg #[.bool nb, .string sb, .bool mb, .string tb]] w fun e w' => e = .returned (.tuple #[.agg #[.bool nz, .string sz, .bool mz, .string tz], .int .i64 0]) ∧ Below w.heap.size w w' := by
  replace H1 := Lib.hid H1
  replace H2 := Lib.hid H2
  replace H3 := Lib.hid H3
  replace H4 := Lib.hid H4
  replace H5 := Lib.hid H5
  replace H6 := Lib.hid H6
  go_enter Tryd.func28, Tryd.ntmps28
  have HL0 := Lib.hid (Below.refl w.heap.size w)
  have HB0 := Lib.hid (show Bs [] w from trivial)
  have HO0 := Lib.hid (show w.heap.size ≤ w.heap.size from by have := HL0.out.size; first | omega | (simp at this; omega))
  have HL1 := Lib.hid (HL0.out.alloc HL0.out.size (.cells #[.bool na, .string sa, .bool ma, .string ta] 25))
  have HB1 := Lib.hid (HB0.out.push (w.heap.size) #[.bool na, .string sa, .bool ma, .string ta] 25 (by first | rfl | simp))
  clear HL0 HB0
  have HO1 := Lib.hid (show w.heap.size < w.heap.size + 1 from by have := (HB1.out.1).lt; first | omega | (simp at this; omega))
  have HL2 := Lib.hid (HL1.out.alloc HL1.out.size (.cells #[.bool nb, .string sb, .bool mb, .string tb] 25))
  have HB2 := Lib.hid (HB1.out.push (w.heap.size + 1) #[.bool nb, .string sb, .bool mb, .string tb] 25 (by first | rfl | simp))
  clear HL1 HB1
  have HO2 := Lib.hid (show w.heap.size + 1 < w.heap.size + 1 + 1 from by have := (HB2.out.1).lt; first | omega | (simp at this; omega))
  have HL3 := Lib.hid (HL2.out.alloc HL2.out.size (.cells #[.bool false, .string ⟨#[]⟩, .bool false, .string ⟨#[]⟩] 25))
  have HB3 := Lib.hid (HB2.out.push (w.heap.size + 1 + 1) #[.bool false, .string ⟨#[]⟩, .bool false, .string ⟨#[]⟩] 25 (by first | rfl | simp))
  clear HL2 HB2
  go_wp2_with fail
  obtain ⟨W1, hW⟩ : ∃ W, (((w.alloc (.cells #[.bool na, .string sa, .bool ma, .string ta] 25)).alloc (.cells #[.bool nb, .string sb, .bool mb, .string tb] 25)).alloc (.cells #[.bool false, .string ⟨#[]⟩, .bool false, .string ⟨#[]⟩] 25)) = W := ⟨_, rfl⟩
  rw [hW] at HB3 HL3 ⊢
  clear hW
  refine wp_region_front 4 zvQ (by kernel_rfl) shQ (by kernel_rfl) (by kernel_rfl) (zvQ_alloc _ (by kernel_rfl)) (shQ_store _ (by kernel_rfl)) ?_
  intro mm BW hm1 hm2 hBW
  haveI := clm_some mm BW
  have fq0_0 : ∀ u : Clm mm BW, u.x.cell? ⟨w.heap.size, 0, none⟩ = some (.bool na) := fun u => ((HB3.out.bel (u.old hm1 hBW)).2.2.1).at 0 (.bool na) rfl
  have fq0_1 : ∀ u : Clm mm BW, u.x.cell? ⟨w.heap.size, 1, none⟩ = some (.string sa) := fun u => ((HB3.out.bel (u.old hm1 hBW)).2.2.1).at 1 (.string sa) rfl
  have fq0_2 : ∀ u : Clm mm BW, u.x.cell? ⟨w.heap.size, 2, none⟩ = some (.bool ma) := fun u => ((HB3.out.bel (u.old hm1 hBW)).2.2.1).at 2 (.bool ma) rfl
  have fq0_3 : ∀ u : Clm mm BW, u.x.cell? ⟨w.heap.size, 3, none⟩ = some (.string ta) := fun u => ((HB3.out.bel (u.old hm1 hBW)).2.2.1).at 3 (.string ta) rfl
  have fq1_0 : ∀ u : Clm mm BW, u.x.cell? ⟨w.heap.size + 1, 0, none⟩ = some (.bool nb) := fun u => ((HB3.out.bel (u.old hm1 hBW)).2.1).at 0 (.bool nb) rfl
  have fq1_1 : ∀ u : Clm mm BW, u.x.cell? ⟨w.heap.size + 1, 1, none⟩ = some (.string sb) := fun u => ((HB3.out.bel (u.old hm1 hBW)).2.1).at 1 (.string sb) rfl
  have fq1_2 : ∀ u : Clm mm BW, u.x.cell? ⟨w.heap.size + 1, 2, none⟩ = some (.bool mb) := fun u => ((HB3.out.bel (u.old hm1 hBW)).2.1).at 2 (.bool mb) rfl
  have fq1_3 : ∀ u : Clm mm BW, u.x.cell? ⟨w.heap.size + 1, 3, none⟩ = some (.string tb) := fun u => ((HB3.out.bel (u.old hm1 hBW)).2.1).at 3 (.string tb) rfl
  simp only [frontOf, unmade, List.take_succ_cons, List.take_zero, List.map_cons, List.map_nil]
  iterate 1 (go_big_quiet_step (fail))
  go_big_quiet_step ((go_at_call 36; exact quiet_clm hm2 H1.out _))
  iterate 1 (go_big_quiet_step (fail))
  go_big_quiet_step ((go_at_call 36; exact quiet_clm hm2 H2.out _))
  refine wpQuiet_nil ?_
  refine ⟨List.forall_mem_nil _, ?_⟩
  intro γ w2 hb hF
  clear hBW this hm1 hm2 fq0_0 fq0_1 fq0_2 fq0_3 fq1_0 fq1_1 fq1_2 fq1_3
  clear BW mm
  simp only [madesFrom, Facts, patch, List.take_succ_cons, List.take_zero, List.drop_succ_cons, List.drop_zero, Nat.zero_add, Nat.reduceAdd, List.mem_cons, List.not_mem_nil, or_false, forall_eq, forall_eq_or_imp, false_imp_iff, implies_true, and_true] at hF ⊢
  have HL4 := Lib.hid (bstep HL3.out hb)
  have HB4 := Lib.hid (show Bs [(w.heap.size + 1 + 1, [.bool false, .string ⟨#[]⟩, .bool false, .string ⟨#[]⟩]), (w.heap.size + 1, [.bool nb, .string sb, .bool mb, .string tb]), (w.heap.size, [.bool na, .string sa, .bool ma, .string ta])] _ from HB3.out.bel hb)
  clear hb  hF
  clear HL3 HB3
  have fx0_0_4 := (HB4.out.2.2.1).at 0 (.bool na) rfl
  have fz0_0_4 := (HB4.out.2.2.1).z 0 (show 0 < 4 by decide)
  have fx0_1_4 := (HB4.out.2.2.1).at 1 (.string sa) rfl
  have fz0_1_4 := (HB4.out.2.2.1).z 1 (show 1 < 4 by decide)
  have fx0_2_4 := (HB4.out.2.2.1).at 2 (.bool ma) rfl
  have fz0_2_4 := (HB4.out.2.2.1).z 2 (show 2 < 4 by decide)
  have fx0_3_4 := (HB4.out.2.2.1).at 3 (.string ta) rfl
  have fz0_3_4 := (HB4.out.2.2.1).z 3 (show 3 < 4 by decide)
  have HL5 := Lib.hid (show Below w.heap.size w ((((w2.setCell ⟨w.heap.size, 0, none⟩ (.bool nc)).setCell ⟨w.heap.size, 1, none⟩ (.string sc)).setCell ⟨w.heap.size, 2, none⟩ (.bool mc)).setCell ⟨w.heap.size, 3, none⟩ (.string tc)) from Below.setCs (c := w.heap.size) (by have := HO0.out; have := HO1.out; have := HO2.out; omega) [.bool nc, .string sc, .bool mc, .string tc] _ 0 HL4.out)
  have HB5 := Lib.hid (show Bs [(w.heap.size + 1 + 1, [.bool false, .string ⟨#[]⟩, .bool false, .string ⟨#[]⟩]), (w.heap.size + 1, [.bool nb, .string sb, .bool mb, .string tb]), (w.heap.size, [.bool nc, .string sc, .bool mc, .string tc])] ((((w2.setCell ⟨w.heap.size, 0, none⟩ (.bool nc)).setCell ⟨w.heap.size, 1, none⟩ (.string sc)).setCell ⟨w.heap.size, 2, none⟩ (.bool mc)).setCell ⟨w.heap.size, 3, none⟩ (.string tc)) from ⟨BC.otherCs (c := w.heap.size) (by have := HO0.out; have := HO1.out; have := HO2.out; omega) [.bool nc, .string sc, .bool mc, .string tc] _ 0 (HB4.out.1), ⟨BC.otherCs (c := w.heap.size) (by have := HO0.out; have := HO1.out; have := HO2.out; omega) [.bool nc, .string sc, .bool mc, .string tc] _ 0 (HB4.out.2.1), ⟨BC.setCs [.bool nc, .string sc, .bool mc, .string tc] _ [.bool na, .string sa, .bool ma, .string ta] 0 (show 4 ≤ 4 by decide) (HB4.out.2.2.1), trivial⟩⟩⟩)
  clear HL4 HB4
  have fx1_0_5 := (HB5.out.2.1).at 0 (.bool nb) rfl
  have fz1_0_5 := (HB5.out.2.1).z 0 (show 0 < 4 by decide)
  have fx1_1_5 := (HB5.out.2.1).at 1 (.string sb) rfl
  have fz1_1_5 := (HB5.out.2.1).z 1 (show 1 < 4 by decide)
  have fx1_2_5 := (HB5.out.2.1).at 2 (.bool mb) rfl
  have fz1_2_5 := (HB5.out.2.1).z 2 (show 2 < 4 by decide)
  have fx1_3_5 := (HB5.out.2.1).at 3 (.string tb) rfl
  have fz1_3_5 := (HB5.out.2.1).z 3 (show 3 < 4 by decide)
  have HL6 := Lib.hid (show Below w.heap.size w ((((((((w2.setCell ⟨w.heap.size, 0, none⟩ (.bool nc)).setCell ⟨w.heap.size, 1, none⟩ (.string sc)).setCell ⟨w.heap.size, 2, none⟩ (.bool mc)).setCell ⟨w.heap.size, 3, none⟩ (.string tc)).setCell ⟨w.heap.size + 1, 0, none⟩ (.bool nd)).setCell ⟨w.heap.size + 1, 1, none⟩ (.string sd)).setCell ⟨w.heap.size + 1, 2, none⟩ (.bool md)).setCell ⟨w.heap.size + 1, 3, none⟩ (.string td)) from Below.setCs (c := w.heap.size + 1) (by have := HO0.out; have := HO1.out; have := HO2.out; omega) [.bool nd, .string sd, .bool md, .string td] _ 0 HL5.out)
  have HB6 := Lib.hid (show Bs [(w.heap.size + 1 + 1, [.bool false, .string ⟨#[]⟩, .bool false, .string ⟨#[]⟩]), (w.heap.size + 1, [.bool nd, .string sd, .bool md, .string td]), (w.heap.size, [.bool nc, .string sc, .bool mc, .string tc])] ((((((((w2.setCell ⟨w.heap.size, 0, none⟩ (.bool nc)).setCell ⟨w.heap.size, 1, none⟩ (.string sc)).setCell ⟨w.heap.size, 2, none⟩ (.bool mc)).setCell ⟨w.heap.size, 3, none⟩ (.string tc)).setCell ⟨w.heap.size + 1, 0, none⟩ (.bool nd)).setCell ⟨w.heap.size + 1, 1, none⟩ (.string sd)).setCell ⟨w.heap.size + 1, 2, none⟩ (.bool md)).setCell ⟨w.heap.size + 1, 3, none⟩ (.string td)) from ⟨BC.otherCs (c := w.heap.size + 1) (by have := HO0.out; have := HO1.out; have := HO2.out; omega) [.bool nd, .string sd, .bool md, .string td] _ 0 (HB5.out.1), ⟨BC.setCs [.bool nd, .string sd, .bool md, .string td] _ [.bool nb, .string sb, .bool mb, .string tb] 0 (show 4 ≤ 4 by decide) (HB5.out.2.1), ⟨BC.otherCs (c := w.heap.size + 1) (by have := HO0.out; have := HO1.out; have := HO2.out; omega) [.bool nd, .string sd, .bool md, .string td] _ 0 (HB5.out.2.2.1), trivial⟩⟩⟩)
  clear HL5 HB5
  go_wp2_with fail
  refine (H3.out _).mono ?_
  rintro e w3 ⟨rfl, hb⟩
  have HL7 := Lib.hid (bstep HL6.out hb)
  have HB7 := Lib.hid (HB6.out.bel hb)
  clear hb
  clear HL6 HB6 fx0_0_4 fz0_0_4 fx0_1_4 fz0_1_4 fx0_2_4 fz0_2_4 fx0_3_4 fz0_3_4 fx1_0_5 fz1_0_5 fx1_1_5 fz1_1_5 fx1_2_5 fz1_2_5 fx1_3_5 fz1_3_5
  have HO3 := Lib.hid (show w.heap.size + 1 + 1 < w3.heap.size from by have := (HB7.out.1).lt; first | omega | (simp at this; omega))
  have HL8 := Lib.hid (HL7.out.alloc HL7.out.size (.cells #[.bool nz, .string sz, .bool mz, .string tz] 25))
  have HB8 := Lib.hid (HB7.out.push (w3.heap.size) #[.bool nz, .string sz, .bool mz, .string tz] 25 (by first | rfl | simp))
  clear HL7 HB7
  have fx0_0_8 := (HB8.out.2.2.2.1).at 0 (.bool nc) rfl
  have fx0_1_8 := (HB8.out.2.2.2.1).at 1 (.string sc) rfl
  have fx0_2_8 := (HB8.out.2.2.2.1).at 2 (.bool mc) rfl
  have fx0_3_8 := (HB8.out.2.2.2.1).at 3 (.string tc) rfl
  have fx1_0_8 := (HB8.out.2.2.1).at 0 (.bool nd) rfl
  have fx1_1_8 := (HB8.out.2.2.1).at 1 (.string sd) rfl
  have fx1_2_8 := (HB8.out.2.2.1).at 2 (.bool md) rfl
  have fx1_3_8 := (HB8.out.2.2.1).at 3 (.string td) rfl
  go_wp2_with fail
  refine (H4.out _).mono ?_
  rintro e w4 ⟨rfl, hb⟩
  have HL9 := Lib.hid (bstep HL8.out hb)
  have HB9 := Lib.hid (HB8.out.bel hb)
  clear hb
  clear HL8 HB8 fx0_0_8 fx0_1_8 fx0_2_8 fx0_3_8 fx1_0_8 fx1_1_8 fx1_2_8 fx1_3_8
  have fx1_0_9 := (HB9.out.2.2.1).at 0 (.bool nd) rfl
  have fx1_1_9 := (HB9.out.2.2.1).at 1 (.string sd) rfl
  have fx1_2_9 := (HB9.out.2.2.1).at 2 (.bool md) rfl
  have fx1_3_9 := (HB9.out.2.2.1).at 3 (.string td) rfl
  have fx3_0_9 := (HB9.out.1).at 0 (.bool nz) rfl
  have fx3_1_9 := (HB9.out.1).at 1 (.string sz) rfl
  have fx3_2_9 := (HB9.out.1).at 2 (.bool mz) rfl
  have fx3_3_9 := (HB9.out.1).at 3 (.string tz) rfl
  go_wp2_with fail
  refine (H5.out _).mono ?_
  rintro e w5 ⟨rfl, hb⟩
  have HL10 := Lib.hid (bstep HL9.out hb)
  have HB10 := Lib.hid (HB9.out.bel hb)
  clear hb
  clear HL9 HB9 fx1_0_9 fx1_1_9 fx1_2_9 fx1_3_9 fx3_0_9 fx3_1_9 fx3_2_9 fx3_3_9
  have fx0_0_10 := (HB10.out.2.2.2.1).at 0 (.bool nc) rfl
  have fx0_1_10 := (HB10.out.2.2.2.1).at 1 (.string sc) rfl
  have fx0_2_10 := (HB10.out.2.2.2.1).at 2 (.bool mc) rfl
  have fx0_3_10 := (HB10.out.2.2.2.1).at 3 (.string tc) rfl
  have fx3_0_10 := (HB10.out.1).at 0 (.bool nz) rfl
  have fx3_1_10 := (HB10.out.1).at 1 (.string sz) rfl
  have fx3_2_10 := (HB10.out.1).at 2 (.bool mz) rfl
  have fx3_3_10 := (HB10.out.1).at 3 (.string tz) rfl
  go_wp2_with fail
  refine (H6.out _).mono ?_
  rintro e w6 ⟨rfl, hb⟩
  have HL11 := Lib.hid (bstep HL10.out hb)
  have HB11 := Lib.hid (HB10.out.bel hb)
  clear hb
  clear HL10 HB10 fx0_0_10 fx0_1_10 fx0_2_10 fx0_3_10 fx3_0_10 fx3_1_10 fx3_2_10 fx3_3_10
  have fx3_0_11 := (HB11.out.1).at 0 (.bool nz) rfl
  have fx3_1_11 := (HB11.out.1).at 1 (.string sz) rfl
  have fx3_2_11 := (HB11.out.1).at 2 (.bool mz) rfl
  have fx3_3_11 := (HB11.out.1).at 3 (.string tz) rfl
  have fx2_0_11 := (HB11.out.2.1).at 0 (.bool false) rfl
  have fz2_0_11 := (HB11.out.2.1).z 0 (show 0 < 4 by decide)
  have fx2_1_11 := (HB11.out.2.1).at 1 (.string ⟨#[]⟩) rfl
  have fz2_1_11 := (HB11.out.2.1).z 1 (show 1 < 4 by decide)
  have fx2_2_11 := (HB11.out.2.1).at 2 (.bool false) rfl
  have fz2_2_11 := (HB11.out.2.1).z 2 (show 2 < 4 by decide)
  have fx2_3_11 := (HB11.out.2.1).at 3 (.string ⟨#[]⟩) rfl
  have fz2_3_11 := (HB11.out.2.1).z 3 (show 3 < 4 by decide)
  have HL12 := Lib.hid (show Below w.heap.size w ((((w6.setCell ⟨w.heap.size + 1 + 1, 0, none⟩ (.bool nz)).setCell ⟨w.heap.size + 1 + 1, 1, none⟩ (.string sz)).setCell ⟨w.heap.size + 1 + 1, 2, none⟩ (.bool mz)).setCell ⟨w.heap.size + 1 + 1, 3, none⟩ (.string tz)) from Below.setCs (c := w.heap.size + 1 + 1) (by have := HO0.out; have := HO1.out; have := HO2.out; have := HO3.out; omega) [.bool nz, .string sz, .bool mz, .string tz] _ 0 HL11.out)
  have HB12 := Lib.hid (show Bs [(w3.heap.size, [.bool nz, .string sz, .bool mz, .string tz]), (w.heap.size + 1 + 1, [.bool nz, .string sz, .bool mz, .string tz]), (w.heap.size + 1, [.bool nd, .string sd, .bool md, .string td]), (w.heap.size, [.bool nc, .string sc, .bool mc, .string tc])] ((((w6.setCell ⟨w.heap.size + 1 + 1, 0, none⟩ (.bool nz)).setCell ⟨w.heap.size + 1 + 1, 1, none⟩ (.string sz)).setCell ⟨w.heap.size + 1 + 1, 2, none⟩ (.bool mz)).setCell ⟨w.heap.size + 1 + 1, 3, none⟩ (.string tz)) from ⟨BC.otherCs (c := w.heap.size + 1 + 1) (by have := HO0.out; have := HO1.out; have := HO2.out; have := HO3.out; omega) [.bool nz, .string sz, .bool mz, .string tz] _ 0 (HB11.out.1), ⟨BC.setCs [.bool nz, .string sz, .bool mz, .string tz] _ [.bool false, .string ⟨#[]⟩, .bool false, .string ⟨#[]⟩] 0 (show 4 ≤ 4 by decide) (HB11.out.2.1), ⟨BC.otherCs (c := w.heap.size + 1 + 1) (by have := HO0.out; have := HO1.out; have := HO2.out; have := HO3.out; omega) [.bool nz, .string sz, .bool mz, .string tz] _ 0 (HB11.out.2.2.1), ⟨BC.otherCs (c := w.heap.size + 1 + 1) (by have := HO0.out; have := HO1.out; have := HO2.out; have := HO3.out; omega) [.bool nz, .string sz, .bool mz, .string tz] _ 0 (HB11.out.2.2.2.1), trivial⟩⟩⟩⟩)
  clear HL11 HB11
  have fx2_0_12 := (HB12.out.2.1).at 0 (.bool nz) rfl
  have fx2_1_12 := (HB12.out.2.1).at 1 (.string sz) rfl
  have fx2_2_12 := (HB12.out.2.1).at 2 (.bool mz) rfl
  have fx2_3_12 := (HB12.out.2.1).at 3 (.string tz) rfl
  go_wp2
  refine bodyPost_ret (v := .tuple #[.agg #[.bool nz, .string sz, .bool mz, .string tz], .int .i64 0]) (by simp [results, Tryd.results28, go_sem, fx2_0_12, fx2_1_12, fx2_2_12, fx2_3_12]) rfl ?_
  exact ⟨rfl, HL12.out⟩
end Go.Proofs.Gv
