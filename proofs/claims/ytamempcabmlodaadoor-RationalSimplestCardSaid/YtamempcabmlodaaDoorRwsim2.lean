/- Layer 02: functions of rational, walked over the results of what they call (printed by gen02s.py). -/
import Derived.Test.YtamempcabmlodaaDoorRatTabP
set_option linter.unusedSimpArgs false
set_option linter.unusedVariables false
namespace Go.Proofs.Gv
open Go Go.RowKit

set_option maxRecDepth 100000 in
set_option maxHeartbeats 4000000 in
theorem ratSim_neg {na ma nc mc nb mb nd md nz mz nu mu nv mv nx mx ny my : Bool} {sa ta sc tc sb tb sd td sz tz su tu sv tv sx tx sy ty : ByteArray} {e0 : Int} (c1 : Int) (h1 : decide ((0 : Int) < c1) = false) (w : World)
    (H1 : ∀ W, Calls Tryd.prog 36 #[.agg #[.bool na, .string sa, .bool ma, .string ta]] W fun e w' => e = .returned (.agg #[.bool nc, .string sc, .bool mc, .string tc]) ∧ Below W.heap.size W w')
    (H2 : ∀ W, Calls Tryd.prog 36 #[.agg #[.bool nb, .string sb, .bool mb, .string tb]] W fun e w' => e = .returned (.agg #[.bool nd, .string sd, .bool md, .string td]) ∧ Below W.heap.size W w')
    (H3 : ∀ W, Calls Tryd.prog 41 #[.agg #[.bool false, .string ⟨#[]⟩], .agg #[.bool false, .string ⟨#[]⟩]] W fun e w' => e = .returned (.agg #[.bool nz, .string sz, .bool mz, .string tz]) ∧ Below W.heap.size W w')
    (H4 : ∀ W, Calls Tryd.prog 15 #[.agg #[.bool nc, .string sc, .bool mc, .string tc], .agg #[.bool nd, .string sd, .bool md, .string td]] W fun e w' => e = .returned (.int .i64 c1) ∧ Below W.heap.size W w')
    (H5 : ∀ W, Calls Tryd.prog 15 #[.agg #[.bool nd, .string sd, .bool md, .string td], .agg #[.bool nz, .string sz, .bool mz, .string tz]] W fun e w' => e = .returned (.int .i64 (-1)) ∧ Below W.heap.size W w')
    (H6 : ∀ W, Calls Tryd.prog 20 #[.agg #[.bool nd, .string sd, .bool md, .string td]] W fun e w' => e = .returned (.agg #[.bool nu, .string su, .bool mu, .string tu]) ∧ Below W.heap.size W w')
    (H7 : ∀ W, Calls Tryd.prog 20 #[.agg #[.bool nc, .string sc, .bool mc, .string tc]] W fun e w' => e = .returned (.agg #[.bool nv, .string sv, .bool mv, .string tv]) ∧ Below W.heap.size W w')
    (H8 : ∀ W, Calls Tryd.prog 28 #[.agg #[.bool nu, .string su, .bool mu, .string tu], .agg #[.bool nv, .string sv, .bool mv, .string tv]] W fun e w' => e = .returned (.tuple #[.agg #[.bool nx, .string sx, .bool mx, .string tx], .int .i64 e0]) ∧ Below W.heap.size W w')
    (H9 : ∀ W, Calls Tryd.prog 20 #[.agg #[.bool nx, .string sx, .bool mx, .string tx]] W fun e w' => e = .returned (.agg #[.bool ny, .string sy, .bool my, .string ty]) ∧ Below W.heap.size W w')
    : Calls Tryd.prog 28 #[.agg #[.bool na, .string sa, .bool ma, .string ta], .agg #[.bool nb, .string sb, .bool mb, .string tb]] w fun e w' => e = .returned (.tuple #[.agg #[.bool ny, .string sy, .bool my, .string ty], .int .i64 e0]) ∧ Below w.heap.size w w' := by
  replace H1 := Lib.hid H1
  replace H2 := Lib.hid H2
  replace H3 := Lib.hid H3
  replace H4 := Lib.hid H4
  replace H5 := Lib.hid H5
  replace H6 := Lib.hid H6
  replace H7 := Lib.hid H7
  replace H8 := Lib.hid H8
  replace H9 := Lib.hid H9
  go_enter Tryd.func28, Tryd.ntmps28
  have HL0 := Lib.hid (Below.refl w.heap.size w)
  have HB0 := Lib.hid (show Bs [] w from trivial)
  have HO0 := Lib.hid (show w.heap.size ≤ w.heap.size from by have := HL0.out.size; first | omega | (simp at this; omega))
  have HL1 := Lib.hid (HL0.out.alloc HL0.out.size (.cells #[.bool na, .string sa, .bool ma, .string ta] 25))
  have HB1 := Lib.hid (HB0.out.push (w.heap.size) #[.bool na, .string sa, .bool ma, .string ta] 25 (by first | rfl | simp))
  clear HL0 HB0
  have HO1 := Lib.hid (show w.heap.size < w.heap.size + 1 from by have := (HB1.out.1).lt; first | omega | (simp at this; omega))
  have HL2 := Lib.hid (HL1.out.alloc HL1.out.size (.cells #[.bool nb, .string sb, .bool mb, .string tb] 25))
  have HB2 := Lib.hid (HB1.out.push (w.heap.size + 1) #[.bool nb, .string sb, .bool mb, .string tb] 25 (by first | rfl | simp))
  clear HL1 HB1
  have HO2 := Lib.hid (show w.heap.size + 1 < w.heap.size + 1 + 1 from by have := (HB2.out.1).lt; first | omega | (simp at this; omega))
  have HL3 := Lib.hid (HL2.out.alloc HL2.out.size (.cells #[.bool false, .string ⟨#[]⟩, .bool false, .string ⟨#[]⟩] 25))
  have HB3 := Lib.hid (HB2.out.push (w.heap.size + 1 + 1) #[.bool false, .string ⟨#[]⟩, .bool false, .string ⟨#[]⟩] 25 (by first | rfl | simp))
  clear HL2 HB2
  go_wp2_with fail
  obtain ⟨W1, hW⟩ : ∃ W, (((w.alloc (.cells #[.bool na, .string sa, .bool ma, .string ta] 25)).alloc (.cells #[.bool nb, .string sb, .bool mb, .string tb] 25)).alloc (.cells #[.bool false, .string ⟨#[]⟩, .bool false, .string ⟨#[]⟩] 25)) = W := ⟨_, rfl⟩
  rw [hW] at HB3 HL3 ⊢
  clear hW
  refine wp_region_front 4 zvQ (by kernel_rfl) shQ (by kernel_rfl) (by kernel_rfl) (zvQ_alloc _ (by kernel_rfl)) (shQ_store _ (by kernel_rfl)) ?_
  intro mm BW hm1 hm2 hBW
  haveI := clm_some mm BW
  have fq0_0 : ∀ u : Clm mm BW, u.x.cell? ⟨w.heap.size, 0, none⟩ = some (.bool na) := fun u => ((HB3.out.bel (u.old hm1 hBW)).2.2.1).at 0 (.bool na) rfl
  have fq0_1 : ∀ u : Clm mm BW, u.x.cell? ⟨w.heap.size, 1, none⟩ = some (.string sa) := fun u => ((HB3.out.bel (u.old hm1 hBW)).2.2.1).at 1 (.string sa) rfl
  have fq0_2 : ∀ u : Clm mm BW, u.x.cell? ⟨w.heap.size, 2, none⟩ = some (.bool ma) := fun u => ((HB3.out.bel (u.old hm1 hBW)).2.2.1).at 2 (.bool ma) rfl
  have fq0_3 : ∀ u : Clm mm BW, u.x.cell? ⟨w.heap.size, 3, none⟩ = some (.string ta) := fun u => ((HB3.out.bel (u.old hm1 hBW)).2.2.1).at 3 (.string ta) rfl
  have fq1_0 : ∀ u : Clm mm BW, u.x.cell? ⟨w.heap.size + 1, 0, none⟩ = some (.bool nb) := fun u => ((HB3.out.bel (u.old hm1 hBW)).2.1).at 0 (.bool nb) rfl
  have fq1_1 : ∀ u : Clm mm BW, u.x.cell? ⟨w.heap.size + 1, 1, none⟩ = some (.string sb) := fun u => ((HB3.out.bel (u.old hm1 hBW)).2.1).at 1 (.string sb) rfl
  have fq1_2 : ∀ u : Clm mm BW, u.x.cell? ⟨w.heap.size + 1, 2, none⟩ = some (.bool mb) := fun u => ((HB3.out.bel (u.old hm1 hBW)).2.1).at 2 (.bool mb) rfl
  have fq1_3 : ∀ u : Clm mm BW, u.x.cell? ⟨w.heap.size + 1, 3, none⟩ = some (.string tb) := fun u => ((HB3.out.bel (u.old hm1 hBW)).2.1).at 3 (.string tb) rfl
  simp only [frontOf, unmade, List.take_succ_cons, List.take_zero, List.map_cons, List.map_nil]
  iterate 1 (go_big_quiet_step (fail))
  go_big_quiet_step ((go_at_call 36; exact quiet_clm hm2 H1.out _))
  iterate 1 (go_big_quiet_step (fail))
  go_big_quiet_step ((go_at_call 36; exact quiet_clm hm2 H2.out _))
  refine wpQuiet_nil ?_
  refine ⟨List.forall_mem_nil _, ?_⟩
  intro γ w2 hb hF
  clear hBW this hm1 hm2 fq0_0 fq0_1 fq0_2 fq0_3 fq1_0 fq1_1 fq1_2 fq1_3
  clear BW mm
  simp only [madesFrom, Facts, patch, List.take_succ_cons, List.take_zero, List.drop_succ_cons, List.drop_zero, Nat.zero_add, Nat.reduceAdd, List.mem_cons, List.not_mem_nil, or_false, forall_eq, forall_eq_or_imp, false_imp_iff, implies_true, and_true] at hF ⊢
  have HL4 := Lib.hid (bstep HL3.out hb)
  have HB4 := Lib.hid (HB3.out.bel hb)
  clear hb  hF
  clear HL3 HB3
  have fx0_0_4 := (HB4.out.2.2.1).at 0 (.bool na) rfl
  have fz0_0_4 := (HB4.out.2.2.1).z 0 (show 0 < 4 by decide)
  have fx0_1_4 := (HB4.out.2.2.1).at 1 (.string sa) rfl
  have fz0_1_4 := (HB4.out.2.2.1).z 1 (show 1 < 4 by decide)
  have fx0_2_4 := (HB4.out.2.2.1).at 2 (.bool ma) rfl
  have fz0_2_4 := (HB4.out.2.2.1).z 2 (show 2 < 4 by decide)
  have fx0_3_4 := (HB4.out.2.2.1).at 3 (.string ta) rfl
  have fz0_3_4 := (HB4.out.2.2.1).z 3 (show 3 < 4 by decide)
  have HL5 := Below.setCs (c := w.heap.size) (by have := HO0.out; have := HO1.out; have := HO2.out; omega) [.bool nc, .string sc, .bool mc, .string tc] _ 0 HL4.out
  have HB5 := Bs.store (c := w.heap.size) [.bool nc, .string sc, .bool mc, .string tc] 0 2 HB4.out (by simp only [Bs.ap, Bs.ap0, List.length_cons, List.length_nil, and_true, true_and]; have := HO0.out; have := HO1.out; have := HO2.out; omega)
  simp only [setCs, setL, Bs.put, List.set_cons_succ, List.set_cons_zero, Nat.zero_add, Nat.reduceAdd] at HL5 HB5
  replace HL5 := Lib.hid HL5
  replace HB5 := Lib.hid HB5
  clear HL4 HB4
  have fx1_0_5 := (HB5.out.2.1).at 0 (.bool nb) rfl
  have fz1_0_5 := (HB5.out.2.1).z 0 (show 0 < 4 by decide)
  have fx1_1_5 := (HB5.out.2.1).at 1 (.string sb) rfl
  have fz1_1_5 := (HB5.out.2.1).z 1 (show 1 < 4 by decide)
  have fx1_2_5 := (HB5.out.2.1).at 2 (.bool mb) rfl
  have fz1_2_5 := (HB5.out.2.1).z 2 (show 2 < 4 by decide)
  have fx1_3_5 := (HB5.out.2.1).at 3 (.string tb) rfl
  have fz1_3_5 := (HB5.out.2.1).z 3 (show 3 < 4 by decide)
  have HL6 := Below.setCs (c := w.heap.size + 1) (by have := HO0.out; have := HO1.out; have := HO2.out; omega) [.bool nd, .string sd, .bool md, .string td] _ 0 HL5.out
  have HB6 := Bs.store (c := w.heap.size + 1) [.bool nd, .string sd, .bool md, .string td] 0 1 HB5.out (by simp only [Bs.ap, Bs.ap0, List.length_cons, List.length_nil, and_true, true_and]; have := HO0.out; have := HO1.out; have := HO2.out; omega)
  simp only [setCs, setL, Bs.put, List.set_cons_succ, List.set_cons_zero, Nat.zero_add, Nat.reduceAdd] at HL6 HB6
  replace HL6 := Lib.hid HL6
  replace HB6 := Lib.hid HB6
  clear HL5 HB5
  go_wp2_with fail
  refine (H3.out _).mono ?_
  rintro e w3 ⟨rfl, hb⟩
  have HL7 := Lib.hid (bstep HL6.out hb)
  have HB7 := Lib.hid (HB6.out.bel hb)
  clear hb
  clear HL6 HB6 fx0_0_4 fz0_0_4 fx0_1_4 fz0_1_4 fx0_2_4 fz0_2_4 fx0_3_4 fz0_3_4 fx1_0_5 fz1_0_5 fx1_1_5 fz1_1_5 fx1_2_5 fz1_2_5 fx1_3_5 fz1_3_5
  have HO3 := Lib.hid (show w.heap.size + 1 + 1 < w3.heap.size from by have := (HB7.out.1).lt; first | omega | (simp at this; omega))
  have HL8 := Lib.hid (HL7.out.alloc HL7.out.size (.cells #[.bool nz, .string sz, .bool mz, .string tz] 25))
  have HB8 := Lib.hid (HB7.out.push (w3.heap.size) #[.bool nz, .string sz, .bool mz, .string tz] 25 (by first | rfl | simp))
  clear HL7 HB7
  have fx0_0_8 := (HB8.out.2.2.2.1).at 0 (.bool nc) rfl
  have fx0_1_8 := (HB8.out.2.2.2.1).at 1 (.string sc) rfl
  have fx0_2_8 := (HB8.out.2.2.2.1).at 2 (.bool mc) rfl
  have fx0_3_8 := (HB8.out.2.2.2.1).at 3 (.string tc) rfl
  have fx1_0_8 := (HB8.out.2.2.1).at 0 (.bool nd) rfl
  have fx1_1_8 := (HB8.out.2.2.1).at 1 (.string sd) rfl
  have fx1_2_8 := (HB8.out.2.2.1).at 2 (.bool md) rfl
  have fx1_3_8 := (HB8.out.2.2.1).at 3 (.string td) rfl
  go_wp2_with fail
  refine (H4.out _).mono ?_
  rintro e w4 ⟨rfl, hb⟩
  have HL9 := Lib.hid (bstep HL8.out hb)
  have HB9 := Lib.hid (HB8.out.bel hb)
  clear hb
  clear HL8 HB8 fx0_0_8 fx0_1_8 fx0_2_8 fx0_3_8 fx1_0_8 fx1_1_8 fx1_2_8 fx1_3_8
  have fx1_0_9 := (HB9.out.2.2.1).at 0 (.bool nd) rfl
  have fx1_1_9 := (HB9.out.2.2.1).at 1 (.string sd) rfl
  have fx1_2_9 := (HB9.out.2.2.1).at 2 (.bool md) rfl
  have fx1_3_9 := (HB9.out.2.2.1).at 3 (.string td) rfl
  have fx3_0_9 := (HB9.out.1).at 0 (.bool nz) rfl
  have fx3_1_9 := (HB9.out.1).at 1 (.string sz) rfl
  have fx3_2_9 := (HB9.out.1).at 2 (.bool mz) rfl
  have fx3_3_9 := (HB9.out.1).at 3 (.string tz) rfl
  go_wp2_with fail
  refine (H5.out _).mono ?_
  rintro e w5 ⟨rfl, hb⟩
  have HL10 := Lib.hid (bstep HL9.out hb)
  have HB10 := Lib.hid (HB9.out.bel hb)
  clear hb
  clear HL9 HB9 fx1_0_9 fx1_1_9 fx1_2_9 fx1_3_9 fx3_0_9 fx3_1_9 fx3_2_9 fx3_3_9
  go_wp2_with fail
  obtain ⟨Bw3, hB⟩ : ∃ B, w3.heap.size = B := ⟨_, rfl⟩
  rw [hB] at HB10 ⊢
  try rw [hB] at HO0
  try rw [hB] at HO1
  try rw [hB] at HO2
  try rw [hB] at HO3
  clear hB
  refine wp_region_front 11 zvQ (by kernel_rfl) shQ (by kernel_rfl) (by kernel_rfl) (zvQ_alloc _ (by kernel_rfl)) (shQ_store _ (by kernel_rfl)) ?_
  intro mm BW hm1 hm2 hBW
  haveI := clm_some mm BW
  have fq1_0 : ∀ u : Clm mm BW, u.x.cell? ⟨w.heap.size + 1, 0, none⟩ = some (.bool nd) := fun u => ((HB10.out.bel (u.old hm1 hBW)).2.2.1).at 0 (.bool nd) rfl
  have fq1_1 : ∀ u : Clm mm BW, u.x.cell? ⟨w.heap.size + 1, 1, none⟩ = some (.string sd) := fun u => ((HB10.out.bel (u.old hm1 hBW)).2.2.1).at 1 (.string sd) rfl
  have fq1_2 : ∀ u : Clm mm BW, u.x.cell? ⟨w.heap.size + 1, 2, none⟩ = some (.bool md) := fun u => ((HB10.out.bel (u.old hm1 hBW)).2.2.1).at 2 (.bool md) rfl
  have fq1_3 : ∀ u : Clm mm BW, u.x.cell? ⟨w.heap.size + 1, 3, none⟩ = some (.string td) := fun u => ((HB10.out.bel (u.old hm1 hBW)).2.2.1).at 3 (.string td) rfl
  have fq0_0 : ∀ u : Clm mm BW, u.x.cell? ⟨w.heap.size, 0, none⟩ = some (.bool nc) := fun u => ((HB10.out.bel (u.old hm1 hBW)).2.2.2.1).at 0 (.bool nc) rfl
  have fq0_1 : ∀ u : Clm mm BW, u.x.cell? ⟨w.heap.size, 1, none⟩ = some (.string sc) := fun u => ((HB10.out.bel (u.old hm1 hBW)).2.2.2.1).at 1 (.string sc) rfl
  have fq0_2 : ∀ u : Clm mm BW, u.x.cell? ⟨w.heap.size, 2, none⟩ = some (.bool mc) := fun u => ((HB10.out.bel (u.old hm1 hBW)).2.2.2.1).at 2 (.bool mc) rfl
  have fq0_3 : ∀ u : Clm mm BW, u.x.cell? ⟨w.heap.size, 3, none⟩ = some (.string tc) := fun u => ((HB10.out.bel (u.old hm1 hBW)).2.2.2.1).at 3 (.string tc) rfl
  simp only [frontOf, unmade, List.take_succ_cons, List.take_zero, List.map_cons, List.map_nil]
  iterate 1 (go_big_quiet_step (fail))
  go_big_quiet_step ((go_at_call 20; exact quiet_clm hm2 H6.out _))
  iterate 1 (go_big_quiet_step (fail))
  go_big_quiet_step ((go_at_call 20; exact quiet_clm hm2 H7.out _))
  go_big_quiet_step ((go_at_call 28; exact quiet_clm hm2 H8.out _))
  iterate 6 (go_big_quiet_step (fail))
  refine wpQuiet_nil ?_
  refine ⟨List.forall_mem_cons.2 ⟨by kernel_rfl, List.forall_mem_nil _⟩, ?_⟩
  intro γ w6 hb hF
  clear hBW this hm1 hm2 fq1_0 fq1_1 fq1_2 fq1_3 fq0_0 fq0_1 fq0_2 fq0_3
  clear BW mm
  simp only [madesFrom, Facts, patch, List.take_succ_cons, List.take_zero, List.drop_succ_cons, List.drop_zero, Nat.zero_add, Nat.reduceAdd, List.mem_cons, List.not_mem_nil, or_false, forall_eq, forall_eq_or_imp, false_imp_iff, implies_true, and_true] at hF ⊢
  obtain ⟨hp7, hl7, hk7⟩ := hF
  obtain ⟨B7_6, hG⟩ : ∃ B, γ 8 = B := ⟨_, rfl⟩
  rw [hG] at hp7 hl7 hk7 ⊢
  clear hG
  have HL11 := Lib.hid (bstep HL10.out hb)
  have HO4 := Lib.hid (show Bw3 < B7_6 from Nat.lt_of_lt_of_le (HB10.out.1).lt hp7)
  have HB11 := Lib.hid (Bs.cons (show BC _ B7_6 [.bool nx, .string sx, .bool mx, .string tx] from BC.of hk7) (HB10.out.bel hb))
  clear hb hp7 hl7 hk7
  clear HL10 HB10
  try go_frame
  have fx4_0_11 := (HB11.out.1).at 0 (.bool nx) rfl
  have fx4_1_11 := (HB11.out.1).at 1 (.string sx) rfl
  have fx4_2_11 := (HB11.out.1).at 2 (.bool mx) rfl
  have fx4_3_11 := (HB11.out.1).at 3 (.string tx) rfl
  go_wp2_with fail
  refine (H9.out _).mono ?_
  rintro e w7 ⟨rfl, hb⟩
  have HL12 := Lib.hid (bstep HL11.out hb)
  have HB12 := Lib.hid (HB11.out.bel hb)
  clear hb
  clear HL11 HB11 fx4_0_11 fx4_1_11 fx4_2_11 fx4_3_11
  have fx2_0_12 := (HB12.out.2.2.1).at 0 (.bool false) rfl
  have fz2_0_12 := (HB12.out.2.2.1).z 0 (show 0 < 4 by decide)
  have fx2_1_12 := (HB12.out.2.2.1).at 1 (.string ⟨#[]⟩) rfl
  have fz2_1_12 := (HB12.out.2.2.1).z 1 (show 1 < 4 by decide)
  have fx2_2_12 := (HB12.out.2.2.1).at 2 (.bool false) rfl
  have fz2_2_12 := (HB12.out.2.2.1).z 2 (show 2 < 4 by decide)
  have fx2_3_12 := (HB12.out.2.2.1).at 3 (.string ⟨#[]⟩) rfl
  have fz2_3_12 := (HB12.out.2.2.1).z 3 (show 3 < 4 by decide)
  have HL13 := Below.setCs (c := w.heap.size + 1 + 1) (by have := HO0.out; have := HO1.out; have := HO2.out; have := HO3.out; have := HO4.out; omega) [.bool ny, .string sy, .bool my, .string ty] _ 0 HL12.out
  have HB13 := Bs.store (c := w.heap.size + 1 + 1) [.bool ny, .string sy, .bool my, .string ty] 0 2 HB12.out (by simp only [Bs.ap, Bs.ap0, List.length_cons, List.length_nil, and_true, true_and]; have := HO0.out; have := HO1.out; have := HO2.out; have := HO3.out; have := HO4.out; omega)
  simp only [setCs, setL, Bs.put, List.set_cons_succ, List.set_cons_zero, Nat.zero_add, Nat.reduceAdd] at HL13 HB13
  replace HL13 := Lib.hid HL13
  replace HB13 := Lib.hid HB13
  clear HL12 HB12
  have fx2_0_13 := (HB13.out.2.2.1).at 0 (.bool ny) rfl
  have fx2_1_13 := (HB13.out.2.2.1).at 1 (.string sy) rfl
  have fx2_2_13 := (HB13.out.2.2.1).at 2 (.bool my) rfl
  have fx2_3_13 := (HB13.out.2.2.1).at 3 (.string ty) rfl
  go_wp2
  refine bodyPost_ret (v := .tuple #[.agg #[.bool ny, .string sy, .bool my, .string ty], .int .i64 e0]) (by simp [results, Tryd.results28, go_sem, fx2_0_13, fx2_1_13, fx2_2_13, fx2_3_13]) rfl ?_
  exact ⟨rfl, HL13.out⟩
end Go.Proofs.Gv
