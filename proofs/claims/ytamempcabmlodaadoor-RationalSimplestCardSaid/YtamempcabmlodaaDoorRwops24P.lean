/- Layer 02: functions of rational, walked over the results of what they call (printed by gen02a.py). -/
import Derived.Test.YtamempcabmlodaaDoorRatTabP
set_option linter.unusedSimpArgs false
set_option linter.unusedVariables false
namespace Go.Proofs.Gv
open Go Go.RowKit

set_option maxRecDepth 100000 in
set_option maxHeartbeats 4000000 in
theorem tab3_w {na nb nx ma mb ny : Bool} {sa sb sx ta tb sy : ByteArray} (w : World)
    (H1 : ∀ W, Calls Tryd.prog 26 #[.agg #[.bool na, .string sa], .agg #[.bool nb, .string sb]] W fun e w' => e = .returned (.agg #[.bool nx, .string sx]) ∧ Below W.heap.size W w')
    (H2 : ∀ W, Calls Tryd.prog 26 #[.agg #[.bool ma, .string ta], .agg #[.bool mb, .string tb]] W fun e w' => e = .returned (.agg #[.bool ny, .string sy]) ∧ Below W.heap.size W w')
    : Calls Tryd.prog 79 #[.agg #[.bool na, .string sa, .bool ma, .string ta], .agg #[.bool nb, .string sb, .bool mb, .string tb]] w fun e w' => e = .returned (.tuple #[.agg #[.bool nx, .string sx], .agg #[.bool ny, .string sy]]) ∧ Below w.heap.size w w' := by
  replace H1 := Lib.hid H1
  replace H2 := Lib.hid H2
  go_enter Tryd.func79, Tryd.ntmps79
  have HL0 := Lib.hid (Below.refl w.heap.size w)
  have HB0 := Lib.hid (show Bs [] w from trivial)
  have HO0 := Lib.hid (show w.heap.size ≤ w.heap.size from by have := HL0.out.size; first | omega | (simp at this; omega))
  have HL1 := Lib.hid (HL0.out.alloc HL0.out.size (.cells #[.bool na, .string sa, .bool ma, .string ta] 25))
  have HB1 := Lib.hid (HB0.out.push (w.heap.size) #[.bool na, .string sa, .bool ma, .string ta] 25 (by first | rfl | simp))
  clear HL0 HB0
  have HO1 := Lib.hid (show w.heap.size < w.heap.size + 1 from by have := (HB1.out.1).lt; first | omega | (simp at this; omega))
  have HL2 := Lib.hid (HL1.out.alloc HL1.out.size (.cells #[.bool nb, .string sb, .bool mb, .string tb] 25))
  have HB2 := Lib.hid (HB1.out.push (w.heap.size + 1) #[.bool nb, .string sb, .bool mb, .string tb] 25 (by first | rfl | simp))
  clear HL1 HB1
  have HO2 := Lib.hid (show w.heap.size + 1 < w.heap.size + 1 + 1 from by have := (HB2.out.1).lt; first | omega | (simp at this; omega))
  have HL3 := Lib.hid (HL2.out.alloc HL2.out.size (.cells #[.bool false, .string ⟨#[]⟩] 23))
  have HB3 := Lib.hid (HB2.out.push (w.heap.size + 1 + 1) #[.bool false, .string ⟨#[]⟩] 23 (by first | rfl | simp))
  clear HL2 HB2
  have HO3 := Lib.hid (show w.heap.size + 1 + 1 < w.heap.size + 1 + 1 + 1 from by have := (HB3.out.1).lt; first | omega | (simp at this; omega))
  have HL4 := Lib.hid (HL3.out.alloc HL3.out.size (.cells #[.bool false, .string ⟨#[]⟩] 23))
  have HB4 := Lib.hid (HB3.out.push (w.heap.size + 1 + 1 + 1) #[.bool false, .string ⟨#[]⟩] 23 (by first | rfl | simp))
  clear HL3 HB3
  go_wp2_with fail
  obtain ⟨W1, hW⟩ : ∃ W, ((((w.alloc (.cells #[.bool na, .string sa, .bool ma, .string ta] 25)).alloc (.cells #[.bool nb, .string sb, .bool mb, .string tb] 25)).alloc (.cells #[.bool false, .string ⟨#[]⟩] 23)).alloc (.cells #[.bool false, .string ⟨#[]⟩] 23)) = W := ⟨_, rfl⟩
  rw [hW] at HB4 HL4 ⊢
  clear hW
  refine wp_region_front 10 zvQ (by kernel_rfl) shQ (by kernel_rfl) (by kernel_rfl) (zvQ_alloc _ (by kernel_rfl)) (shQ_store _ (by kernel_rfl)) ?_
  intro mm BW hm1 hm2 hBW
  haveI := clm_some mm BW
  have fq0_0 : ∀ u : Clm mm BW, u.x.cell? ⟨w.heap.size, 0, none⟩ = some (.bool na) := fun u => ((HB4.out.bel (u.old hm1 hBW)).2.2.2.1).at 0 (.bool na) rfl
  have fq0_1 : ∀ u : Clm mm BW, u.x.cell? ⟨w.heap.size, 1, none⟩ = some (.string sa) := fun u => ((HB4.out.bel (u.old hm1 hBW)).2.2.2.1).at 1 (.string sa) rfl
  have fq1_0 : ∀ u : Clm mm BW, u.x.cell? ⟨w.heap.size + 1, 0, none⟩ = some (.bool nb) := fun u => ((HB4.out.bel (u.old hm1 hBW)).2.2.1).at 0 (.bool nb) rfl
  have fq1_1 : ∀ u : Clm mm BW, u.x.cell? ⟨w.heap.size + 1, 1, none⟩ = some (.string sb) := fun u => ((HB4.out.bel (u.old hm1 hBW)).2.2.1).at 1 (.string sb) rfl
  have fq0_2 : ∀ u : Clm mm BW, u.x.cell? ⟨w.heap.size, 2, none⟩ = some (.bool ma) := fun u => ((HB4.out.bel (u.old hm1 hBW)).2.2.2.1).at 2 (.bool ma) rfl
  have fq0_3 : ∀ u : Clm mm BW, u.x.cell? ⟨w.heap.size, 3, none⟩ = some (.string ta) := fun u => ((HB4.out.bel (u.old hm1 hBW)).2.2.2.1).at 3 (.string ta) rfl
  have fq1_2 : ∀ u : Clm mm BW, u.x.cell? ⟨w.heap.size + 1, 2, none⟩ = some (.bool mb) := fun u => ((HB4.out.bel (u.old hm1 hBW)).2.2.1).at 2 (.bool mb) rfl
  have fq1_3 : ∀ u : Clm mm BW, u.x.cell? ⟨w.heap.size + 1, 3, none⟩ = some (.string tb) := fun u => ((HB4.out.bel (u.old hm1 hBW)).2.2.1).at 3 (.string tb) rfl
  simp only [frontOf, unmade, List.take_succ_cons, List.take_zero, List.map_cons, List.map_nil]
  iterate 4 (go_big_quiet_step (fail))
  go_big_quiet_step ((go_at_call 26; exact quiet_clm hm2 H1.out _))
  iterate 4 (go_big_quiet_step (fail))
  go_big_quiet_step ((go_at_call 26; exact quiet_clm hm2 H2.out _))
  refine wpQuiet_nil ?_
  refine ⟨List.forall_mem_nil _, ?_⟩
  intro γ w2 hb hF
  clear hBW this hm1 hm2 fq0_0 fq0_1 fq1_0 fq1_1 fq0_2 fq0_3 fq1_2 fq1_3
  clear BW mm
  simp only [madesFrom, Facts, patch, List.take_succ_cons, List.take_zero, List.drop_succ_cons, List.drop_zero, Nat.zero_add, Nat.reduceAdd, List.mem_cons, List.not_mem_nil, or_false, forall_eq, forall_eq_or_imp, false_imp_iff, implies_true, and_true] at hF ⊢
  have HL5 := Lib.hid (bstep HL4.out hb)
  have HB5 := Lib.hid (HB4.out.bel hb)
  clear hb  hF
  clear HL4 HB4
  have fx2_0_5 := (HB5.out.2.1).at 0 (.bool false) rfl
  have fz2_0_5 := (HB5.out.2.1).z 0 (show 0 < 2 by decide)
  have fx2_1_5 := (HB5.out.2.1).at 1 (.string ⟨#[]⟩) rfl
  have fz2_1_5 := (HB5.out.2.1).z 1 (show 1 < 2 by decide)
  have HL6 := Below.setCs (c := w.heap.size + 1 + 1) (by have := HO0.out; have := HO1.out; have := HO2.out; have := HO3.out; omega) [.bool nx, .string sx] _ 0 HL5.out
  have HB6 := Bs.store (c := w.heap.size + 1 + 1) [.bool nx, .string sx] 0 1 HB5.out (by simp only [Bs.ap, Bs.ap0, List.length_cons, List.length_nil, and_true, true_and]; have := HO0.out; have := HO1.out; have := HO2.out; have := HO3.out; omega)
  simp only [setCs, setL, Bs.put, List.set_cons_succ, List.set_cons_zero, Nat.zero_add, Nat.reduceAdd] at HL6 HB6
  replace HL6 := Lib.hid HL6
  replace HB6 := Lib.hid HB6
  clear HL5 HB5
  have fx3_0_6 := (HB6.out.1).at 0 (.bool false) rfl
  have fz3_0_6 := (HB6.out.1).z 0 (show 0 < 2 by decide)
  have fx3_1_6 := (HB6.out.1).at 1 (.string ⟨#[]⟩) rfl
  have fz3_1_6 := (HB6.out.1).z 1 (show 1 < 2 by decide)
  have HL7 := Below.setCs (c := w.heap.size + 1 + 1 + 1) (by have := HO0.out; have := HO1.out; have := HO2.out; have := HO3.out; omega) [.bool ny, .string sy] _ 0 HL6.out
  have HB7 := Bs.store (c := w.heap.size + 1 + 1 + 1) [.bool ny, .string sy] 0 0 HB6.out (by simp only [Bs.ap, Bs.ap0, List.length_cons, List.length_nil, and_true, true_and]; have := HO0.out; have := HO1.out; have := HO2.out; have := HO3.out; omega)
  simp only [setCs, setL, Bs.put, List.set_cons_succ, List.set_cons_zero, Nat.zero_add, Nat.reduceAdd] at HL7 HB7
  replace HL7 := Lib.hid HL7
  replace HB7 := Lib.hid HB7
  clear HL6 HB6
  have fx2_0_7 := (HB7.out.2.1).at 0 (.bool nx) rfl
  have fx2_1_7 := (HB7.out.2.1).at 1 (.string sx) rfl
  have fx3_0_7 := (HB7.out.1).at 0 (.bool ny) rfl
  have fx3_1_7 := (HB7.out.1).at 1 (.string sy) rfl
  go_wp2
  refine bodyPost_ret (v := .tuple #[.agg #[.bool nx, .string sx], .agg #[.bool ny, .string sy]]) (by simp [results, Tryd.results79, go_sem, fx2_0_7, fx2_1_7, fx3_0_7, fx3_1_7]) rfl ?_
  exact ⟨rfl, HL7.out⟩
end Go.Proofs.Gv

namespace Go.Proofs.Gv
open Go Go.RowKit

set_option maxRecDepth 100000 in
set_option maxHeartbeats 4000000 in
theorem tab4_w {na mb nx ma nb ny : Bool} {sa tb sx ta sb sy : ByteArray} (w : World)
    (H1 : ∀ W, Calls Tryd.prog 26 #[.agg #[.bool na, .string sa], .agg #[.bool mb, .string tb]] W fun e w' => e = .returned (.agg #[.bool nx, .string sx]) ∧ Below W.heap.size W w')
    (H2 : ∀ W, Calls Tryd.prog 26 #[.agg #[.bool ma, .string ta], .agg #[.bool nb, .string sb]] W fun e w' => e = .returned (.agg #[.bool ny, .string sy]) ∧ Below W.heap.size W w')
    : Calls Tryd.prog 80 #[.agg #[.bool na, .string sa, .bool ma, .string ta], .agg #[.bool nb, .string sb, .bool mb, .string tb]] w fun e w' => e = .returned (.tuple #[.agg #[.bool nx, .string sx], .agg #[.bool ny, .string sy]]) ∧ Below w.heap.size w w' := by
  replace H1 := Lib.hid H1
  replace H2 := Lib.hid H2
  go_enter Tryd.func80, Tryd.ntmps80
  have HL0 := Lib.hid (Below.refl w.heap.size w)
  have HB0 := Lib.hid (show Bs [] w from trivial)
  have HO0 := Lib.hid (show w.heap.size ≤ w.heap.size from by have := HL0.out.size; first | omega | (simp at this; omega))
  have HL1 := Lib.hid (HL0.out.alloc HL0.out.size (.cells #[.bool na, .string sa, .bool ma, .string ta] 25))
  have HB1 := Lib.hid (HB0.out.push (w.heap.size) #[.bool na, .string sa, .bool ma, .string ta] 25 (by first | rfl | simp))
  clear HL0 HB0
  have HO1 := Lib.hid (show w.heap.size < w.heap.size + 1 from by have := (HB1.out.1).lt; first | omega | (simp at this; omega))
  have HL2 := Lib.hid (HL1.out.alloc HL1.out.size (.cells #[.bool nb, .string sb, .bool mb, .string tb] 25))
  have HB2 := Lib.hid (HB1.out.push (w.heap.size + 1) #[.bool nb, .string sb, .bool mb, .string tb] 25 (by first | rfl | simp))
  clear HL1 HB1
  have HO2 := Lib.hid (show w.heap.size + 1 < w.heap.size + 1 + 1 from by have := (HB2.out.1).lt; first | omega | (simp at this; omega))
  have HL3 := Lib.hid (HL2.out.alloc HL2.out.size (.cells #[.bool false, .string ⟨#[]⟩] 23))
  have HB3 := Lib.hid (HB2.out.push (w.heap.size + 1 + 1) #[.bool false, .string ⟨#[]⟩] 23 (by first | rfl | simp))
  clear HL2 HB2
  have HO3 := Lib.hid (show w.heap.size + 1 + 1 < w.heap.size + 1 + 1 + 1 from by have := (HB3.out.1).lt; first | omega | (simp at this; omega))
  have HL4 := Lib.hid (HL3.out.alloc HL3.out.size (.cells #[.bool false, .string ⟨#[]⟩] 23))
  have HB4 := Lib.hid (HB3.out.push (w.heap.size + 1 + 1 + 1) #[.bool false, .string ⟨#[]⟩] 23 (by first | rfl | simp))
  clear HL3 HB3
  go_wp2_with fail
  obtain ⟨W1, hW⟩ : ∃ W, ((((w.alloc (.cells #[.bool na, .string sa, .bool ma, .string ta] 25)).alloc (.cells #[.bool nb, .string sb, .bool mb, .string tb] 25)).alloc (.cells #[.bool false, .string ⟨#[]⟩] 23)).alloc (.cells #[.bool false, .string ⟨#[]⟩] 23)) = W := ⟨_, rfl⟩
  rw [hW] at HB4 HL4 ⊢
  clear hW
  refine wp_region_front 10 zvQ (by kernel_rfl) shQ (by kernel_rfl) (by kernel_rfl) (zvQ_alloc _ (by kernel_rfl)) (shQ_store _ (by kernel_rfl)) ?_
  intro mm BW hm1 hm2 hBW
  haveI := clm_some mm BW
  have fq0_0 : ∀ u : Clm mm BW, u.x.cell? ⟨w.heap.size, 0, none⟩ = some (.bool na) := fun u => ((HB4.out.bel (u.old hm1 hBW)).2.2.2.1).at 0 (.bool na) rfl
  have fq0_1 : ∀ u : Clm mm BW, u.x.cell? ⟨w.heap.size, 1, none⟩ = some (.string sa) := fun u => ((HB4.out.bel (u.old hm1 hBW)).2.2.2.1).at 1 (.string sa) rfl
  have fq1_2 : ∀ u : Clm mm BW, u.x.cell? ⟨w.heap.size + 1, 2, none⟩ = some (.bool mb) := fun u => ((HB4.out.bel (u.old hm1 hBW)).2.2.1).at 2 (.bool mb) rfl
  have fq1_3 : ∀ u : Clm mm BW, u.x.cell? ⟨w.heap.size + 1, 3, none⟩ = some (.string tb) := fun u => ((HB4.out.bel (u.old hm1 hBW)).2.2.1).at 3 (.string tb) rfl
  have fq0_2 : ∀ u : Clm mm BW, u.x.cell? ⟨w.heap.size, 2, none⟩ = some (.bool ma) := fun u => ((HB4.out.bel (u.old hm1 hBW)).2.2.2.1).at 2 (.bool ma) rfl
  have fq0_3 : ∀ u : Clm mm BW, u.x.cell? ⟨w.heap.size, 3, none⟩ = some (.string ta) := fun u => ((HB4.out.bel (u.old hm1 hBW)).2.2.2.1).at 3 (.string ta) rfl
  have fq1_0 : ∀ u : Clm mm BW, u.x.cell? ⟨w.heap.size + 1, 0, none⟩ = some (.bool nb) := fun u => ((HB4.out.bel (u.old hm1 hBW)).2.2.1).at 0 (.bool nb) rfl
  have fq1_1 : ∀ u : Clm mm BW, u.x.cell? ⟨w.heap.size + 1, 1, none⟩ = some (.string sb) := fun u => ((HB4.out.bel (u.old hm1 hBW)).2.2.1).at 1 (.string sb) rfl
  simp only [frontOf, unmade, List.take_succ_cons, List.take_zero, List.map_cons, List.map_nil]
  iterate 4 (go_big_quiet_step (fail))
  go_big_quiet_step ((go_at_call 26; exact quiet_clm hm2 H1.out _))
  iterate 4 (go_big_quiet_step (fail))
  go_big_quiet_step ((go_at_call 26; exact quiet_clm hm2 H2.out _))
  refine wpQuiet_nil ?_
  refine ⟨List.forall_mem_nil _, ?_⟩
  intro γ w2 hb hF
  clear hBW this hm1 hm2 fq0_0 fq0_1 fq1_2 fq1_3 fq0_2 fq0_3 fq1_0 fq1_1
  clear BW mm
  simp only [madesFrom, Facts, patch, List.take_succ_cons, List.take_zero, List.drop_succ_cons, List.drop_zero, Nat.zero_add, Nat.reduceAdd, List.mem_cons, List.not_mem_nil, or_false, forall_eq, forall_eq_or_imp, false_imp_iff, implies_true, and_true] at hF ⊢
  have HL5 := Lib.hid (bstep HL4.out hb)
  have HB5 := Lib.hid (HB4.out.bel hb)
  clear hb  hF
  clear HL4 HB4
  have fx2_0_5 := (HB5.out.2.1).at 0 (.bool false) rfl
  have fz2_0_5 := (HB5.out.2.1).z 0 (show 0 < 2 by decide)
  have fx2_1_5 := (HB5.out.2.1).at 1 (.string ⟨#[]⟩) rfl
  have fz2_1_5 := (HB5.out.2.1).z 1 (show 1 < 2 by decide)
  have HL6 := Below.setCs (c := w.heap.size + 1 + 1) (by have := HO0.out; have := HO1.out; have := HO2.out; have := HO3.out; omega) [.bool nx, .string sx] _ 0 HL5.out
  have HB6 := Bs.store (c := w.heap.size + 1 + 1) [.bool nx, .string sx] 0 1 HB5.out (by simp only [Bs.ap, Bs.ap0, List.length_cons, List.length_nil, and_true, true_and]; have := HO0.out; have := HO1.out; have := HO2.out; have := HO3.out; omega)
  simp only [setCs, setL, Bs.put, List.set_cons_succ, List.set_cons_zero, Nat.zero_add, Nat.reduceAdd] at HL6 HB6
  replace HL6 := Lib.hid HL6
  replace HB6 := Lib.hid HB6
  clear HL5 HB5
  have fx3_0_6 := (HB6.out.1).at 0 (.bool false) rfl
  have fz3_0_6 := (HB6.out.1).z 0 (show 0 < 2 by decide)
  have fx3_1_6 := (HB6.out.1).at 1 (.string ⟨#[]⟩) rfl
  have fz3_1_6 := (HB6.out.1).z 1 (show 1 < 2 by decide)
  have HL7 := Below.setCs (c := w.heap.size + 1 + 1 + 1) (by have := HO0.out; have := HO1.out; have := HO2.out; have := HO3.out; omega) [.bool ny, .string sy] _ 0 HL6.out
  have HB7 := Bs.store (c := w.heap.size + 1 + 1 + 1) [.bool ny, .string sy] 0 0 HB6.out (by simp only [Bs.ap, Bs.ap0, List.length_cons, List.length_nil, and_true, true_and]; have := HO0.out; have := HO1.out; have := HO2.out; have := HO3.out; omega)
  simp only [setCs, setL, Bs.put, List.set_cons_succ, List.set_cons_zero, Nat.zero_add, Nat.reduceAdd] at HL7 HB7
  replace HL7 := Lib.hid HL7
  replace HB7 := Lib.hid HB7
  clear HL6 HB6
  have fx2_0_7 := (HB7.out.2.1).at 0 (.bool nx) rfl
  have fx2_1_7 := (HB7.out.2.1).at 1 (.string sx) rfl
  have fx3_0_7 := (HB7.out.1).at 0 (.bool ny) rfl
  have fx3_1_7 := (HB7.out.1).at 1 (.string sy) rfl
  go_wp2
  refine bodyPost_ret (v := .tuple #[.agg #[.bool nx, .string sx], .agg #[.bool ny, .string sy]]) (by simp [results, Tryd.results80, go_sem, fx2_0_7, fx2_1_7, fx3_0_7, fx3_1_7]) rfl ?_
  exact ⟨rfl, HL7.out⟩
end Go.Proofs.Gv
