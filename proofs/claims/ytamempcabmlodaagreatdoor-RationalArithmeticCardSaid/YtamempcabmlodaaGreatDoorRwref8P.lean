/- Layer 02: functions of the reference implementation, walked over the results of what they call (printed by gen02r.py). -/
import Derived.Test.YtamempcabmlodaaGreatDoorRatTabP
set_option linter.unusedSimpArgs false
set_option linter.unusedVariables false
namespace Go.Proofs.Gv
open Go Go.RowKit

set_option maxRecDepth 100000 in
set_option maxHeartbeats 4000000 in
theorem rlow_neg {nb na nx1 ny1 ng nx nxr ny nyr : Bool} {sb sa sx1 sy1 sg sx sxr sy syr : ByteArray} {ex ey : Int} (w : World)
    (H1 : ∀ W, Calls Tryz.prog 42 #[.agg #[.bool nb, .string sb]] W fun e w' => e = .returned (.int .i64 (-1)) ∧ Below W.heap.size W w')
    (H2 : ∀ W, Calls Tryz.prog 52 #[.agg #[.bool na, .string sa]] W fun e w' => e = .returned (.agg #[.bool nx1, .string sx1]) ∧ Below W.heap.size W w')
    (H3 : ∀ W, Calls Tryz.prog 52 #[.agg #[.bool nb, .string sb]] W fun e w' => e = .returned (.agg #[.bool ny1, .string sy1]) ∧ Below W.heap.size W w')
    (H4 : ∀ W, Calls Tryz.prog 70 #[.agg #[.bool nx1, .string sx1], .agg #[.bool ny1, .string sy1]] W fun e w' => e = .returned (.agg #[.bool ng, .string sg]) ∧ Below W.heap.size W w')
    (H5 : ∀ W, Calls Tryz.prog 55 #[.agg #[.bool nx1, .string sx1], .agg #[.bool ng, .string sg]] W fun e w' => e = .returned (.tuple #[.agg #[.bool nx, .string sx], .agg #[.bool nxr, .string sxr], .int .i64 ex]) ∧ Below W.heap.size W w')
    (H6 : ∀ W, Calls Tryz.prog 55 #[.agg #[.bool ny1, .string sy1], .agg #[.bool ng, .string sg]] W fun e w' => e = .returned (.tuple #[.agg #[.bool ny, .string sy], .agg #[.bool nyr, .string syr], .int .i64 ey]) ∧ Below W.heap.size W w')
    : Calls Tryz.prog 43 #[.agg #[.bool na, .string sa], .agg #[.bool nb, .string sb]] w fun e w' => e = .returned (.agg #[.bool nx, .string sx, .bool ny, .string sy]) ∧ Below w.heap.size w w' := by
  replace H1 := Lib.hid H1
  replace H2 := Lib.hid H2
  replace H3 := Lib.hid H3
  replace H4 := Lib.hid H4
  replace H5 := Lib.hid H5
  replace H6 := Lib.hid H6
  go_enter Tryz.func43, Tryz.ntmps43
  have HL0 := Lib.hid (Below.refl w.heap.size w)
  have HB0 := Lib.hid (show Bs [] w from trivial)
  have HO0 := Lib.hid (show w.heap.size ≤ w.heap.size from by have := HL0.out.size; first | omega | (simp at this; omega))
  have HL1 := Lib.hid (HL0.out.alloc HL0.out.size (.cells #[.bool na, .string sa] 23))
  have HB1 := Lib.hid (HB0.out.push (w.heap.size) #[.bool na, .string sa] 23 (by first | rfl | simp))
  clear HL0 HB0
  have HO1 := Lib.hid (show w.heap.size < w.heap.size + 1 from by have := (HB1.out.1).lt; first | omega | (simp at this; omega))
  have HL2 := Lib.hid (HL1.out.alloc HL1.out.size (.cells #[.bool nb, .string sb] 23))
  have HB2 := Lib.hid (HB1.out.push (w.heap.size + 1) #[.bool nb, .string sb] 23 (by first | rfl | simp))
  clear HL1 HB1
  have HO2 := Lib.hid (show w.heap.size + 1 < w.heap.size + 1 + 1 from by have := (HB2.out.1).lt; first | omega | (simp at this; omega))
  have HL3 := Lib.hid (HL2.out.alloc HL2.out.size (.cells #[.bool false, .string ⟨#[]⟩, .bool false, .string ⟨#[]⟩] 25))
  have HB3 := Lib.hid (HB2.out.push (w.heap.size + 1 + 1) #[.bool false, .string ⟨#[]⟩, .bool false, .string ⟨#[]⟩] 25 (by first | rfl | simp))
  clear HL2 HB2
  have fx1_0_3 := (HB3.out.2.1).at 0 (.bool nb) rfl
  have fx1_1_3 := (HB3.out.2.1).at 1 (.string sb) rfl
  go_wp2_with fail
  refine (H1.out _).mono ?_
  rintro e w1 ⟨rfl, hb⟩
  have HL4 := Lib.hid (bstep HL3.out hb)
  have HB4 := Lib.hid (HB3.out.bel hb)
  clear hb
  clear HL3 HB3 fx1_0_3 fx1_1_3
  go_wp2_with fail
  refine wp_region_front 4 zvQ (by kernel_rfl) shQ (by kernel_rfl) (by kernel_rfl) (zvQ_alloc _ (by kernel_rfl)) (shQ_store _ (by kernel_rfl)) ?_
  intro mm BW hm1 hm2 hBW
  haveI := clm_some mm BW
  have fq0_0 : ∀ u : Clm mm BW, u.x.cell? ⟨w.heap.size, 0, none⟩ = some (.bool na) := fun u => ((HB4.out.bel (u.old hm1 hBW)).2.2.1).at 0 (.bool na) rfl
  have fq0_1 : ∀ u : Clm mm BW, u.x.cell? ⟨w.heap.size, 1, none⟩ = some (.string sa) := fun u => ((HB4.out.bel (u.old hm1 hBW)).2.2.1).at 1 (.string sa) rfl
  have fq1_0 : ∀ u : Clm mm BW, u.x.cell? ⟨w.heap.size + 1, 0, none⟩ = some (.bool nb) := fun u => ((HB4.out.bel (u.old hm1 hBW)).2.1).at 0 (.bool nb) rfl
  have fq1_1 : ∀ u : Clm mm BW, u.x.cell? ⟨w.heap.size + 1, 1, none⟩ = some (.string sb) := fun u => ((HB4.out.bel (u.old hm1 hBW)).2.1).at 1 (.string sb) rfl
  simp only [frontOf, unmade, List.take_succ_cons, List.take_zero, List.map_cons, List.map_nil]
  iterate 1 (go_big_quiet_step (fail))
  go_big_quiet_step ((go_at_call 52; exact quiet_clm hm2 H2.out _))
  iterate 1 (go_big_quiet_step (fail))
  go_big_quiet_step ((go_at_call 52; exact quiet_clm hm2 H3.out _))
  refine wpQuiet_nil ?_
  refine ⟨List.forall_mem_nil _, ?_⟩
  intro γ w2 hb hF
  clear hBW this hm1 hm2 fq0_0 fq0_1 fq1_0 fq1_1
  clear BW mm
  simp only [madesFrom, Facts, patch, List.take_succ_cons, List.take_zero, List.drop_succ_cons, List.drop_zero, Nat.zero_add, Nat.reduceAdd, List.mem_cons, List.not_mem_nil, or_false, forall_eq, forall_eq_or_imp, false_imp_iff, implies_true, and_true] at hF ⊢
  have HL5 := Lib.hid (bstep HL4.out hb)
  have HB5 := Lib.hid (HB4.out.bel hb)
  clear hb  hF
  clear HL4 HB4
  have fx0_0_5 := (HB5.out.2.2.1).at 0 (.bool na) rfl
  have fz0_0_5 := (HB5.out.2.2.1).z 0 (show 0 < 2 by decide)
  have fx0_1_5 := (HB5.out.2.2.1).at 1 (.string sa) rfl
  have fz0_1_5 := (HB5.out.2.2.1).z 1 (show 1 < 2 by decide)
  have HL6 := Below.setCs (c := w.heap.size) (by have := HO0.out; have := HO1.out; have := HO2.out; omega) [.bool nx1, .string sx1] _ 0 HL5.out
  have HB6 := Bs.store (c := w.heap.size) [.bool nx1, .string sx1] 0 2 HB5.out (by simp only [Bs.ap, Bs.ap0, List.length_cons, List.length_nil, and_true, true_and]; have := HO0.out; have := HO1.out; have := HO2.out; omega)
  simp only [setCs, setL, Bs.put, List.set_cons_succ, List.set_cons_zero, Nat.zero_add, Nat.reduceAdd] at HL6 HB6
  replace HL6 := Lib.hid HL6
  replace HB6 := Lib.hid HB6
  clear HL5 HB5
  have fx1_0_6 := (HB6.out.2.1).at 0 (.bool nb) rfl
  have fz1_0_6 := (HB6.out.2.1).z 0 (show 0 < 2 by decide)
  have fx1_1_6 := (HB6.out.2.1).at 1 (.string sb) rfl
  have fz1_1_6 := (HB6.out.2.1).z 1 (show 1 < 2 by decide)
  have HL7 := Below.setCs (c := w.heap.size + 1) (by have := HO0.out; have := HO1.out; have := HO2.out; omega) [.bool ny1, .string sy1] _ 0 HL6.out
  have HB7 := Bs.store (c := w.heap.size + 1) [.bool ny1, .string sy1] 0 1 HB6.out (by simp only [Bs.ap, Bs.ap0, List.length_cons, List.length_nil, and_true, true_and]; have := HO0.out; have := HO1.out; have := HO2.out; omega)
  simp only [setCs, setL, Bs.put, List.set_cons_succ, List.set_cons_zero, Nat.zero_add, Nat.reduceAdd] at HL7 HB7
  replace HL7 := Lib.hid HL7
  replace HB7 := Lib.hid HB7
  clear HL6 HB6
  have fx0_0_7 := (HB7.out.2.2.1).at 0 (.bool nx1) rfl
  have fx0_1_7 := (HB7.out.2.2.1).at 1 (.string sx1) rfl
  have fx1_0_7 := (HB7.out.2.1).at 0 (.bool ny1) rfl
  have fx1_1_7 := (HB7.out.2.1).at 1 (.string sy1) rfl
  go_wp2_with fail
  refine (H4.out _).mono ?_
  rintro e w3 ⟨rfl, hb⟩
  have HL8 := Lib.hid (bstep HL7.out hb)
  have HB8 := Lib.hid (HB7.out.bel hb)
  clear hb
  clear HL7 HB7 fx0_0_5 fz0_0_5 fx0_1_5 fz0_1_5 fx1_0_6 fz1_0_6 fx1_1_6 fz1_1_6 fx0_0_7 fx0_1_7 fx1_0_7 fx1_1_7
  have HO3 := Lib.hid (show w.heap.size + 1 + 1 < w3.heap.size from by have := (HB8.out.1).lt; first | omega | (simp at this; omega))
  have HL9 := Lib.hid (HL8.out.alloc HL8.out.size (.cells #[.bool ng, .string sg] 23))
  have HB9 := Lib.hid (HB8.out.push (w3.heap.size) #[.bool ng, .string sg] 23 (by first | rfl | simp))
  clear HL8 HB8
  have fx0_0_9 := (HB9.out.2.2.2.1).at 0 (.bool nx1) rfl
  have fx0_1_9 := (HB9.out.2.2.2.1).at 1 (.string sx1) rfl
  have fx3_0_9 := (HB9.out.1).at 0 (.bool ng) rfl
  have fx3_1_9 := (HB9.out.1).at 1 (.string sg) rfl
  go_wp2_with fail
  refine (H5.out _).mono ?_
  rintro e w4 ⟨rfl, hb⟩
  have HL10 := Lib.hid (bstep HL9.out hb)
  have HB10 := Lib.hid (HB9.out.bel hb)
  clear hb
  clear HL9 HB9 fx0_0_9 fx0_1_9 fx3_0_9 fx3_1_9
  have fx0_0_10 := (HB10.out.2.2.2.1).at 0 (.bool nx1) rfl
  have fz0_0_10 := (HB10.out.2.2.2.1).z 0 (show 0 < 2 by decide)
  have fx0_1_10 := (HB10.out.2.2.2.1).at 1 (.string sx1) rfl
  have fz0_1_10 := (HB10.out.2.2.2.1).z 1 (show 1 < 2 by decide)
  have HL11 := Below.setCs (c := w.heap.size) (by have := HO0.out; have := HO1.out; have := HO2.out; have := HO3.out; omega) [.bool nx, .string sx] _ 0 HL10.out
  have HB11 := Bs.store (c := w.heap.size) [.bool nx, .string sx] 0 3 HB10.out (by simp only [Bs.ap, Bs.ap0, List.length_cons, List.length_nil, and_true, true_and]; have := HO0.out; have := HO1.out; have := HO2.out; have := HO3.out; omega)
  simp only [setCs, setL, Bs.put, List.set_cons_succ, List.set_cons_zero, Nat.zero_add, Nat.reduceAdd] at HL11 HB11
  replace HL11 := Lib.hid HL11
  replace HB11 := Lib.hid HB11
  clear HL10 HB10
  have fx1_0_11 := (HB11.out.2.2.1).at 0 (.bool ny1) rfl
  have fx1_1_11 := (HB11.out.2.2.1).at 1 (.string sy1) rfl
  have fx3_0_11 := (HB11.out.1).at 0 (.bool ng) rfl
  have fx3_1_11 := (HB11.out.1).at 1 (.string sg) rfl
  go_wp2_with fail
  refine (H6.out _).mono ?_
  rintro e w5 ⟨rfl, hb⟩
  have HL12 := Lib.hid (bstep HL11.out hb)
  have HB12 := Lib.hid (HB11.out.bel hb)
  clear hb
  clear HL11 HB11 fx0_0_10 fz0_0_10 fx0_1_10 fz0_1_10 fx1_0_11 fx1_1_11 fx3_0_11 fx3_1_11
  have fx1_0_12 := (HB12.out.2.2.1).at 0 (.bool ny1) rfl
  have fz1_0_12 := (HB12.out.2.2.1).z 0 (show 0 < 2 by decide)
  have fx1_1_12 := (HB12.out.2.2.1).at 1 (.string sy1) rfl
  have fz1_1_12 := (HB12.out.2.2.1).z 1 (show 1 < 2 by decide)
  have HL13 := Below.setCs (c := w.heap.size + 1) (by have := HO0.out; have := HO1.out; have := HO2.out; have := HO3.out; omega) [.bool ny, .string sy] _ 0 HL12.out
  have HB13 := Bs.store (c := w.heap.size + 1) [.bool ny, .string sy] 0 2 HB12.out (by simp only [Bs.ap, Bs.ap0, List.length_cons, List.length_nil, and_true, true_and]; have := HO0.out; have := HO1.out; have := HO2.out; have := HO3.out; omega)
  simp only [setCs, setL, Bs.put, List.set_cons_succ, List.set_cons_zero, Nat.zero_add, Nat.reduceAdd] at HL13 HB13
  replace HL13 := Lib.hid HL13
  replace HB13 := Lib.hid HB13
  clear HL12 HB12
  have fx0_0_13 := (HB13.out.2.2.2.1).at 0 (.bool nx) rfl
  have fx0_1_13 := (HB13.out.2.2.2.1).at 1 (.string sx) rfl
  have fx1_0_13 := (HB13.out.2.2.1).at 0 (.bool ny) rfl
  have fx1_1_13 := (HB13.out.2.2.1).at 1 (.string sy) rfl
  have fx2_0_13 := (HB13.out.2.1).at 0 (.bool false) rfl
  have fz2_0_13 := (HB13.out.2.1).z 0 (show 0 < 4 by decide)
  have fx2_1_13 := (HB13.out.2.1).at 1 (.string ⟨#[]⟩) rfl
  have fz2_1_13 := (HB13.out.2.1).z 1 (show 1 < 4 by decide)
  have fx2_2_13 := (HB13.out.2.1).at 2 (.bool false) rfl
  have fz2_2_13 := (HB13.out.2.1).z 2 (show 2 < 4 by decide)
  have fx2_3_13 := (HB13.out.2.1).at 3 (.string ⟨#[]⟩) rfl
  have fz2_3_13 := (HB13.out.2.1).z 3 (show 3 < 4 by decide)
  have HL14 := Below.setCs (c := w.heap.size + 1 + 1) (by have := HO0.out; have := HO1.out; have := HO2.out; have := HO3.out; omega) [.bool nx, .string sx, .bool ny, .string sy] _ 0 HL13.out
  have HB14 := Bs.store (c := w.heap.size + 1 + 1) [.bool nx, .string sx, .bool ny, .string sy] 0 1 HB13.out (by simp only [Bs.ap, Bs.ap0, List.length_cons, List.length_nil, and_true, true_and]; have := HO0.out; have := HO1.out; have := HO2.out; have := HO3.out; omega)
  simp only [setCs, setL, Bs.put, List.set_cons_succ, List.set_cons_zero, Nat.zero_add, Nat.reduceAdd] at HL14 HB14
  replace HL14 := Lib.hid HL14
  replace HB14 := Lib.hid HB14
  clear HL13 HB13
  have fx2_0_14 := (HB14.out.2.1).at 0 (.bool nx) rfl
  have fx2_1_14 := (HB14.out.2.1).at 1 (.string sx) rfl
  have fx2_2_14 := (HB14.out.2.1).at 2 (.bool ny) rfl
  have fx2_3_14 := (HB14.out.2.1).at 3 (.string sy) rfl
  go_wp2
  refine bodyPost_ret (v := .agg #[.bool nx, .string sx, .bool ny, .string sy]) (by simp [results, Tryz.results43, go_sem, fx2_0_14, fx2_1_14, fx2_2_14, fx2_3_14]) rfl ?_
  exact ⟨rfl, HL14.out⟩
end Go.Proofs.Gv

namespace Go.Proofs.Gv
open Go Go.RowKit

set_option maxRecDepth 100000 in
set_option maxHeartbeats 4000000 in
theorem rCanon_zero {ma no na : Bool} {ta so sa : ByteArray} (w : World)
    (H1 : ∀ W, Calls Tryz.prog 42 #[.agg #[.bool ma, .string ta]] W fun e w' => e = .returned (.int .i64 0) ∧ Below W.heap.size W w')
    (H2 : ∀ W, Calls Tryz.prog 49 #[] W fun e w' => e = .returned (.agg #[.bool no, .string so]) ∧ Below W.heap.size W w')
    : Calls Tryz.prog 47 #[.agg #[.bool na, .string sa, .bool ma, .string ta]] w fun e w' => e = .returned (.agg #[.bool false, .string ⟨#[]⟩, .bool no, .string so]) ∧ Below w.heap.size w w' := by
  replace H1 := Lib.hid H1
  replace H2 := Lib.hid H2
  go_enter Tryz.func47, Tryz.ntmps47
  have HL0 := Lib.hid (Below.refl w.heap.size w)
  have HB0 := Lib.hid (show Bs [] w from trivial)
  have HO0 := Lib.hid (show w.heap.size ≤ w.heap.size from by have := HL0.out.size; first | omega | (simp at this; omega))
  have HL1 := Lib.hid (HL0.out.alloc HL0.out.size (.cells #[.bool na, .string sa, .bool ma, .string ta] 25))
  have HB1 := Lib.hid (HB0.out.push (w.heap.size) #[.bool na, .string sa, .bool ma, .string ta] 25 (by first | rfl | simp))
  clear HL0 HB0
  have HO1 := Lib.hid (show w.heap.size < w.heap.size + 1 from by have := (HB1.out.1).lt; first | omega | (simp at this; omega))
  have HL2 := Lib.hid (HL1.out.alloc HL1.out.size (.cells #[.bool false, .string ⟨#[]⟩, .bool false, .string ⟨#[]⟩] 25))
  have HB2 := Lib.hid (HB1.out.push (w.heap.size + 1) #[.bool false, .string ⟨#[]⟩, .bool false, .string ⟨#[]⟩] 25 (by first | rfl | simp))
  clear HL1 HB1
  have fx0_2_2 := (HB2.out.2.1).at 2 (.bool ma) rfl
  have fx0_3_2 := (HB2.out.2.1).at 3 (.string ta) rfl
  go_wp2_with fail
  refine (H1.out _).mono ?_
  rintro e w1 ⟨rfl, hb⟩
  have HL3 := Lib.hid (bstep HL2.out hb)
  have HB3 := Lib.hid (HB2.out.bel hb)
  clear hb
  clear HL2 HB2 fx0_2_2 fx0_3_2
  go_wp2_with fail
  refine (H2.out _).mono ?_
  rintro e w2 ⟨rfl, hb⟩
  have HL4 := Lib.hid (bstep HL3.out hb)
  have HB4 := Lib.hid (HB3.out.bel hb)
  clear hb
  clear HL3 HB3
  have fx1_0_4 := (HB4.out.1).at 0 (.bool false) rfl
  have fz1_0_4 := (HB4.out.1).z 0 (show 0 < 4 by decide)
  have fx1_1_4 := (HB4.out.1).at 1 (.string ⟨#[]⟩) rfl
  have fz1_1_4 := (HB4.out.1).z 1 (show 1 < 4 by decide)
  have fx1_2_4 := (HB4.out.1).at 2 (.bool false) rfl
  have fz1_2_4 := (HB4.out.1).z 2 (show 2 < 4 by decide)
  have fx1_3_4 := (HB4.out.1).at 3 (.string ⟨#[]⟩) rfl
  have fz1_3_4 := (HB4.out.1).z 3 (show 3 < 4 by decide)
  have HL5 := Below.setCs (c := w.heap.size + 1) (by have := HO0.out; have := HO1.out; omega) [.bool false, .string ⟨#[]⟩, .bool no, .string so] _ 0 HL4.out
  have HB5 := Bs.store (c := w.heap.size + 1) [.bool false, .string ⟨#[]⟩, .bool no, .string so] 0 0 HB4.out (by simp only [Bs.ap, Bs.ap0, List.length_cons, List.length_nil, and_true, true_and]; have := HO0.out; have := HO1.out; omega)
  simp only [setCs, setL, Bs.put, List.set_cons_succ, List.set_cons_zero, Nat.zero_add, Nat.reduceAdd] at HL5 HB5
  replace HL5 := Lib.hid HL5
  replace HB5 := Lib.hid HB5
  clear HL4 HB4
  have fx1_0_5 := (HB5.out.1).at 0 (.bool false) rfl
  have fx1_1_5 := (HB5.out.1).at 1 (.string ⟨#[]⟩) rfl
  have fx1_2_5 := (HB5.out.1).at 2 (.bool no) rfl
  have fx1_3_5 := (HB5.out.1).at 3 (.string so) rfl
  go_wp2
  refine bodyPost_ret (v := .agg #[.bool false, .string ⟨#[]⟩, .bool no, .string so]) (by simp [results, Tryz.results47, go_sem, fx1_0_5, fx1_1_5, fx1_2_5, fx1_3_5]) rfl ?_
  exact ⟨rfl, HL5.out⟩
end Go.Proofs.Gv

namespace Go.Proofs.Gv
open Go Go.RowKit

set_option maxRecDepth 100000 in
set_option maxHeartbeats 4000000 in
theorem rCanon_w {ma na nr mr : Bool} {ta sa sr tr : ByteArray} (c1 : Int) (h1 : (c1 == 0) = false) (w : World)
    (H1 : ∀ W, Calls Tryz.prog 42 #[.agg #[.bool ma, .string ta]] W fun e w' => e = .returned (.int .i64 c1) ∧ Below W.heap.size W w')
    (H2 : ∀ W, Calls Tryz.prog 43 #[.agg #[.bool na, .string sa], .agg #[.bool ma, .string ta]] W fun e w' => e = .returned (.agg #[.bool nr, .string sr, .bool mr, .string tr]) ∧ Below W.heap.size W w')
    : Calls Tryz.prog 47 #[.agg #[.bool na, .string sa, .bool ma, .string ta]] w fun e w' => e = .returned (.agg #[.bool nr, .string sr, .bool mr, .string tr]) ∧ Below w.heap.size w w' := by
  replace H1 := Lib.hid H1
  replace H2 := Lib.hid H2
  go_enter Tryz.func47, Tryz.ntmps47
  have HL0 := Lib.hid (Below.refl w.heap.size w)
  have HB0 := Lib.hid (show Bs [] w from trivial)
  have HO0 := Lib.hid (show w.heap.size ≤ w.heap.size from by have := HL0.out.size; first | omega | (simp at this; omega))
  have HL1 := Lib.hid (HL0.out.alloc HL0.out.size (.cells #[.bool na, .string sa, .bool ma, .string ta] 25))
  have HB1 := Lib.hid (HB0.out.push (w.heap.size) #[.bool na, .string sa, .bool ma, .string ta] 25 (by first | rfl | simp))
  clear HL0 HB0
  have HO1 := Lib.hid (show w.heap.size < w.heap.size + 1 from by have := (HB1.out.1).lt; first | omega | (simp at this; omega))
  have HL2 := Lib.hid (HL1.out.alloc HL1.out.size (.cells #[.bool false, .string ⟨#[]⟩, .bool false, .string ⟨#[]⟩] 25))
  have HB2 := Lib.hid (HB1.out.push (w.heap.size + 1) #[.bool false, .string ⟨#[]⟩, .bool false, .string ⟨#[]⟩] 25 (by first | rfl | simp))
  clear HL1 HB1
  have fx0_2_2 := (HB2.out.2.1).at 2 (.bool ma) rfl
  have fx0_3_2 := (HB2.out.2.1).at 3 (.string ta) rfl
  go_wp2_with fail
  refine (H1.out _).mono ?_
  rintro e w1 ⟨rfl, hb⟩
  have HL3 := Lib.hid (bstep HL2.out hb)
  have HB3 := Lib.hid (HB2.out.bel hb)
  clear hb
  clear HL2 HB2 fx0_2_2 fx0_3_2
  have fx0_0_3 := (HB3.out.2.1).at 0 (.bool na) rfl
  have fx0_1_3 := (HB3.out.2.1).at 1 (.string sa) rfl
  have fx0_2_3 := (HB3.out.2.1).at 2 (.bool ma) rfl
  have fx0_3_3 := (HB3.out.2.1).at 3 (.string ta) rfl
  go_wp2_with fail
  refine (H2.out _).mono ?_
  rintro e w2 ⟨rfl, hb⟩
  have HL4 := Lib.hid (bstep HL3.out hb)
  have HB4 := Lib.hid (HB3.out.bel hb)
  clear hb
  clear HL3 HB3 fx0_0_3 fx0_1_3 fx0_2_3 fx0_3_3
  have fx1_0_4 := (HB4.out.1).at 0 (.bool false) rfl
  have fz1_0_4 := (HB4.out.1).z 0 (show 0 < 4 by decide)
  have fx1_1_4 := (HB4.out.1).at 1 (.string ⟨#[]⟩) rfl
  have fz1_1_4 := (HB4.out.1).z 1 (show 1 < 4 by decide)
  have fx1_2_4 := (HB4.out.1).at 2 (.bool false) rfl
  have fz1_2_4 := (HB4.out.1).z 2 (show 2 < 4 by decide)
  have fx1_3_4 := (HB4.out.1).at 3 (.string ⟨#[]⟩) rfl
  have fz1_3_4 := (HB4.out.1).z 3 (show 3 < 4 by decide)
  have HL5 := Below.setCs (c := w.heap.size + 1) (by have := HO0.out; have := HO1.out; omega) [.bool nr, .string sr, .bool mr, .string tr] _ 0 HL4.out
  have HB5 := Bs.store (c := w.heap.size + 1) [.bool nr, .string sr, .bool mr, .string tr] 0 0 HB4.out (by simp only [Bs.ap, Bs.ap0, List.length_cons, List.length_nil, and_true, true_and]; have := HO0.out; have := HO1.out; omega)
  simp only [setCs, setL, Bs.put, List.set_cons_succ, List.set_cons_zero, Nat.zero_add, Nat.reduceAdd] at HL5 HB5
  replace HL5 := Lib.hid HL5
  replace HB5 := Lib.hid HB5
  clear HL4 HB4
  have fx1_0_5 := (HB5.out.1).at 0 (.bool nr) rfl
  have fx1_1_5 := (HB5.out.1).at 1 (.string sr) rfl
  have fx1_2_5 := (HB5.out.1).at 2 (.bool mr) rfl
  have fx1_3_5 := (HB5.out.1).at 3 (.string tr) rfl
  go_wp2
  refine bodyPost_ret (v := .agg #[.bool nr, .string sr, .bool mr, .string tr]) (by simp [results, Tryz.results47, go_sem, fx1_0_5, fx1_1_5, fx1_2_5, fx1_3_5]) rfl ?_
  exact ⟨rfl, HL5.out⟩
end Go.Proofs.Gv

namespace Go.Proofs.Gv
open Go Go.RowKit

set_option maxRecDepth 100000 in
set_option maxHeartbeats 4000000 in
theorem rRatCheck_ok {na ma : Bool} {sa ta : ByteArray} (w : World)
    (H1 : ∀ W, Calls Tryz.prog 47 #[.agg #[.bool na, .string sa, .bool ma, .string ta]] W fun e w' => e = .returned (.agg #[.bool na, .string sa, .bool ma, .string ta]) ∧ Below W.heap.size W w')
    : Calls Tryz.prog 14 #[.agg #[.bool na, .string sa, .bool ma, .string ta]] w fun e w' => e = .returned (.int .i64 0) ∧ Below w.heap.size w w' := by
  replace H1 := Lib.hid H1
  have hq : eqQ na sa ma ta na sa ma ta = true := eqQ_iff.2 ⟨⟨rfl, rfl⟩, ⟨rfl, rfl⟩⟩
  go_enter Tryz.func14, Tryz.ntmps14
  have HL0 := Lib.hid (Below.refl w.heap.size w)
  have HB0 := Lib.hid (show Bs [] w from trivial)
  have HO0 := Lib.hid (show w.heap.size ≤ w.heap.size from by have := HL0.out.size; first | omega | (simp at this; omega))
  have HL1 := Lib.hid (HL0.out.alloc HL0.out.size (.cells #[.bool na, .string sa, .bool ma, .string ta] 25))
  have HB1 := Lib.hid (HB0.out.push (w.heap.size) #[.bool na, .string sa, .bool ma, .string ta] 25 (by first | rfl | simp))
  clear HL0 HB0
  go_wp2_with fail
  obtain ⟨W1, hW⟩ : ∃ W, (w.alloc (.cells #[.bool na, .string sa, .bool ma, .string ta] 25)) = W := ⟨_, rfl⟩
  rw [hW] at HB1 HL1 ⊢
  clear hW
  haveI := cls_some W1
  have fq0_0 : ∀ u : Cl W1, u.x.cell? ⟨w.heap.size, 0, none⟩ = some (.bool na) := fun u => ((HB1.out.bel u.h).1).at 0 (.bool na) rfl
  have fq0_1 : ∀ u : Cl W1, u.x.cell? ⟨w.heap.size, 1, none⟩ = some (.string sa) := fun u => ((HB1.out.bel u.h).1).at 1 (.string sa) rfl
  have fq0_2 : ∀ u : Cl W1, u.x.cell? ⟨w.heap.size, 2, none⟩ = some (.bool ma) := fun u => ((HB1.out.bel u.h).1).at 2 (.bool ma) rfl
  have fq0_3 : ∀ u : Cl W1, u.x.cell? ⟨w.heap.size, 3, none⟩ = some (.string ta) := fun u => ((HB1.out.bel u.h).1).at 3 (.string ta) rfl
  refine wp_region_cls (by kernel_rfl) ?_
  iterate 1 (go_big_quiet_step (fail))
  go_big_quiet_step ((go_at_call 47; exact quiet_cls H1.out _))
  iterate 2 (go_big_quiet_step (fail))
  refine wpQuiet_nil ?_
  intro w2 hw9
  have hb : Below W1.heap.size W1 w2 := by obtain ⟨u, rfl⟩ := hw9; exact u.h
  clear hw9 this fq0_0 fq0_1 fq0_2 fq0_3
  have HL2 := Lib.hid (bstep HL1.out hb)
  have HB2 := Lib.hid (HB1.out.bel hb)
  clear hb
  clear HL1 HB1
  go_wp2
  go_ret
  exact ⟨rfl, HL2.out⟩
end Go.Proofs.Gv

namespace Go.Proofs.Gv
open Go Go.RowKit

set_option maxRecDepth 100000 in
set_option maxHeartbeats 4000000 in
theorem rRatCheck_no (na nc ma mc : Bool) (sa sc ta tc : ByteArray) (hq : eqQ nc sc mc tc na sa ma ta = false) (w : World)
    (H1 : ∀ W, Calls Tryz.prog 47 #[.agg #[.bool na, .string sa, .bool ma, .string ta]] W fun e w' => e = .returned (.agg #[.bool nc, .string sc, .bool mc, .string tc]) ∧ Below W.heap.size W w')
    : Calls Tryz.prog 14 #[.agg #[.bool na, .string sa, .bool ma, .string ta]] w fun e w' => e = .returned (.int .i64 1) ∧ Below w.heap.size w w' := by
  replace H1 := Lib.hid H1
  go_enter Tryz.func14, Tryz.ntmps14
  have HL0 := Lib.hid (Below.refl w.heap.size w)
  have HB0 := Lib.hid (show Bs [] w from trivial)
  have HO0 := Lib.hid (show w.heap.size ≤ w.heap.size from by have := HL0.out.size; first | omega | (simp at this; omega))
  have HL1 := Lib.hid (HL0.out.alloc HL0.out.size (.cells #[.bool na, .string sa, .bool ma, .string ta] 25))
  have HB1 := Lib.hid (HB0.out.push (w.heap.size) #[.bool na, .string sa, .bool ma, .string ta] 25 (by first | rfl | simp))
  clear HL0 HB0
  go_wp2_with fail
  obtain ⟨W1, hW⟩ : ∃ W, (w.alloc (.cells #[.bool na, .string sa, .bool ma, .string ta] 25)) = W := ⟨_, rfl⟩
  rw [hW] at HB1 HL1 ⊢
  clear hW
  haveI := cls_some W1
  have fq0_0 : ∀ u : Cl W1, u.x.cell? ⟨w.heap.size, 0, none⟩ = some (.bool na) := fun u => ((HB1.out.bel u.h).1).at 0 (.bool na) rfl
  have fq0_1 : ∀ u : Cl W1, u.x.cell? ⟨w.heap.size, 1, none⟩ = some (.string sa) := fun u => ((HB1.out.bel u.h).1).at 1 (.string sa) rfl
  have fq0_2 : ∀ u : Cl W1, u.x.cell? ⟨w.heap.size, 2, none⟩ = some (.bool ma) := fun u => ((HB1.out.bel u.h).1).at 2 (.bool ma) rfl
  have fq0_3 : ∀ u : Cl W1, u.x.cell? ⟨w.heap.size, 3, none⟩ = some (.string ta) := fun u => ((HB1.out.bel u.h).1).at 3 (.string ta) rfl
  refine wp_region_cls (by kernel_rfl) ?_
  iterate 1 (go_big_quiet_step (fail))
  go_big_quiet_step ((go_at_call 47; exact quiet_cls H1.out _))
  iterate 2 (go_big_quiet_step (fail))
  refine wpQuiet_nil ?_
  intro w2 hw9
  have hb : Below W1.heap.size W1 w2 := by obtain ⟨u, rfl⟩ := hw9; exact u.h
  clear hw9 this fq0_0 fq0_1 fq0_2 fq0_3
  have HL2 := Lib.hid (bstep HL1.out hb)
  have HB2 := Lib.hid (HB1.out.bel hb)
  clear hb
  clear HL1 HB1
  go_wp2
  go_ret
  exact ⟨rfl, HL2.out⟩
end Go.Proofs.Gv
