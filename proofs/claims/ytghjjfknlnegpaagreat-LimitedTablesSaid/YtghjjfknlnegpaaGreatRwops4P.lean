/- Layer 02: functions of rational, walked over the results of what they call (printed by gen02a.py). -/
import Derived.Test.YtghjjfknlnegpaaGreatRwlow3P
set_option linter.unusedSimpArgs false
set_option linter.unusedVariables false
namespace Go.Proofs.Gv
open Go Go.RowKit

set_option maxRecDepth 100000 in
set_option maxHeartbeats 4000000 in
theorem lowN_w {nb na nx1 ny1 ng nx nxr ny nyr : Bool} {sb sa sx1 sy1 sg sx sxr sy syr : ByteArray} {ex ey : Int} (c1 : Int) (h1 : (c1 == 0) = false) (h3 : c1 < 0) (c2 : Int) (h2 : (c2 == 0) = false) (w : World)
    (H1 : ∀ W, Calls Tryz.prog 66 #[.agg #[.bool nb, .string sb], .agg #[.bool false, .string ⟨#[]⟩]] W fun e w' => e = .returned (.int .i64 c1) ∧ Below W.heap.size W w')
    (H2 : ∀ W, Calls Tryz.prog 66 #[.agg #[.bool na, .string sa], .agg #[.bool false, .string ⟨#[]⟩]] W fun e w' => e = .returned (.int .i64 c2) ∧ Below W.heap.size W w')
    (H3 : ∀ W, Calls Tryz.prog 72 #[.agg #[.bool na, .string sa]] W fun e w' => e = .returned (.agg #[.bool nx1, .string sx1]) ∧ Below W.heap.size W w')
    (H4 : ∀ W, Calls Tryz.prog 72 #[.agg #[.bool nb, .string sb]] W fun e w' => e = .returned (.agg #[.bool ny1, .string sy1]) ∧ Below W.heap.size W w')
    (H5 : ∀ W, Calls Tryz.prog 121 #[.agg #[.bool nx1, .string sx1], .agg #[.bool ny1, .string sy1]] W fun e w' => e = .returned (.agg #[.bool ng, .string sg]) ∧ Below W.heap.size W w')
    (H6 : ∀ W, Calls Tryz.prog 122 #[.agg #[.bool nx1, .string sx1], .agg #[.bool ng, .string sg]] W fun e w' => e = .returned (.tuple #[.agg #[.bool nx, .string sx], .agg #[.bool nxr, .string sxr], .int .i64 ex]) ∧ Below W.heap.size W w')
    (H7 : ∀ W, Calls Tryz.prog 122 #[.agg #[.bool ny1, .string sy1], .agg #[.bool ng, .string sg]] W fun e w' => e = .returned (.tuple #[.agg #[.bool ny, .string sy], .agg #[.bool nyr, .string syr], .int .i64 ey]) ∧ Below W.heap.size W w')
    : Calls Tryz.prog 116 #[.agg #[.bool na, .string sa], .agg #[.bool nb, .string sb]] w fun e w' => e = .returned (.agg #[.bool nx, .string sx, .bool ny, .string sy]) ∧ Below w.heap.size w w' := by
  replace H1 := Lib.hid H1
  replace H2 := Lib.hid H2
  replace H3 := Lib.hid H3
  replace H4 := Lib.hid H4
  replace H5 := Lib.hid H5
  replace H6 := Lib.hid H6
  replace H7 := Lib.hid H7
  go_enter Tryz.func116, Tryz.ntmps116
  have HL0 := Lib.hid (Below.refl w.heap.size w)
  have HB0 := Lib.hid (show Bs [] w from trivial)
  have HO0 := Lib.hid (show w.heap.size ≤ w.heap.size from by have := HL0.out.size; first | omega | (simp at this; omega))
  have HL1 := Lib.hid (HL0.out.alloc HL0.out.size (.cells #[.bool na, .string sa] 29))
  have HB1 := Lib.hid (HB0.out.push (w.heap.size) #[.bool na, .string sa] 29 (by first | rfl | simp))
  clear HL0 HB0
  have HO1 := Lib.hid (show w.heap.size < w.heap.size + 1 from by have := (HB1.out.1).lt; first | omega | (simp at this; omega))
  have HL2 := Lib.hid (HL1.out.alloc HL1.out.size (.cells #[.bool nb, .string sb] 29))
  have HB2 := Lib.hid (HB1.out.push (w.heap.size + 1) #[.bool nb, .string sb] 29 (by first | rfl | simp))
  clear HL1 HB1
  have HO2 := Lib.hid (show w.heap.size + 1 < w.heap.size + 1 + 1 from by have := (HB2.out.1).lt; first | omega | (simp at this; omega))
  have HL3 := Lib.hid (HL2.out.alloc HL2.out.size (.cells #[.bool false, .string ⟨#[]⟩, .bool false, .string ⟨#[]⟩] 108))
  have HB3 := Lib.hid (HB2.out.push (w.heap.size + 1 + 1) #[.bool false, .string ⟨#[]⟩, .bool false, .string ⟨#[]⟩] 108 (by first | rfl | simp))
  clear HL2 HB2
  have fx1_0_3 := (HB3.out.2.1).at 0 (.bool nb) rfl
  have fx1_1_3 := (HB3.out.2.1).at 1 (.string sb) rfl
  go_wp2_with fail
  refine (H1.out _).mono ?_
  rintro e w1 ⟨rfl, hb⟩
  have HL4 := Lib.hid (bstep HL3.out hb)
  have HB4 := Lib.hid (HB3.out.bel hb)
  clear hb
  clear HL3 HB3 fx1_0_3 fx1_1_3
  have fx0_0_4 := (HB4.out.2.2.1).at 0 (.bool na) rfl
  have fx0_1_4 := (HB4.out.2.2.1).at 1 (.string sa) rfl
  go_wp2_with fail
  refine (H2.out _).mono ?_
  rintro e w2 ⟨rfl, hb⟩
  have HL5 := Lib.hid (bstep HL4.out hb)
  have HB5 := Lib.hid (HB4.out.bel hb)
  clear hb
  clear HL4 HB4 fx0_0_4 fx0_1_4
  go_wp2_with fail
  refine wp_region_front 4 zvQ (by kernel_rfl) shQ (by kernel_rfl) (by kernel_rfl) (zvQ_alloc _ (by kernel_rfl)) (shQ_store _ (by kernel_rfl)) ?_
  intro mm BW hm1 hm2 hBW
  haveI := clm_some mm BW
  have fq0_0 : ∀ u : Clm mm BW, u.x.cell? ⟨w.heap.size, 0, none⟩ = some (.bool na) := fun u => ((HB5.out.bel (u.old hm1 hBW)).2.2.1).at 0 (.bool na) rfl
  have fq0_1 : ∀ u : Clm mm BW, u.x.cell? ⟨w.heap.size, 1, none⟩ = some (.string sa) := fun u => ((HB5.out.bel (u.old hm1 hBW)).2.2.1).at 1 (.string sa) rfl
  have fq1_0 : ∀ u : Clm mm BW, u.x.cell? ⟨w.heap.size + 1, 0, none⟩ = some (.bool nb) := fun u => ((HB5.out.bel (u.old hm1 hBW)).2.1).at 0 (.bool nb) rfl
  have fq1_1 : ∀ u : Clm mm BW, u.x.cell? ⟨w.heap.size + 1, 1, none⟩ = some (.string sb) := fun u => ((HB5.out.bel (u.old hm1 hBW)).2.1).at 1 (.string sb) rfl
  simp only [frontOf, unmade, List.take_succ_cons, List.take_zero, List.map_cons, List.map_nil]
  iterate 1 (go_big_quiet_step (fail))
  go_big_quiet_step ((go_at_call 72; exact quiet_clm hm2 H3.out _))
  iterate 1 (go_big_quiet_step (fail))
  go_big_quiet_step ((go_at_call 72; exact quiet_clm hm2 H4.out _))
  refine wpQuiet_nil ?_
  refine ⟨List.forall_mem_nil _, ?_⟩
  intro γ w3 hb hF
  clear hBW this hm1 hm2 fq0_0 fq0_1 fq1_0 fq1_1
  clear BW mm
  simp only [madesFrom, Facts, patch, List.take_succ_cons, List.take_zero, List.drop_succ_cons, List.drop_zero, Nat.zero_add, Nat.reduceAdd, List.mem_cons, List.not_mem_nil, or_false, forall_eq, forall_eq_or_imp, false_imp_iff, implies_true, and_true] at hF ⊢
  have HL6 := Lib.hid (bstep HL5.out hb)
  have HB6 := Lib.hid (HB5.out.bel hb)
  clear hb  hF
  clear HL5 HB5
  have fx0_0_6 := (HB6.out.2.2.1).at 0 (.bool na) rfl
  have fz0_0_6 := (HB6.out.2.2.1).z 0 (show 0 < 2 by decide)
  have fx0_1_6 := (HB6.out.2.2.1).at 1 (.string sa) rfl
  have fz0_1_6 := (HB6.out.2.2.1).z 1 (show 1 < 2 by decide)
  have HL7 := Below.setCs (c := w.heap.size) (by have := HO0.out; have := HO1.out; have := HO2.out; omega) [.bool nx1, .string sx1] _ 0 HL6.out
  have HB7 := Bs.store (c := w.heap.size) [.bool nx1, .string sx1] 0 2 HB6.out (by simp only [Bs.ap, Bs.ap0, List.length_cons, List.length_nil, and_true, true_and]; have := HO0.out; have := HO1.out; have := HO2.out; omega)
  simp only [setCs, setL, Bs.put, List.set_cons_succ, List.set_cons_zero, Nat.zero_add, Nat.reduceAdd] at HL7 HB7
  replace HL7 := Lib.hid HL7
  replace HB7 := Lib.hid HB7
  clear HL6 HB6
  have fx1_0_7 := (HB7.out.2.1).at 0 (.bool nb) rfl
  have fz1_0_7 := (HB7.out.2.1).z 0 (show 0 < 2 by decide)
  have fx1_1_7 := (HB7.out.2.1).at 1 (.string sb) rfl
  have fz1_1_7 := (HB7.out.2.1).z 1 (show 1 < 2 by decide)
  have HL8 := Below.setCs (c := w.heap.size + 1) (by have := HO0.out; have := HO1.out; have := HO2.out; omega) [.bool ny1, .string sy1] _ 0 HL7.out
  have HB8 := Bs.store (c := w.heap.size + 1) [.bool ny1, .string sy1] 0 1 HB7.out (by simp only [Bs.ap, Bs.ap0, List.length_cons, List.length_nil, and_true, true_and]; have := HO0.out; have := HO1.out; have := HO2.out; omega)
  simp only [setCs, setL, Bs.put, List.set_cons_succ, List.set_cons_zero, Nat.zero_add, Nat.reduceAdd] at HL8 HB8
  replace HL8 := Lib.hid HL8
  replace HB8 := Lib.hid HB8
  clear HL7 HB7
  have fx0_0_8 := (HB8.out.2.2.1).at 0 (.bool nx1) rfl
  have fx0_1_8 := (HB8.out.2.2.1).at 1 (.string sx1) rfl
  have fx1_0_8 := (HB8.out.2.1).at 0 (.bool ny1) rfl
  have fx1_1_8 := (HB8.out.2.1).at 1 (.string sy1) rfl
  go_wp2_with fail
  refine (H5.out _).mono ?_
  rintro e w4 ⟨rfl, hb⟩
  have HL9 := Lib.hid (bstep HL8.out hb)
  have HB9 := Lib.hid (HB8.out.bel hb)
  clear hb
  clear HL8 HB8 fx0_0_6 fz0_0_6 fx0_1_6 fz0_1_6 fx1_0_7 fz1_0_7 fx1_1_7 fz1_1_7 fx0_0_8 fx0_1_8 fx1_0_8 fx1_1_8
  have HO3 := Lib.hid (show w.heap.size + 1 + 1 < w4.heap.size from by have := (HB9.out.1).lt; first | omega | (simp at this; omega))
  have HL10 := Lib.hid (HL9.out.alloc HL9.out.size (.cells #[.bool ng, .string sg] 29))
  have HB10 := Lib.hid (HB9.out.push (w4.heap.size) #[.bool ng, .string sg] 29 (by first | rfl | simp))
  clear HL9 HB9
  have fx0_0_10 := (HB10.out.2.2.2.1).at 0 (.bool nx1) rfl
  have fx0_1_10 := (HB10.out.2.2.2.1).at 1 (.string sx1) rfl
  have fx3_0_10 := (HB10.out.1).at 0 (.bool ng) rfl
  have fx3_1_10 := (HB10.out.1).at 1 (.string sg) rfl
  go_wp2_with fail
  refine (H6.out _).mono ?_
  rintro e w5 ⟨rfl, hb⟩
  have HL11 := Lib.hid (bstep HL10.out hb)
  have HB11 := Lib.hid (HB10.out.bel hb)
  clear hb
  clear HL10 HB10 fx0_0_10 fx0_1_10 fx3_0_10 fx3_1_10
  have HO4 := Lib.hid (show w4.heap.size < w5.heap.size from by have := (HB11.out.1).lt; first | omega | (simp at this; omega))
  have HL12 := Lib.hid (HL11.out.alloc HL11.out.size (.cells #[.bool nx, .string sx] 29))
  have HB12 := Lib.hid (HB11.out.push (w5.heap.size) #[.bool nx, .string sx] 29 (by first | rfl | simp))
  clear HL11 HB11
  have HO5 := Lib.hid (show w5.heap.size < w5.heap.size + 1 from by have := (HB12.out.1).lt; first | omega | (simp at this; omega))
  have HL13 := Lib.hid (HL12.out.alloc HL12.out.size (.cells #[.bool nxr, .string sxr] 29))
  have HB13 := Lib.hid (HB12.out.push (w5.heap.size + 1) #[.bool nxr, .string sxr] 29 (by first | rfl | simp))
  clear HL12 HB12
  have fx1_0_13 := (HB13.out.2.2.2.2.1).at 0 (.bool ny1) rfl
  have fx1_1_13 := (HB13.out.2.2.2.2.1).at 1 (.string sy1) rfl
  have fx3_0_13 := (HB13.out.2.2.1).at 0 (.bool ng) rfl
  have fx3_1_13 := (HB13.out.2.2.1).at 1 (.string sg) rfl
  go_wp2_with fail
  refine (H7.out _).mono ?_
  rintro e w6 ⟨rfl, hb⟩
  have HL14 := Lib.hid (bstep HL13.out hb)
  have HB14 := Lib.hid (HB13.out.bel hb)
  clear hb
  clear HL13 HB13 fx1_0_13 fx1_1_13 fx3_0_13 fx3_1_13
  have HO6 := Lib.hid (show w5.heap.size + 1 < w6.heap.size from by have := (HB14.out.1).lt; first | omega | (simp at this; omega))
  have HL15 := Lib.hid (HL14.out.alloc HL14.out.size (.cells #[.bool ny, .string sy] 29))
  have HB15 := Lib.hid (HB14.out.push (w6.heap.size) #[.bool ny, .string sy] 29 (by first | rfl | simp))
  clear HL14 HB14
  have HO7 := Lib.hid (show w6.heap.size < w6.heap.size + 1 from by have := (HB15.out.1).lt; first | omega | (simp at this; omega))
  have HL16 := Lib.hid (HL15.out.alloc HL15.out.size (.cells #[.bool nyr, .string syr] 29))
  have HB16 := Lib.hid (HB15.out.push (w6.heap.size + 1) #[.bool nyr, .string syr] 29 (by first | rfl | simp))
  clear HL15 HB15
  have fx4_0_16 := (HB16.out.2.2.2.1).at 0 (.bool nx) rfl
  have fx4_1_16 := (HB16.out.2.2.2.1).at 1 (.string sx) rfl
  have fx6_0_16 := (HB16.out.2.1).at 0 (.bool ny) rfl
  have fx6_1_16 := (HB16.out.2.1).at 1 (.string sy) rfl
  have fx2_0_16 := (HB16.out.2.2.2.2.2.1).at 0 (.bool false) rfl
  have fz2_0_16 := (HB16.out.2.2.2.2.2.1).z 0 (show 0 < 4 by decide)
  have fx2_1_16 := (HB16.out.2.2.2.2.2.1).at 1 (.string ⟨#[]⟩) rfl
  have fz2_1_16 := (HB16.out.2.2.2.2.2.1).z 1 (show 1 < 4 by decide)
  have fx2_2_16 := (HB16.out.2.2.2.2.2.1).at 2 (.bool false) rfl
  have fz2_2_16 := (HB16.out.2.2.2.2.2.1).z 2 (show 2 < 4 by decide)
  have fx2_3_16 := (HB16.out.2.2.2.2.2.1).at 3 (.string ⟨#[]⟩) rfl
  have fz2_3_16 := (HB16.out.2.2.2.2.2.1).z 3 (show 3 < 4 by decide)
  have HL17 := Below.setCs (c := w.heap.size + 1 + 1) (by have := HO0.out; have := HO1.out; have := HO2.out; have := HO3.out; have := HO4.out; have := HO5.out; have := HO6.out; have := HO7.out; omega) [.bool nx, .string sx, .bool ny, .string sy] _ 0 HL16.out
  have HB17 := Bs.store (c := w.heap.size + 1 + 1) [.bool nx, .string sx, .bool ny, .string sy] 0 5 HB16.out (by simp only [Bs.ap, Bs.ap0, List.length_cons, List.length_nil, and_true, true_and]; have := HO0.out; have := HO1.out; have := HO2.out; have := HO3.out; have := HO4.out; have := HO5.out; have := HO6.out; have := HO7.out; omega)
  simp only [setCs, setL, Bs.put, List.set_cons_succ, List.set_cons_zero, Nat.zero_add, Nat.reduceAdd] at HL17 HB17
  replace HL17 := Lib.hid HL17
  replace HB17 := Lib.hid HB17
  clear HL16 HB16
  have fx2_0_17 := (HB17.out.2.2.2.2.2.1).at 0 (.bool nx) rfl
  have fx2_1_17 := (HB17.out.2.2.2.2.2.1).at 1 (.string sx) rfl
  have fx2_2_17 := (HB17.out.2.2.2.2.2.1).at 2 (.bool ny) rfl
  have fx2_3_17 := (HB17.out.2.2.2.2.2.1).at 3 (.string sy) rfl
  go_wp2
  refine bodyPost_ret (v := .agg #[.bool nx, .string sx, .bool ny, .string sy]) (by simp [results, Tryz.results116, go_sem, fx2_0_17, fx2_1_17, fx2_2_17, fx2_3_17]) rfl ?_
  exact ⟨rfl, HL17.out⟩
end Go.Proofs.Gv

namespace Go.Proofs.Gv
open Go Go.RowKit

set_option maxRecDepth 100000 in
set_option maxHeartbeats 4000000 in
theorem canon_w {na ma nr mr : Bool} {sa ta sr tr : ByteArray} (w : World)
    (H1 : ∀ W, Calls Tryz.prog 116 #[.agg #[.bool na, .string sa], .agg #[.bool ma, .string ta]] W fun e w' => e = .returned (.agg #[.bool nr, .string sr, .bool mr, .string tr]) ∧ Below W.heap.size W w')
    : Calls Tryz.prog 104 #[.agg #[.bool na, .string sa, .bool ma, .string ta]] w fun e w' => e = .returned (.agg #[.bool nr, .string sr, .bool mr, .string tr]) ∧ Below w.heap.size w w' := by
  replace H1 := Lib.hid H1
  go_enter Tryz.func104, Tryz.ntmps104
  have HL0 := Lib.hid (Below.refl w.heap.size w)
  have HB0 := Lib.hid (show Bs [] w from trivial)
  have HO0 := Lib.hid (show w.heap.size ≤ w.heap.size from by have := HL0.out.size; first | omega | (simp at this; omega))
  have HL1 := Lib.hid (HL0.out.alloc HL0.out.size (.cells #[.bool na, .string sa, .bool ma, .string ta] 108))
  have HB1 := Lib.hid (HB0.out.push (w.heap.size) #[.bool na, .string sa, .bool ma, .string ta] 108 (by first | rfl | simp))
  clear HL0 HB0
  have HO1 := Lib.hid (show w.heap.size < w.heap.size + 1 from by have := (HB1.out.1).lt; first | omega | (simp at this; omega))
  have HL2 := Lib.hid (HL1.out.alloc HL1.out.size (.cells #[.bool false, .string ⟨#[]⟩, .bool false, .string ⟨#[]⟩] 108))
  have HB2 := Lib.hid (HB1.out.push (w.heap.size + 1) #[.bool false, .string ⟨#[]⟩, .bool false, .string ⟨#[]⟩] 108 (by first | rfl | simp))
  clear HL1 HB1
  have fx0_0_2 := (HB2.out.2.1).at 0 (.bool na) rfl
  have fx0_1_2 := (HB2.out.2.1).at 1 (.string sa) rfl
  have fx0_2_2 := (HB2.out.2.1).at 2 (.bool ma) rfl
  have fx0_3_2 := (HB2.out.2.1).at 3 (.string ta) rfl
  go_wp2_with fail
  refine (H1.out _).mono ?_
  rintro e w1 ⟨rfl, hb⟩
  have HL3 := Lib.hid (bstep HL2.out hb)
  have HB3 := Lib.hid (HB2.out.bel hb)
  clear hb
  clear HL2 HB2 fx0_0_2 fx0_1_2 fx0_2_2 fx0_3_2
  have fx1_0_3 := (HB3.out.1).at 0 (.bool false) rfl
  have fz1_0_3 := (HB3.out.1).z 0 (show 0 < 4 by decide)
  have fx1_1_3 := (HB3.out.1).at 1 (.string ⟨#[]⟩) rfl
  have fz1_1_3 := (HB3.out.1).z 1 (show 1 < 4 by decide)
  have fx1_2_3 := (HB3.out.1).at 2 (.bool false) rfl
  have fz1_2_3 := (HB3.out.1).z 2 (show 2 < 4 by decide)
  have fx1_3_3 := (HB3.out.1).at 3 (.string ⟨#[]⟩) rfl
  have fz1_3_3 := (HB3.out.1).z 3 (show 3 < 4 by decide)
  have HL4 := Below.setCs (c := w.heap.size + 1) (by have := HO0.out; have := HO1.out; omega) [.bool nr, .string sr, .bool mr, .string tr] _ 0 HL3.out
  have HB4 := Bs.store (c := w.heap.size + 1) [.bool nr, .string sr, .bool mr, .string tr] 0 0 HB3.out (by simp only [Bs.ap, Bs.ap0, List.length_cons, List.length_nil, and_true, true_and]; have := HO0.out; have := HO1.out; omega)
  simp only [setCs, setL, Bs.put, List.set_cons_succ, List.set_cons_zero, Nat.zero_add, Nat.reduceAdd] at HL4 HB4
  replace HL4 := Lib.hid HL4
  replace HB4 := Lib.hid HB4
  clear HL3 HB3
  have fx1_0_4 := (HB4.out.1).at 0 (.bool nr) rfl
  have fx1_1_4 := (HB4.out.1).at 1 (.string sr) rfl
  have fx1_2_4 := (HB4.out.1).at 2 (.bool mr) rfl
  have fx1_3_4 := (HB4.out.1).at 3 (.string tr) rfl
  go_wp2
  refine bodyPost_ret (v := .agg #[.bool nr, .string sr, .bool mr, .string tr]) (by simp [results, Tryz.results104, go_sem, fx1_0_4, fx1_1_4, fx1_2_4, fx1_3_4]) rfl ?_
  exact ⟨rfl, HL4.out⟩
end Go.Proofs.Gv

namespace Go.Proofs.Gv
open Go Go.RowKit

set_option maxRecDepth 100000 in
set_option maxHeartbeats 4000000 in
theorem ratOf_w {no na nr mr : Bool} {so sa sr tr : ByteArray} (w : World)
    (H1 : ∀ W, Calls Tryz.prog 23 #[.int .i64 1] W fun e w' => e = .returned (.agg #[.bool no, .string so]) ∧ Below W.heap.size W w')
    (H2 : ∀ W, Calls Tryz.prog 116 #[.agg #[.bool na, .string sa], .agg #[.bool no, .string so]] W fun e w' => e = .returned (.agg #[.bool nr, .string sr, .bool mr, .string tr]) ∧ Below W.heap.size W w')
    : Calls Tryz.prog 105 #[.agg #[.bool na, .string sa]] w fun e w' => e = .returned (.agg #[.bool nr, .string sr, .bool mr, .string tr]) ∧ Below w.heap.size w w' := by
  replace H1 := Lib.hid H1
  replace H2 := Lib.hid H2
  go_enter Tryz.func105, Tryz.ntmps105
  have HL0 := Lib.hid (Below.refl w.heap.size w)
  have HB0 := Lib.hid (show Bs [] w from trivial)
  have HO0 := Lib.hid (show w.heap.size ≤ w.heap.size from by have := HL0.out.size; first | omega | (simp at this; omega))
  have HL1 := Lib.hid (HL0.out.alloc HL0.out.size (.cells #[.bool na, .string sa] 29))
  have HB1 := Lib.hid (HB0.out.push (w.heap.size) #[.bool na, .string sa] 29 (by first | rfl | simp))
  clear HL0 HB0
  have HO1 := Lib.hid (show w.heap.size < w.heap.size + 1 from by have := (HB1.out.1).lt; first | omega | (simp at this; omega))
  have HL2 := Lib.hid (HL1.out.alloc HL1.out.size (.cells #[.bool false, .string ⟨#[]⟩, .bool false, .string ⟨#[]⟩] 108))
  have HB2 := Lib.hid (HB1.out.push (w.heap.size + 1) #[.bool false, .string ⟨#[]⟩, .bool false, .string ⟨#[]⟩] 108 (by first | rfl | simp))
  clear HL1 HB1
  go_wp2_with fail
  obtain ⟨W1, hW⟩ : ∃ W, ((w.alloc (.cells #[.bool na, .string sa] 29)).alloc (.cells #[.bool false, .string ⟨#[]⟩, .bool false, .string ⟨#[]⟩] 108)) = W := ⟨_, rfl⟩
  rw [hW] at HB2 HL2 ⊢
  clear hW
  refine wp_region_front 3 zvQ (by kernel_rfl) shQ (by kernel_rfl) (by kernel_rfl) (zvQ_alloc _ (by kernel_rfl)) (shQ_store _ (by kernel_rfl)) ?_
  intro mm BW hm1 hm2 hBW
  haveI := clm_some mm BW
  have fq0_0 : ∀ u : Clm mm BW, u.x.cell? ⟨w.heap.size, 0, none⟩ = some (.bool na) := fun u => ((HB2.out.bel (u.old hm1 hBW)).2.1).at 0 (.bool na) rfl
  have fq0_1 : ∀ u : Clm mm BW, u.x.cell? ⟨w.heap.size, 1, none⟩ = some (.string sa) := fun u => ((HB2.out.bel (u.old hm1 hBW)).2.1).at 1 (.string sa) rfl
  simp only [frontOf, unmade, List.take_succ_cons, List.take_zero, List.map_cons, List.map_nil]
  iterate 1 (go_big_quiet_step (fail))
  go_big_quiet_step ((go_at_call 23; exact quiet_clm hm2 H1.out _))
  go_big_quiet_step ((go_at_call 116; exact quiet_clm hm2 H2.out _))
  refine wpQuiet_nil ?_
  refine ⟨List.forall_mem_nil _, ?_⟩
  intro γ w2 hb hF
  clear hBW this hm1 hm2 fq0_0 fq0_1
  clear BW mm
  simp only [madesFrom, Facts, patch, List.take_succ_cons, List.take_zero, List.drop_succ_cons, List.drop_zero, Nat.zero_add, Nat.reduceAdd, List.mem_cons, List.not_mem_nil, or_false, forall_eq, forall_eq_or_imp, false_imp_iff, implies_true, and_true] at hF ⊢
  have HL3 := Lib.hid (bstep HL2.out hb)
  have HB3 := Lib.hid (HB2.out.bel hb)
  clear hb  hF
  clear HL2 HB2
  have fx1_0_3 := (HB3.out.1).at 0 (.bool false) rfl
  have fz1_0_3 := (HB3.out.1).z 0 (show 0 < 4 by decide)
  have fx1_1_3 := (HB3.out.1).at 1 (.string ⟨#[]⟩) rfl
  have fz1_1_3 := (HB3.out.1).z 1 (show 1 < 4 by decide)
  have fx1_2_3 := (HB3.out.1).at 2 (.bool false) rfl
  have fz1_2_3 := (HB3.out.1).z 2 (show 2 < 4 by decide)
  have fx1_3_3 := (HB3.out.1).at 3 (.string ⟨#[]⟩) rfl
  have fz1_3_3 := (HB3.out.1).z 3 (show 3 < 4 by decide)
  have HL4 := Below.setCs (c := w.heap.size + 1) (by have := HO0.out; have := HO1.out; omega) [.bool nr, .string sr, .bool mr, .string tr] _ 0 HL3.out
  have HB4 := Bs.store (c := w.heap.size + 1) [.bool nr, .string sr, .bool mr, .string tr] 0 0 HB3.out (by simp only [Bs.ap, Bs.ap0, List.length_cons, List.length_nil, and_true, true_and]; have := HO0.out; have := HO1.out; omega)
  simp only [setCs, setL, Bs.put, List.set_cons_succ, List.set_cons_zero, Nat.zero_add, Nat.reduceAdd] at HL4 HB4
  replace HL4 := Lib.hid HL4
  replace HB4 := Lib.hid HB4
  clear HL3 HB3
  have fx1_0_4 := (HB4.out.1).at 0 (.bool nr) rfl
  have fx1_1_4 := (HB4.out.1).at 1 (.string sr) rfl
  have fx1_2_4 := (HB4.out.1).at 2 (.bool mr) rfl
  have fx1_3_4 := (HB4.out.1).at 3 (.string tr) rfl
  go_wp2
  refine bodyPost_ret (v := .agg #[.bool nr, .string sr, .bool mr, .string tr]) (by simp [results, Tryz.results105, go_sem, fx1_0_4, fx1_1_4, fx1_2_4, fx1_3_4]) rfl ?_
  exact ⟨rfl, HL4.out⟩
end Go.Proofs.Gv

namespace Go.Proofs.Gv
open Go Go.RowKit

set_option maxRecDepth 100000 in
set_option maxHeartbeats 4000000 in
theorem ratNew_w {nb na nr mr : Bool} {sb sa sr tr : ByteArray} (c1 : Int) (h1 : (c1 == 0) = false) (w : World)
    (H1 : ∀ W, Calls Tryz.prog 66 #[.agg #[.bool nb, .string sb], .agg #[.bool false, .string ⟨#[]⟩]] W fun e w' => e = .returned (.int .i64 c1) ∧ Below W.heap.size W w')
    (H2 : ∀ W, Calls Tryz.prog 116 #[.agg #[.bool na, .string sa], .agg #[.bool nb, .string sb]] W fun e w' => e = .returned (.agg #[.bool nr, .string sr, .bool mr, .string tr]) ∧ Below W.heap.size W w')
    : Calls Tryz.prog 103 #[.agg #[.bool na, .string sa], .agg #[.bool nb, .string sb]] w fun e w' => e = .returned (.tuple #[.agg #[.bool nr, .string sr, .bool mr, .string tr], .int .i64 0]) ∧ Below w.heap.size w w' := by
  replace H1 := Lib.hid H1
  replace H2 := Lib.hid H2
  go_enter Tryz.func103, Tryz.ntmps103
  have HL0 := Lib.hid (Below.refl w.heap.size w)
  have HB0 := Lib.hid (show Bs [] w from trivial)
  have HO0 := Lib.hid (show w.heap.size ≤ w.heap.size from by have := HL0.out.size; first | omega | (simp at this; omega))
  have HL1 := Lib.hid (HL0.out.alloc HL0.out.size (.cells #[.bool na, .string sa] 29))
  have HB1 := Lib.hid (HB0.out.push (w.heap.size) #[.bool na, .string sa] 29 (by first | rfl | simp))
  clear HL0 HB0
  have HO1 := Lib.hid (show w.heap.size < w.heap.size + 1 from by have := (HB1.out.1).lt; first | omega | (simp at this; omega))
  have HL2 := Lib.hid (HL1.out.alloc HL1.out.size (.cells #[.bool nb, .string sb] 29))
  have HB2 := Lib.hid (HB1.out.push (w.heap.size + 1) #[.bool nb, .string sb] 29 (by first | rfl | simp))
  clear HL1 HB1
  have HO2 := Lib.hid (show w.heap.size + 1 < w.heap.size + 1 + 1 from by have := (HB2.out.1).lt; first | omega | (simp at this; omega))
  have HL3 := Lib.hid (HL2.out.alloc HL2.out.size (.cells #[.bool false, .string ⟨#[]⟩, .bool false, .string ⟨#[]⟩] 108))
  have HB3 := Lib.hid (HB2.out.push (w.heap.size + 1 + 1) #[.bool false, .string ⟨#[]⟩, .bool false, .string ⟨#[]⟩] 108 (by first | rfl | simp))
  clear HL2 HB2
  have fx1_0_3 := (HB3.out.2.1).at 0 (.bool nb) rfl
  have fx1_1_3 := (HB3.out.2.1).at 1 (.string sb) rfl
  go_wp2_with fail
  refine (H1.out _).mono ?_
  rintro e w1 ⟨rfl, hb⟩
  have HL4 := Lib.hid (bstep HL3.out hb)
  have HB4 := Lib.hid (HB3.out.bel hb)
  clear hb
  clear HL3 HB3 fx1_0_3 fx1_1_3
  have fx0_0_4 := (HB4.out.2.2.1).at 0 (.bool na) rfl
  have fx0_1_4 := (HB4.out.2.2.1).at 1 (.string sa) rfl
  have fx1_0_4 := (HB4.out.2.1).at 0 (.bool nb) rfl
  have fx1_1_4 := (HB4.out.2.1).at 1 (.string sb) rfl
  go_wp2_with fail
  refine (H2.out _).mono ?_
  rintro e w2 ⟨rfl, hb⟩
  have HL5 := Lib.hid (bstep HL4.out hb)
  have HB5 := Lib.hid (HB4.out.bel hb)
  clear hb
  clear HL4 HB4 fx0_0_4 fx0_1_4 fx1_0_4 fx1_1_4
  have fx2_0_5 := (HB5.out.1).at 0 (.bool false) rfl
  have fz2_0_5 := (HB5.out.1).z 0 (show 0 < 4 by decide)
  have fx2_1_5 := (HB5.out.1).at 1 (.string ⟨#[]⟩) rfl
  have fz2_1_5 := (HB5.out.1).z 1 (show 1 < 4 by decide)
  have fx2_2_5 := (HB5.out.1).at 2 (.bool false) rfl
  have fz2_2_5 := (HB5.out.1).z 2 (show 2 < 4 by decide)
  have fx2_3_5 := (HB5.out.1).at 3 (.string ⟨#[]⟩) rfl
  have fz2_3_5 := (HB5.out.1).z 3 (show 3 < 4 by decide)
  have HL6 := Below.setCs (c := w.heap.size + 1 + 1) (by have := HO0.out; have := HO1.out; have := HO2.out; omega) [.bool nr, .string sr, .bool mr, .string tr] _ 0 HL5.out
  have HB6 := Bs.store (c := w.heap.size + 1 + 1) [.bool nr, .string sr, .bool mr, .string tr] 0 0 HB5.out (by simp only [Bs.ap, Bs.ap0, List.length_cons, List.length_nil, and_true, true_and]; have := HO0.out; have := HO1.out; have := HO2.out; omega)
  simp only [setCs, setL, Bs.put, List.set_cons_succ, List.set_cons_zero, Nat.zero_add, Nat.reduceAdd] at HL6 HB6
  replace HL6 := Lib.hid HL6
  replace HB6 := Lib.hid HB6
  clear HL5 HB5
  have fx2_0_6 := (HB6.out.1).at 0 (.bool nr) rfl
  have fx2_1_6 := (HB6.out.1).at 1 (.string sr) rfl
  have fx2_2_6 := (HB6.out.1).at 2 (.bool mr) rfl
  have fx2_3_6 := (HB6.out.1).at 3 (.string tr) rfl
  go_wp2
  refine bodyPost_ret (v := .tuple #[.agg #[.bool nr, .string sr, .bool mr, .string tr], .int .i64 0]) (by simp [results, Tryz.results103, go_sem, fx2_0_6, fx2_1_6, fx2_2_6, fx2_3_6]) rfl ?_
  exact ⟨rfl, HL6.out⟩
end Go.Proofs.Gv
