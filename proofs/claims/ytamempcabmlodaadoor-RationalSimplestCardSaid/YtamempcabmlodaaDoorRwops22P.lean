/- Layer 02: functions of rational, walked over the results of what they call (printed by gen02a.py). -/
import Derived.Test.YtamempcabmlodaaDoorRatTabP
set_option linter.unusedSimpArgs false
set_option linter.unusedVariables false
namespace Go.Proofs.Gv
open Go Go.RowKit

set_option maxRecDepth 100000 in
set_option maxHeartbeats 4000000 in
theorem ratFloor_w {na ma nc mc nx nxr : Bool} {sa ta sc tc sx sxr : ByteArray} {ex : Int} (w : World)
    (H1 : ∀ W, Calls Tryd.prog 36 #[.agg #[.bool na, .string sa, .bool ma, .string ta]] W fun e w' => e = .returned (.agg #[.bool nc, .string sc, .bool mc, .string tc]) ∧ Below W.heap.size W w')
    (H2 : ∀ W, Calls Tryd.prog 48 #[.agg #[.bool nc, .string sc], .agg #[.bool mc, .string tc]] W fun e w' => e = .returned (.tuple #[.agg #[.bool nx, .string sx], .agg #[.bool nxr, .string sxr], .int .i64 ex]) ∧ Below W.heap.size W w')
    : Calls Tryd.prog 30 #[.agg #[.bool na, .string sa, .bool ma, .string ta]] w fun e w' => e = .returned (.agg #[.bool nx, .string sx]) ∧ Below w.heap.size w w' := by
  replace H1 := Lib.hid H1
  replace H2 := Lib.hid H2
  go_enter Tryd.func30, Tryd.ntmps30
  have HL0 := Lib.hid (Below.refl w.heap.size w)
  have HB0 := Lib.hid (show Bs [] w from trivial)
  have HO0 := Lib.hid (show w.heap.size ≤ w.heap.size from by have := HL0.out.size; first | omega | (simp at this; omega))
  have HL1 := Lib.hid (HL0.out.alloc HL0.out.size (.cells #[.bool na, .string sa, .bool ma, .string ta] 25))
  have HB1 := Lib.hid (HB0.out.push (w.heap.size) #[.bool na, .string sa, .bool ma, .string ta] 25 (by first | rfl | simp))
  clear HL0 HB0
  have HO1 := Lib.hid (show w.heap.size < w.heap.size + 1 from by have := (HB1.out.1).lt; first | omega | (simp at this; omega))
  have HL2 := Lib.hid (HL1.out.alloc HL1.out.size (.cells #[.bool false, .string ⟨#[]⟩] 23))
  have HB2 := Lib.hid (HB1.out.push (w.heap.size + 1) #[.bool false, .string ⟨#[]⟩] 23 (by first | rfl | simp))
  clear HL1 HB1
  have fx0_0_2 := (HB2.out.2.1).at 0 (.bool na) rfl
  have fx0_1_2 := (HB2.out.2.1).at 1 (.string sa) rfl
  have fx0_2_2 := (HB2.out.2.1).at 2 (.bool ma) rfl
  have fx0_3_2 := (HB2.out.2.1).at 3 (.string ta) rfl
  go_wp2_with fail
  refine (H1.out _).mono ?_
  rintro e w1 ⟨rfl, hb⟩
  have HL3 := Lib.hid (bstep HL2.out hb)
  have HB3 := Lib.hid (HB2.out.bel hb)
  clear hb
  clear HL2 HB2 fx0_0_2 fx0_1_2 fx0_2_2 fx0_3_2
  have fx0_0_3 := (HB3.out.2.1).at 0 (.bool na) rfl
  have fz0_0_3 := (HB3.out.2.1).z 0 (show 0 < 4 by decide)
  have fx0_1_3 := (HB3.out.2.1).at 1 (.string sa) rfl
  have fz0_1_3 := (HB3.out.2.1).z 1 (show 1 < 4 by decide)
  have fx0_2_3 := (HB3.out.2.1).at 2 (.bool ma) rfl
  have fz0_2_3 := (HB3.out.2.1).z 2 (show 2 < 4 by decide)
  have fx0_3_3 := (HB3.out.2.1).at 3 (.string ta) rfl
  have fz0_3_3 := (HB3.out.2.1).z 3 (show 3 < 4 by decide)
  have HL4 := Below.setCs (c := w.heap.size) (by have := HO0.out; have := HO1.out; omega) [.bool nc, .string sc, .bool mc, .string tc] _ 0 HL3.out
  have HB4 := Bs.store (c := w.heap.size) [.bool nc, .string sc, .bool mc, .string tc] 0 1 HB3.out (by simp only [Bs.ap, Bs.ap0, List.length_cons, List.length_nil, and_true, true_and]; have := HO0.out; have := HO1.out; omega)
  simp only [setCs, setL, Bs.put, List.set_cons_succ, List.set_cons_zero, Nat.zero_add, Nat.reduceAdd] at HL4 HB4
  replace HL4 := Lib.hid HL4
  replace HB4 := Lib.hid HB4
  clear HL3 HB3
  have fx0_0_4 := (HB4.out.2.1).at 0 (.bool nc) rfl
  have fx0_1_4 := (HB4.out.2.1).at 1 (.string sc) rfl
  have fx0_2_4 := (HB4.out.2.1).at 2 (.bool mc) rfl
  have fx0_3_4 := (HB4.out.2.1).at 3 (.string tc) rfl
  go_wp2_with fail
  refine (H2.out _).mono ?_
  rintro e w2 ⟨rfl, hb⟩
  have HL5 := Lib.hid (bstep HL4.out hb)
  have HB5 := Lib.hid (HB4.out.bel hb)
  clear hb
  clear HL4 HB4 fx0_0_3 fz0_0_3 fx0_1_3 fz0_1_3 fx0_2_3 fz0_2_3 fx0_3_3 fz0_3_3 fx0_0_4 fx0_1_4 fx0_2_4 fx0_3_4
  have HO2 := Lib.hid (show w.heap.size + 1 < w2.heap.size from by have := (HB5.out.1).lt; first | omega | (simp at this; omega))
  have HL6 := Lib.hid (HL5.out.alloc HL5.out.size (.cells #[.bool nx, .string sx] 23))
  have HB6 := Lib.hid (HB5.out.push (w2.heap.size) #[.bool nx, .string sx] 23 (by first | rfl | simp))
  clear HL5 HB5
  have HO3 := Lib.hid (show w2.heap.size < w2.heap.size + 1 from by have := (HB6.out.1).lt; first | omega | (simp at this; omega))
  have HL7 := Lib.hid (HL6.out.alloc HL6.out.size (.cells #[.bool nxr, .string sxr] 23))
  have HB7 := Lib.hid (HB6.out.push (w2.heap.size + 1) #[.bool nxr, .string sxr] 23 (by first | rfl | simp))
  clear HL6 HB6
  have fx2_0_7 := (HB7.out.2.1).at 0 (.bool nx) rfl
  have fx2_1_7 := (HB7.out.2.1).at 1 (.string sx) rfl
  have fx1_0_7 := (HB7.out.2.2.1).at 0 (.bool false) rfl
  have fz1_0_7 := (HB7.out.2.2.1).z 0 (show 0 < 2 by decide)
  have fx1_1_7 := (HB7.out.2.2.1).at 1 (.string ⟨#[]⟩) rfl
  have fz1_1_7 := (HB7.out.2.2.1).z 1 (show 1 < 2 by decide)
  have HL8 := Below.setCs (c := w.heap.size + 1) (by have := HO0.out; have := HO1.out; have := HO2.out; have := HO3.out; omega) [.bool nx, .string sx] _ 0 HL7.out
  have HB8 := Bs.store (c := w.heap.size + 1) [.bool nx, .string sx] 0 2 HB7.out (by simp only [Bs.ap, Bs.ap0, List.length_cons, List.length_nil, and_true, true_and]; have := HO0.out; have := HO1.out; have := HO2.out; have := HO3.out; omega)
  simp only [setCs, setL, Bs.put, List.set_cons_succ, List.set_cons_zero, Nat.zero_add, Nat.reduceAdd] at HL8 HB8
  replace HL8 := Lib.hid HL8
  replace HB8 := Lib.hid HB8
  clear HL7 HB7
  have fx1_0_8 := (HB8.out.2.2.1).at 0 (.bool nx) rfl
  have fx1_1_8 := (HB8.out.2.2.1).at 1 (.string sx) rfl
  go_wp2
  refine bodyPost_ret (v := .agg #[.bool nx, .string sx]) (by simp [results, Tryd.results30, go_sem, fx1_0_8, fx1_1_8]) rfl ?_
  exact ⟨rfl, HL8.out⟩
end Go.Proofs.Gv

namespace Go.Proofs.Gv
open Go Go.RowKit

set_option maxRecDepth 100000 in
set_option maxHeartbeats 4000000 in
theorem tab1_w {na mb nx nb ma ny nz nu : Bool} {sa tb sx sb ta sy sz su : ByteArray} (w : World)
    (H1 : ∀ W, Calls Tryd.prog 26 #[.agg #[.bool na, .string sa], .agg #[.bool mb, .string tb]] W fun e w' => e = .returned (.agg #[.bool nx, .string sx]) ∧ Below W.heap.size W w')
    (H2 : ∀ W, Calls Tryd.prog 26 #[.agg #[.bool nb, .string sb], .agg #[.bool ma, .string ta]] W fun e w' => e = .returned (.agg #[.bool ny, .string sy]) ∧ Below W.heap.size W w')
    (H3 : ∀ W, Calls Tryd.prog 60 #[.agg #[.bool nx, .string sx], .agg #[.bool ny, .string sy]] W fun e w' => e = .returned (.agg #[.bool nz, .string sz]) ∧ Below W.heap.size W w')
    (H4 : ∀ W, Calls Tryd.prog 26 #[.agg #[.bool ma, .string ta], .agg #[.bool mb, .string tb]] W fun e w' => e = .returned (.agg #[.bool nu, .string su]) ∧ Below W.heap.size W w')
    : Calls Tryd.prog 77 #[.agg #[.bool na, .string sa, .bool ma, .string ta], .agg #[.bool nb, .string sb, .bool mb, .string tb]] w fun e w' => e = .returned (.tuple #[.agg #[.bool nz, .string sz], .agg #[.bool nu, .string su]]) ∧ Below w.heap.size w w' := by
  replace H1 := Lib.hid H1
  replace H2 := Lib.hid H2
  replace H3 := Lib.hid H3
  replace H4 := Lib.hid H4
  go_enter Tryd.func77, Tryd.ntmps77
  have HL0 := Lib.hid (Below.refl w.heap.size w)
  have HB0 := Lib.hid (show Bs [] w from trivial)
  have HO0 := Lib.hid (show w.heap.size ≤ w.heap.size from by have := HL0.out.size; first | omega | (simp at this; omega))
  have HL1 := Lib.hid (HL0.out.alloc HL0.out.size (.cells #[.bool na, .string sa, .bool ma, .string ta] 25))
  have HB1 := Lib.hid (HB0.out.push (w.heap.size) #[.bool na, .string sa, .bool ma, .string ta] 25 (by first | rfl | simp))
  clear HL0 HB0
  have HO1 := Lib.hid (show w.heap.size < w.heap.size + 1 from by have := (HB1.out.1).lt; first | omega | (simp at this; omega))
  have HL2 := Lib.hid (HL1.out.alloc HL1.out.size (.cells #[.bool nb, .string sb, .bool mb, .string tb] 25))
  have HB2 := Lib.hid (HB1.out.push (w.heap.size + 1) #[.bool nb, .string sb, .bool mb, .string tb] 25 (by first | rfl | simp))
  clear HL1 HB1
  have HO2 := Lib.hid (show w.heap.size + 1 < w.heap.size + 1 + 1 from by have := (HB2.out.1).lt; first | omega | (simp at this; omega))
  have HL3 := Lib.hid (HL2.out.alloc HL2.out.size (.cells #[.bool false, .string ⟨#[]⟩] 23))
  have HB3 := Lib.hid (HB2.out.push (w.heap.size + 1 + 1) #[.bool false, .string ⟨#[]⟩] 23 (by first | rfl | simp))
  clear HL2 HB2
  have HO3 := Lib.hid (show w.heap.size + 1 + 1 < w.heap.size + 1 + 1 + 1 from by have := (HB3.out.1).lt; first | omega | (simp at this; omega))
  have HL4 := Lib.hid (HL3.out.alloc HL3.out.size (.cells #[.bool false, .string ⟨#[]⟩] 23))
  have HB4 := Lib.hid (HB3.out.push (w.heap.size + 1 + 1 + 1) #[.bool false, .string ⟨#[]⟩] 23 (by first | rfl | simp))
  clear HL3 HB3
  go_wp2_with fail
  obtain ⟨W1, hW⟩ : ∃ W, ((((w.alloc (.cells #[.bool na, .string sa, .bool ma, .string ta] 25)).alloc (.cells #[.bool nb, .string sb, .bool mb, .string tb] 25)).alloc (.cells #[.bool false, .string ⟨#[]⟩] 23)).alloc (.cells #[.bool false, .string ⟨#[]⟩] 23)) = W := ⟨_, rfl⟩
  rw [hW] at HB4 HL4 ⊢
  clear hW
  refine wp_region_front 16 zvQ (by kernel_rfl) shQ (by kernel_rfl) (by kernel_rfl) (zvQ_alloc _ (by kernel_rfl)) (shQ_store _ (by kernel_rfl)) ?_
  intro mm BW hm1 hm2 hBW
  haveI := clm_some mm BW
  have fq0_0 : ∀ u : Clm mm BW, u.x.cell? ⟨w.heap.size, 0, none⟩ = some (.bool na) := fun u => ((HB4.out.bel (u.old hm1 hBW)).2.2.2.1).at 0 (.bool na) rfl
  have fq0_1 : ∀ u : Clm mm BW, u.x.cell? ⟨w.heap.size, 1, none⟩ = some (.string sa) := fun u => ((HB4.out.bel (u.old hm1 hBW)).2.2.2.1).at 1 (.string sa) rfl
  have fq1_2 : ∀ u : Clm mm BW, u.x.cell? ⟨w.heap.size + 1, 2, none⟩ = some (.bool mb) := fun u => ((HB4.out.bel (u.old hm1 hBW)).2.2.1).at 2 (.bool mb) rfl
  have fq1_3 : ∀ u : Clm mm BW, u.x.cell? ⟨w.heap.size + 1, 3, none⟩ = some (.string tb) := fun u => ((HB4.out.bel (u.old hm1 hBW)).2.2.1).at 3 (.string tb) rfl
  have fq1_0 : ∀ u : Clm mm BW, u.x.cell? ⟨w.heap.size + 1, 0, none⟩ = some (.bool nb) := fun u => ((HB4.out.bel (u.old hm1 hBW)).2.2.1).at 0 (.bool nb) rfl
  have fq1_1 : ∀ u : Clm mm BW, u.x.cell? ⟨w.heap.size + 1, 1, none⟩ = some (.string sb) := fun u => ((HB4.out.bel (u.old hm1 hBW)).2.2.1).at 1 (.string sb) rfl
  have fq0_2 : ∀ u : Clm mm BW, u.x.cell? ⟨w.heap.size, 2, none⟩ = some (.bool ma) := fun u => ((HB4.out.bel (u.old hm1 hBW)).2.2.2.1).at 2 (.bool ma) rfl
  have fq0_3 : ∀ u : Clm mm BW, u.x.cell? ⟨w.heap.size, 3, none⟩ = some (.string ta) := fun u => ((HB4.out.bel (u.old hm1 hBW)).2.2.2.1).at 3 (.string ta) rfl
  simp only [frontOf, unmade, List.take_succ_cons, List.take_zero, List.map_cons, List.map_nil]
  iterate 4 (go_big_quiet_step (fail))
  go_big_quiet_step ((go_at_call 26; exact quiet_clm hm2 H1.out _))
  iterate 4 (go_big_quiet_step (fail))
  go_big_quiet_step ((go_at_call 26; exact quiet_clm hm2 H2.out _))
  go_big_quiet_step ((go_at_call 60; exact quiet_clm hm2 H3.out _))
  iterate 4 (go_big_quiet_step (fail))
  go_big_quiet_step ((go_at_call 26; exact quiet_clm hm2 H4.out _))
  refine wpQuiet_nil ?_
  refine ⟨List.forall_mem_nil _, ?_⟩
  intro γ w2 hb hF
  clear hBW this hm1 hm2 fq0_0 fq0_1 fq1_2 fq1_3 fq1_0 fq1_1 fq0_2 fq0_3
  clear BW mm
  simp only [madesFrom, Facts, patch, List.take_succ_cons, List.take_zero, List.drop_succ_cons, List.drop_zero, Nat.zero_add, Nat.reduceAdd, List.mem_cons, List.not_mem_nil, or_false, forall_eq, forall_eq_or_imp, false_imp_iff, implies_true, and_true] at hF ⊢
  have HL5 := Lib.hid (bstep HL4.out hb)
  have HB5 := Lib.hid (HB4.out.bel hb)
  clear hb  hF
  clear HL4 HB4
  have fx2_0_5 := (HB5.out.2.1).at 0 (.bool false) rfl
  have fz2_0_5 := (HB5.out.2.1).z 0 (show 0 < 2 by decide)
  have fx2_1_5 := (HB5.out.2.1).at 1 (.string ⟨#[]⟩) rfl
  have fz2_1_5 := (HB5.out.2.1).z 1 (show 1 < 2 by decide)
  have HL6 := Below.setCs (c := w.heap.size + 1 + 1) (by have := HO0.out; have := HO1.out; have := HO2.out; have := HO3.out; omega) [.bool nz, .string sz] _ 0 HL5.out
  have HB6 := Bs.store (c := w.heap.size + 1 + 1) [.bool nz, .string sz] 0 1 HB5.out (by simp only [Bs.ap, Bs.ap0, List.length_cons, List.length_nil, and_true, true_and]; have := HO0.out; have := HO1.out; have := HO2.out; have := HO3.out; omega)
  simp only [setCs, setL, Bs.put, List.set_cons_succ, List.set_cons_zero, Nat.zero_add, Nat.reduceAdd] at HL6 HB6
  replace HL6 := Lib.hid HL6
  replace HB6 := Lib.hid HB6
  clear HL5 HB5
  have fx3_0_6 := (HB6.out.1).at 0 (.bool false) rfl
  have fz3_0_6 := (HB6.out.1).z 0 (show 0 < 2 by decide)
  have fx3_1_6 := (HB6.out.1).at 1 (.string ⟨#[]⟩) rfl
  have fz3_1_6 := (HB6.out.1).z 1 (show 1 < 2 by decide)
  have HL7 := Below.setCs (c := w.heap.size + 1 + 1 + 1) (by have := HO0.out; have := HO1.out; have := HO2.out; have := HO3.out; omega) [.bool nu, .string su] _ 0 HL6.out
  have HB7 := Bs.store (c := w.heap.size + 1 + 1 + 1) [.bool nu, .string su] 0 0 HB6.out (by simp only [Bs.ap, Bs.ap0, List.length_cons, List.length_nil, and_true, true_and]; have := HO0.out; have := HO1.out; have := HO2.out; have := HO3.out; omega)
  simp only [setCs, setL, Bs.put, List.set_cons_succ, List.set_cons_zero, Nat.zero_add, Nat.reduceAdd] at HL7 HB7
  replace HL7 := Lib.hid HL7
  replace HB7 := Lib.hid HB7
  clear HL6 HB6
  have fx2_0_7 := (HB7.out.2.1).at 0 (.bool nz) rfl
  have fx2_1_7 := (HB7.out.2.1).at 1 (.string sz) rfl
  have fx3_0_7 := (HB7.out.1).at 0 (.bool nu) rfl
  have fx3_1_7 := (HB7.out.1).at 1 (.string su) rfl
  go_wp2
  refine bodyPost_ret (v := .tuple #[.agg #[.bool nz, .string sz], .agg #[.bool nu, .string su]]) (by simp [results, Tryd.results77, go_sem, fx2_0_7, fx2_1_7, fx3_0_7, fx3_1_7]) rfl ?_
  exact ⟨rfl, HL7.out⟩
end Go.Proofs.Gv

namespace Go.Proofs.Gv
open Go Go.RowKit

set_option maxRecDepth 100000 in
set_option maxHeartbeats 4000000 in
theorem tab2_w {na mb nx nb ma ny nz nu : Bool} {sa tb sx sb ta sy sz su : ByteArray} (w : World)
    (H1 : ∀ W, Calls Tryd.prog 26 #[.agg #[.bool na, .string sa], .agg #[.bool mb, .string tb]] W fun e w' => e = .returned (.agg #[.bool nx, .string sx]) ∧ Below W.heap.size W w')
    (H2 : ∀ W, Calls Tryd.prog 26 #[.agg #[.bool nb, .string sb], .agg #[.bool ma, .string ta]] W fun e w' => e = .returned (.agg #[.bool ny, .string sy]) ∧ Below W.heap.size W w')
    (H3 : ∀ W, Calls Tryd.prog 42 #[.agg #[.bool nx, .string sx], .agg #[.bool ny, .string sy]] W fun e w' => e = .returned (.agg #[.bool nz, .string sz]) ∧ Below W.heap.size W w')
    (H4 : ∀ W, Calls Tryd.prog 26 #[.agg #[.bool ma, .string ta], .agg #[.bool mb, .string tb]] W fun e w' => e = .returned (.agg #[.bool nu, .string su]) ∧ Below W.heap.size W w')
    : Calls Tryd.prog 78 #[.agg #[.bool na, .string sa, .bool ma, .string ta], .agg #[.bool nb, .string sb, .bool mb, .string tb]] w fun e w' => e = .returned (.tuple #[.agg #[.bool nz, .string sz], .agg #[.bool nu, .string su]]) ∧ Below w.heap.size w w' := by
  replace H1 := Lib.hid H1
  replace H2 := Lib.hid H2
  replace H3 := Lib.hid H3
  replace H4 := Lib.hid H4
  go_enter Tryd.func78, Tryd.ntmps78
  have HL0 := Lib.hid (Below.refl w.heap.size w)
  have HB0 := Lib.hid (show Bs [] w from trivial)
  have HO0 := Lib.hid (show w.heap.size ≤ w.heap.size from by have := HL0.out.size; first | omega | (simp at this; omega))
  have HL1 := Lib.hid (HL0.out.alloc HL0.out.size (.cells #[.bool na, .string sa, .bool ma, .string ta] 25))
  have HB1 := Lib.hid (HB0.out.push (w.heap.size) #[.bool na, .string sa, .bool ma, .string ta] 25 (by first | rfl | simp))
  clear HL0 HB0
  have HO1 := Lib.hid (show w.heap.size < w.heap.size + 1 from by have := (HB1.out.1).lt; first | omega | (simp at this; omega))
  have HL2 := Lib.hid (HL1.out.alloc HL1.out.size (.cells #[.bool nb, .string sb, .bool mb, .string tb] 25))
  have HB2 := Lib.hid (HB1.out.push (w.heap.size + 1) #[.bool nb, .string sb, .bool mb, .string tb] 25 (by first | rfl | simp))
  clear HL1 HB1
  have HO2 := Lib.hid (show w.heap.size + 1 < w.heap.size + 1 + 1 from by have := (HB2.out.1).lt; first | omega | (simp at this; omega))
  have HL3 := Lib.hid (HL2.out.alloc HL2.out.size (.cells #[.bool false, .string ⟨#[]⟩] 23))
  have HB3 := Lib.hid (HB2.out.push (w.heap.size + 1 + 1) #[.bool false, .string ⟨#[]⟩] 23 (by first | rfl | simp))
  clear HL2 HB2
  have HO3 := Lib.hid (show w.heap.size + 1 + 1 < w.heap.size + 1 + 1 + 1 from by have := (HB3.out.1).lt; first | omega | (simp at this; omega))
  have HL4 := Lib.hid (HL3.out.alloc HL3.out.size (.cells #[.bool false, .string ⟨#[]⟩] 23))
  have HB4 := Lib.hid (HB3.out.push (w.heap.size + 1 + 1 + 1) #[.bool false, .string ⟨#[]⟩] 23 (by first | rfl | simp))
  clear HL3 HB3
  go_wp2_with fail
  obtain ⟨W1, hW⟩ : ∃ W, ((((w.alloc (.cells #[.bool na, .string sa, .bool ma, .string ta] 25)).alloc (.cells #[.bool nb, .string sb, .bool mb, .string tb] 25)).alloc (.cells #[.bool false, .string ⟨#[]⟩] 23)).alloc (.cells #[.bool false, .string ⟨#[]⟩] 23)) = W := ⟨_, rfl⟩
  rw [hW] at HB4 HL4 ⊢
  clear hW
  refine wp_region_front 16 zvQ (by kernel_rfl) shQ (by kernel_rfl) (by kernel_rfl) (zvQ_alloc _ (by kernel_rfl)) (shQ_store _ (by kernel_rfl)) ?_
  intro mm BW hm1 hm2 hBW
  haveI := clm_some mm BW
  have fq0_0 : ∀ u : Clm mm BW, u.x.cell? ⟨w.heap.size, 0, none⟩ = some (.bool na) := fun u => ((HB4.out.bel (u.old hm1 hBW)).2.2.2.1).at 0 (.bool na) rfl
  have fq0_1 : ∀ u : Clm mm BW, u.x.cell? ⟨w.heap.size, 1, none⟩ = some (.string sa) := fun u => ((HB4.out.bel (u.old hm1 hBW)).2.2.2.1).at 1 (.string sa) rfl
  have fq1_2 : ∀ u : Clm mm BW, u.x.cell? ⟨w.heap.size + 1, 2, none⟩ = some (.bool mb) := fun u => ((HB4.out.bel (u.old hm1 hBW)).2.2.1).at 2 (.bool mb) rfl
  have fq1_3 : ∀ u : Clm mm BW, u.x.cell? ⟨w.heap.size + 1, 3, none⟩ = some (.string tb) := fun u => ((HB4.out.bel (u.old hm1 hBW)).2.2.1).at 3 (.string tb) rfl
  have fq1_0 : ∀ u : Clm mm BW, u.x.cell? ⟨w.heap.size + 1, 0, none⟩ = some (.bool nb) := fun u => ((HB4.out.bel (u.old hm1 hBW)).2.2.1).at 0 (.bool nb) rfl
  have fq1_1 : ∀ u : Clm mm BW, u.x.cell? ⟨w.heap.size + 1, 1, none⟩ = some (.string sb) := fun u => ((HB4.out.bel (u.old hm1 hBW)).2.2.1).at 1 (.string sb) rfl
  have fq0_2 : ∀ u : Clm mm BW, u.x.cell? ⟨w.heap.size, 2, none⟩ = some (.bool ma) := fun u => ((HB4.out.bel (u.old hm1 hBW)).2.2.2.1).at 2 (.bool ma) rfl
  have fq0_3 : ∀ u : Clm mm BW, u.x.cell? ⟨w.heap.size, 3, none⟩ = some (.string ta) := fun u => ((HB4.out.bel (u.old hm1 hBW)).2.2.2.1).at 3 (.string ta) rfl
  simp only [frontOf, unmade, List.take_succ_cons, List.take_zero, List.map_cons, List.map_nil]
  iterate 4 (go_big_quiet_step (fail))
  go_big_quiet_step ((go_at_call 26; exact quiet_clm hm2 H1.out _))
  iterate 4 (go_big_quiet_step (fail))
  go_big_quiet_step ((go_at_call 26; exact quiet_clm hm2 H2.out _))
  go_big_quiet_step ((go_at_call 42; exact quiet_clm hm2 H3.out _))
  iterate 4 (go_big_quiet_step (fail))
  go_big_quiet_step ((go_at_call 26; exact quiet_clm hm2 H4.out _))
  refine wpQuiet_nil ?_
  refine ⟨List.forall_mem_nil _, ?_⟩
  intro γ w2 hb hF
  clear hBW this hm1 hm2 fq0_0 fq0_1 fq1_2 fq1_3 fq1_0 fq1_1 fq0_2 fq0_3
  clear BW mm
  simp only [madesFrom, Facts, patch, List.take_succ_cons, List.take_zero, List.drop_succ_cons, List.drop_zero, Nat.zero_add, Nat.reduceAdd, List.mem_cons, List.not_mem_nil, or_false, forall_eq, forall_eq_or_imp, false_imp_iff, implies_true, and_true] at hF ⊢
  have HL5 := Lib.hid (bstep HL4.out hb)
  have HB5 := Lib.hid (HB4.out.bel hb)
  clear hb  hF
  clear HL4 HB4
  have fx2_0_5 := (HB5.out.2.1).at 0 (.bool false) rfl
  have fz2_0_5 := (HB5.out.2.1).z 0 (show 0 < 2 by decide)
  have fx2_1_5 := (HB5.out.2.1).at 1 (.string ⟨#[]⟩) rfl
  have fz2_1_5 := (HB5.out.2.1).z 1 (show 1 < 2 by decide)
  have HL6 := Below.setCs (c := w.heap.size + 1 + 1) (by have := HO0.out; have := HO1.out; have := HO2.out; have := HO3.out; omega) [.bool nz, .string sz] _ 0 HL5.out
  have HB6 := Bs.store (c := w.heap.size + 1 + 1) [.bool nz, .string sz] 0 1 HB5.out (by simp only [Bs.ap, Bs.ap0, List.length_cons, List.length_nil, and_true, true_and]; have := HO0.out; have := HO1.out; have := HO2.out; have := HO3.out; omega)
  simp only [setCs, setL, Bs.put, List.set_cons_succ, List.set_cons_zero, Nat.zero_add, Nat.reduceAdd] at HL6 HB6
  replace HL6 := Lib.hid HL6
  replace HB6 := Lib.hid HB6
  clear HL5 HB5
  have fx3_0_6 := (HB6.out.1).at 0 (.bool false) rfl
  have fz3_0_6 := (HB6.out.1).z 0 (show 0 < 2 by decide)
  have fx3_1_6 := (HB6.out.1).at 1 (.string ⟨#[]⟩) rfl
  have fz3_1_6 := (HB6.out.1).z 1 (show 1 < 2 by decide)
  have HL7 := Below.setCs (c := w.heap.size + 1 + 1 + 1) (by have := HO0.out; have := HO1.out; have := HO2.out; have := HO3.out; omega) [.bool nu, .string su] _ 0 HL6.out
  have HB7 := Bs.store (c := w.heap.size + 1 + 1 + 1) [.bool nu, .string su] 0 0 HB6.out (by simp only [Bs.ap, Bs.ap0, List.length_cons, List.length_nil, and_true, true_and]; have := HO0.out; have := HO1.out; have := HO2.out; have := HO3.out; omega)
  simp only [setCs, setL, Bs.put, List.set_cons_succ, List.set_cons_zero, Nat.zero_add, Nat.reduceAdd] at HL7 HB7
  replace HL7 := Lib.hid HL7
  replace HB7 := Lib.hid HB7
  clear HL6 HB6
  have fx2_0_7 := (HB7.out.2.1).at 0 (.bool nz) rfl
  have fx2_1_7 := (HB7.out.2.1).at 1 (.string sz) rfl
  have fx3_0_7 := (HB7.out.1).at 0 (.bool nu) rfl
  have fx3_1_7 := (HB7.out.1).at 1 (.string su) rfl
  go_wp2
  refine bodyPost_ret (v := .tuple #[.agg #[.bool nz, .string sz], .agg #[.bool nu, .string su]]) (by simp [results, Tryd.results78, go_sem, fx2_0_7, fx2_1_7, fx3_0_7, fx3_1_7]) rfl ?_
  exact ⟨rfl, HL7.out⟩
end Go.Proofs.Gv
