/- Layer 02: functions of rational, walked over the results of what they call (printed by gen02a.py). -/
import Derived.Test.YtamempcabmlodaaDoorRatTabP
set_option linter.unusedSimpArgs false
set_option linter.unusedVariables false
namespace Go.Proofs.Gv
open Go Go.RowKit

set_option maxRecDepth 100000 in
set_option maxHeartbeats 4000000 in
theorem ratNeg_w {na ma nc mc nr : Bool} {sa ta sc tc sr : ByteArray} (w : World)
    (H1 : ∀ W, Calls Tryd.prog 36 #[.agg #[.bool na, .string sa, .bool ma, .string ta]] W fun e w' => e = .returned (.agg #[.bool nc, .string sc, .bool mc, .string tc]) ∧ Below W.heap.size W w')
    (H2 : ∀ W, Calls Tryd.prog 40 #[.agg #[.bool nc, .string sc]] W fun e w' => e = .returned (.agg #[.bool nr, .string sr]) ∧ Below W.heap.size W w')
    : Calls Tryd.prog 20 #[.agg #[.bool na, .string sa, .bool ma, .string ta]] w fun e w' => e = .returned (.agg #[.bool nr, .string sr, .bool mc, .string tc]) ∧ Below w.heap.size w w' := by
  replace H1 := Lib.hid H1
  replace H2 := Lib.hid H2
  go_enter Tryd.func20, Tryd.ntmps20
  have HL0 := Lib.hid (Below.refl w.heap.size w)
  have HB0 := Lib.hid (show Bs [] w from trivial)
  have HO0 := Lib.hid (show w.heap.size ≤ w.heap.size from by have := HL0.out.size; first | omega | (simp at this; omega))
  have HL1 := Lib.hid (HL0.out.alloc HL0.out.size (.cells #[.bool na, .string sa, .bool ma, .string ta] 25))
  have HB1 := Lib.hid (HB0.out.push (w.heap.size) #[.bool na, .string sa, .bool ma, .string ta] 25 (by first | rfl | simp))
  clear HL0 HB0
  have HO1 := Lib.hid (show w.heap.size < w.heap.size + 1 from by have := (HB1.out.1).lt; first | omega | (simp at this; omega))
  have HL2 := Lib.hid (HL1.out.alloc HL1.out.size (.cells #[.bool false, .string ⟨#[]⟩, .bool false, .string ⟨#[]⟩] 25))
  have HB2 := Lib.hid (HB1.out.push (w.heap.size + 1) #[.bool false, .string ⟨#[]⟩, .bool false, .string ⟨#[]⟩] 25 (by first | rfl | simp))
  clear HL1 HB1
  have fx0_0_2 := (HB2.out.2.1).at 0 (.bool na) rfl
  have fx0_1_2 := (HB2.out.2.1).at 1 (.string sa) rfl
  have fx0_2_2 := (HB2.out.2.1).at 2 (.bool ma) rfl
  have fx0_3_2 := (HB2.out.2.1).at 3 (.string ta) rfl
  go_wp2_with fail
  refine (H1.out _).mono ?_
  rintro e w1 ⟨rfl, hb⟩
  have HL3 := Lib.hid (bstep HL2.out hb)
  have HB3 := Lib.hid (HB2.out.bel hb)
  clear hb
  clear HL2 HB2 fx0_0_2 fx0_1_2 fx0_2_2 fx0_3_2
  have fx0_0_3 := (HB3.out.2.1).at 0 (.bool na) rfl
  have fz0_0_3 := (HB3.out.2.1).z 0 (show 0 < 4 by decide)
  have fx0_1_3 := (HB3.out.2.1).at 1 (.string sa) rfl
  have fz0_1_3 := (HB3.out.2.1).z 1 (show 1 < 4 by decide)
  have fx0_2_3 := (HB3.out.2.1).at 2 (.bool ma) rfl
  have fz0_2_3 := (HB3.out.2.1).z 2 (show 2 < 4 by decide)
  have fx0_3_3 := (HB3.out.2.1).at 3 (.string ta) rfl
  have fz0_3_3 := (HB3.out.2.1).z 3 (show 3 < 4 by decide)
  have HL4 := Below.setCs (c := w.heap.size) (by have := HO0.out; have := HO1.out; omega) [.bool nc, .string sc, .bool mc, .string tc] _ 0 HL3.out
  have HB4 := Bs.store (c := w.heap.size) [.bool nc, .string sc, .bool mc, .string tc] 0 1 HB3.out (by simp only [Bs.ap, Bs.ap0, List.length_cons, List.length_nil, and_true, true_and]; have := HO0.out; have := HO1.out; omega)
  simp only [setCs, setL, Bs.put, List.set_cons_succ, List.set_cons_zero, Nat.zero_add, Nat.reduceAdd] at HL4 HB4
  replace HL4 := Lib.hid HL4
  replace HB4 := Lib.hid HB4
  clear HL3 HB3
  go_wp2_with fail
  obtain ⟨W2, hW⟩ : ∃ W, ((((w1.setCell ⟨w.heap.size, 0, none⟩ (.bool nc)).setCell ⟨w.heap.size, 1, none⟩ (.string sc)).setCell ⟨w.heap.size, 2, none⟩ (.bool mc)).setCell ⟨w.heap.size, 3, none⟩ (.string tc)) = W := ⟨_, rfl⟩
  rw [hW] at HB4 HL4 ⊢
  clear hW fx0_0_3 fz0_0_3 fx0_1_3 fz0_1_3 fx0_2_3 fz0_2_3 fx0_3_3 fz0_3_3
  refine wp_region_front 6 zvQ (by kernel_rfl) shQ (by kernel_rfl) (by kernel_rfl) (zvQ_alloc _ (by kernel_rfl)) (shQ_store _ (by kernel_rfl)) ?_
  intro mm BW hm1 hm2 hBW
  haveI := clm_some mm BW
  have fq0_0 : ∀ u : Clm mm BW, u.x.cell? ⟨w.heap.size, 0, none⟩ = some (.bool nc) := fun u => ((HB4.out.bel (u.old hm1 hBW)).2.1).at 0 (.bool nc) rfl
  have fq0_1 : ∀ u : Clm mm BW, u.x.cell? ⟨w.heap.size, 1, none⟩ = some (.string sc) := fun u => ((HB4.out.bel (u.old hm1 hBW)).2.1).at 1 (.string sc) rfl
  have fq0_2 : ∀ u : Clm mm BW, u.x.cell? ⟨w.heap.size, 2, none⟩ = some (.bool mc) := fun u => ((HB4.out.bel (u.old hm1 hBW)).2.1).at 2 (.bool mc) rfl
  have fq0_3 : ∀ u : Clm mm BW, u.x.cell? ⟨w.heap.size, 3, none⟩ = some (.string tc) := fun u => ((HB4.out.bel (u.old hm1 hBW)).2.1).at 3 (.string tc) rfl
  simp only [frontOf, unmade, List.take_succ_cons, List.take_zero, List.map_cons, List.map_nil]
  iterate 2 (go_big_quiet_step (fail))
  go_big_quiet_step ((go_at_call 40; exact quiet_clm hm2 H2.out _))
  iterate 3 (go_big_quiet_step (fail))
  refine wpQuiet_nil ?_
  refine ⟨List.forall_mem_nil _, ?_⟩
  intro γ w3 hb hF
  clear hBW this hm1 hm2 fq0_0 fq0_1 fq0_2 fq0_3
  clear BW mm
  simp only [madesFrom, Facts, patch, List.take_succ_cons, List.take_zero, List.drop_succ_cons, List.drop_zero, Nat.zero_add, Nat.reduceAdd, List.mem_cons, List.not_mem_nil, or_false, forall_eq, forall_eq_or_imp, false_imp_iff, implies_true, and_true] at hF ⊢
  have HL5 := Lib.hid (bstep HL4.out hb)
  have HB5 := Lib.hid (HB4.out.bel hb)
  clear hb  hF
  clear HL4 HB4
  have fx1_0_5 := (HB5.out.1).at 0 (.bool false) rfl
  have fz1_0_5 := (HB5.out.1).z 0 (show 0 < 4 by decide)
  have fx1_1_5 := (HB5.out.1).at 1 (.string ⟨#[]⟩) rfl
  have fz1_1_5 := (HB5.out.1).z 1 (show 1 < 4 by decide)
  have fx1_2_5 := (HB5.out.1).at 2 (.bool false) rfl
  have fz1_2_5 := (HB5.out.1).z 2 (show 2 < 4 by decide)
  have fx1_3_5 := (HB5.out.1).at 3 (.string ⟨#[]⟩) rfl
  have fz1_3_5 := (HB5.out.1).z 3 (show 3 < 4 by decide)
  have HL6 := Below.setCs (c := w.heap.size + 1) (by have := HO0.out; have := HO1.out; omega) [.bool nr, .string sr, .bool mc, .string tc] _ 0 HL5.out
  have HB6 := Bs.store (c := w.heap.size + 1) [.bool nr, .string sr, .bool mc, .string tc] 0 0 HB5.out (by simp only [Bs.ap, Bs.ap0, List.length_cons, List.length_nil, and_true, true_and]; have := HO0.out; have := HO1.out; omega)
  simp only [setCs, setL, Bs.put, List.set_cons_succ, List.set_cons_zero, Nat.zero_add, Nat.reduceAdd] at HL6 HB6
  replace HL6 := Lib.hid HL6
  replace HB6 := Lib.hid HB6
  clear HL5 HB5
  have fx1_0_6 := (HB6.out.1).at 0 (.bool nr) rfl
  have fx1_1_6 := (HB6.out.1).at 1 (.string sr) rfl
  have fx1_2_6 := (HB6.out.1).at 2 (.bool mc) rfl
  have fx1_3_6 := (HB6.out.1).at 3 (.string tc) rfl
  go_wp2
  refine bodyPost_ret (v := .agg #[.bool nr, .string sr, .bool mc, .string tc]) (by simp [results, Tryd.results20, go_sem, fx1_0_6, fx1_1_6, fx1_2_6, fx1_3_6]) rfl ?_
  exact ⟨rfl, HL6.out⟩
end Go.Proofs.Gv

namespace Go.Proofs.Gv
open Go Go.RowKit

set_option maxRecDepth 100000 in
set_option maxHeartbeats 4000000 in
theorem ratCmp_w {na ma nc mc nb mb nd md nx ny : Bool} {sa ta sc tc sb tb sd td sx sy : ByteArray} {z0 : Int} (w : World)
    (H1 : ∀ W, Calls Tryd.prog 36 #[.agg #[.bool na, .string sa, .bool ma, .string ta]] W fun e w' => e = .returned (.agg #[.bool nc, .string sc, .bool mc, .string tc]) ∧ Below W.heap.size W w')
    (H2 : ∀ W, Calls Tryd.prog 36 #[.agg #[.bool nb, .string sb, .bool mb, .string tb]] W fun e w' => e = .returned (.agg #[.bool nd, .string sd, .bool md, .string td]) ∧ Below W.heap.size W w')
    (H3 : ∀ W, Calls Tryd.prog 26 #[.agg #[.bool nc, .string sc], .agg #[.bool md, .string td]] W fun e w' => e = .returned (.agg #[.bool nx, .string sx]) ∧ Below W.heap.size W w')
    (H4 : ∀ W, Calls Tryd.prog 26 #[.agg #[.bool nd, .string sd], .agg #[.bool mc, .string tc]] W fun e w' => e = .returned (.agg #[.bool ny, .string sy]) ∧ Below W.heap.size W w')
    (H5 : ∀ W, Calls Tryd.prog 23 #[.agg #[.bool nx, .string sx], .agg #[.bool ny, .string sy]] W fun e w' => e = .returned (.int .i64 z0) ∧ Below W.heap.size W w')
    : Calls Tryd.prog 15 #[.agg #[.bool na, .string sa, .bool ma, .string ta], .agg #[.bool nb, .string sb, .bool mb, .string tb]] w fun e w' => e = .returned (.int .i64 z0) ∧ Below w.heap.size w w' := by
  replace H1 := Lib.hid H1
  replace H2 := Lib.hid H2
  replace H3 := Lib.hid H3
  replace H4 := Lib.hid H4
  replace H5 := Lib.hid H5
  go_enter Tryd.func15, Tryd.ntmps15
  have HL0 := Lib.hid (Below.refl w.heap.size w)
  have HB0 := Lib.hid (show Bs [] w from trivial)
  have HO0 := Lib.hid (show w.heap.size ≤ w.heap.size from by have := HL0.out.size; first | omega | (simp at this; omega))
  have HL1 := Lib.hid (HL0.out.alloc HL0.out.size (.cells #[.bool na, .string sa, .bool ma, .string ta] 25))
  have HB1 := Lib.hid (HB0.out.push (w.heap.size) #[.bool na, .string sa, .bool ma, .string ta] 25 (by first | rfl | simp))
  clear HL0 HB0
  have HO1 := Lib.hid (show w.heap.size < w.heap.size + 1 from by have := (HB1.out.1).lt; first | omega | (simp at this; omega))
  have HL2 := Lib.hid (HL1.out.alloc HL1.out.size (.cells #[.bool nb, .string sb, .bool mb, .string tb] 25))
  have HB2 := Lib.hid (HB1.out.push (w.heap.size + 1) #[.bool nb, .string sb, .bool mb, .string tb] 25 (by first | rfl | simp))
  clear HL1 HB1
  go_wp2_with fail
  obtain ⟨W1, hW⟩ : ∃ W, ((w.alloc (.cells #[.bool na, .string sa, .bool ma, .string ta] 25)).alloc (.cells #[.bool nb, .string sb, .bool mb, .string tb] 25)) = W := ⟨_, rfl⟩
  rw [hW] at HB2 HL2 ⊢
  clear hW
  refine wp_region_front 4 zvQ (by kernel_rfl) shQ (by kernel_rfl) (by kernel_rfl) (zvQ_alloc _ (by kernel_rfl)) (shQ_store _ (by kernel_rfl)) ?_
  intro mm BW hm1 hm2 hBW
  haveI := clm_some mm BW
  have fq0_0 : ∀ u : Clm mm BW, u.x.cell? ⟨w.heap.size, 0, none⟩ = some (.bool na) := fun u => ((HB2.out.bel (u.old hm1 hBW)).2.1).at 0 (.bool na) rfl
  have fq0_1 : ∀ u : Clm mm BW, u.x.cell? ⟨w.heap.size, 1, none⟩ = some (.string sa) := fun u => ((HB2.out.bel (u.old hm1 hBW)).2.1).at 1 (.string sa) rfl
  have fq0_2 : ∀ u : Clm mm BW, u.x.cell? ⟨w.heap.size, 2, none⟩ = some (.bool ma) := fun u => ((HB2.out.bel (u.old hm1 hBW)).2.1).at 2 (.bool ma) rfl
  have fq0_3 : ∀ u : Clm mm BW, u.x.cell? ⟨w.heap.size, 3, none⟩ = some (.string ta) := fun u => ((HB2.out.bel (u.old hm1 hBW)).2.1).at 3 (.string ta) rfl
  have fq1_0 : ∀ u : Clm mm BW, u.x.cell? ⟨w.heap.size + 1, 0, none⟩ = some (.bool nb) := fun u => ((HB2.out.bel (u.old hm1 hBW)).1).at 0 (.bool nb) rfl
  have fq1_1 : ∀ u : Clm mm BW, u.x.cell? ⟨w.heap.size + 1, 1, none⟩ = some (.string sb) := fun u => ((HB2.out.bel (u.old hm1 hBW)).1).at 1 (.string sb) rfl
  have fq1_2 : ∀ u : Clm mm BW, u.x.cell? ⟨w.heap.size + 1, 2, none⟩ = some (.bool mb) := fun u => ((HB2.out.bel (u.old hm1 hBW)).1).at 2 (.bool mb) rfl
  have fq1_3 : ∀ u : Clm mm BW, u.x.cell? ⟨w.heap.size + 1, 3, none⟩ = some (.string tb) := fun u => ((HB2.out.bel (u.old hm1 hBW)).1).at 3 (.string tb) rfl
  simp only [frontOf, unmade, List.take_succ_cons, List.take_zero, List.map_cons, List.map_nil]
  iterate 1 (go_big_quiet_step (fail))
  go_big_quiet_step ((go_at_call 36; exact quiet_clm hm2 H1.out _))
  iterate 1 (go_big_quiet_step (fail))
  go_big_quiet_step ((go_at_call 36; exact quiet_clm hm2 H2.out _))
  refine wpQuiet_nil ?_
  refine ⟨List.forall_mem_nil _, ?_⟩
  intro γ w2 hb hF
  clear hBW this hm1 hm2 fq0_0 fq0_1 fq0_2 fq0_3 fq1_0 fq1_1 fq1_2 fq1_3
  clear BW mm
  simp only [madesFrom, Facts, patch, List.take_succ_cons, List.take_zero, List.drop_succ_cons, List.drop_zero, Nat.zero_add, Nat.reduceAdd, List.mem_cons, List.not_mem_nil, or_false, forall_eq, forall_eq_or_imp, false_imp_iff, implies_true, and_true] at hF ⊢
  have HL3 := Lib.hid (bstep HL2.out hb)
  have HB3 := Lib.hid (HB2.out.bel hb)
  clear hb  hF
  clear HL2 HB2
  have fx0_0_3 := (HB3.out.2.1).at 0 (.bool na) rfl
  have fz0_0_3 := (HB3.out.2.1).z 0 (show 0 < 4 by decide)
  have fx0_1_3 := (HB3.out.2.1).at 1 (.string sa) rfl
  have fz0_1_3 := (HB3.out.2.1).z 1 (show 1 < 4 by decide)
  have fx0_2_3 := (HB3.out.2.1).at 2 (.bool ma) rfl
  have fz0_2_3 := (HB3.out.2.1).z 2 (show 2 < 4 by decide)
  have fx0_3_3 := (HB3.out.2.1).at 3 (.string ta) rfl
  have fz0_3_3 := (HB3.out.2.1).z 3 (show 3 < 4 by decide)
  have HL4 := Below.setCs (c := w.heap.size) (by have := HO0.out; have := HO1.out; omega) [.bool nc, .string sc, .bool mc, .string tc] _ 0 HL3.out
  have HB4 := Bs.store (c := w.heap.size) [.bool nc, .string sc, .bool mc, .string tc] 0 1 HB3.out (by simp only [Bs.ap, Bs.ap0, List.length_cons, List.length_nil, and_true, true_and]; have := HO0.out; have := HO1.out; omega)
  simp only [setCs, setL, Bs.put, List.set_cons_succ, List.set_cons_zero, Nat.zero_add, Nat.reduceAdd] at HL4 HB4
  replace HL4 := Lib.hid HL4
  replace HB4 := Lib.hid HB4
  clear HL3 HB3
  have fx1_0_4 := (HB4.out.1).at 0 (.bool nb) rfl
  have fz1_0_4 := (HB4.out.1).z 0 (show 0 < 4 by decide)
  have fx1_1_4 := (HB4.out.1).at 1 (.string sb) rfl
  have fz1_1_4 := (HB4.out.1).z 1 (show 1 < 4 by decide)
  have fx1_2_4 := (HB4.out.1).at 2 (.bool mb) rfl
  have fz1_2_4 := (HB4.out.1).z 2 (show 2 < 4 by decide)
  have fx1_3_4 := (HB4.out.1).at 3 (.string tb) rfl
  have fz1_3_4 := (HB4.out.1).z 3 (show 3 < 4 by decide)
  have HL5 := Below.setCs (c := w.heap.size + 1) (by have := HO0.out; have := HO1.out; omega) [.bool nd, .string sd, .bool md, .string td] _ 0 HL4.out
  have HB5 := Bs.store (c := w.heap.size + 1) [.bool nd, .string sd, .bool md, .string td] 0 0 HB4.out (by simp only [Bs.ap, Bs.ap0, List.length_cons, List.length_nil, and_true, true_and]; have := HO0.out; have := HO1.out; omega)
  simp only [setCs, setL, Bs.put, List.set_cons_succ, List.set_cons_zero, Nat.zero_add, Nat.reduceAdd] at HL5 HB5
  replace HL5 := Lib.hid HL5
  replace HB5 := Lib.hid HB5
  clear HL4 HB4
  go_wp2_with fail
  obtain ⟨W3, hW⟩ : ∃ W, ((((((((w2.setCell ⟨w.heap.size, 0, none⟩ (.bool nc)).setCell ⟨w.heap.size, 1, none⟩ (.string sc)).setCell ⟨w.heap.size, 2, none⟩ (.bool mc)).setCell ⟨w.heap.size, 3, none⟩ (.string tc)).setCell ⟨w.heap.size + 1, 0, none⟩ (.bool nd)).setCell ⟨w.heap.size + 1, 1, none⟩ (.string sd)).setCell ⟨w.heap.size + 1, 2, none⟩ (.bool md)).setCell ⟨w.heap.size + 1, 3, none⟩ (.string td)) = W := ⟨_, rfl⟩
  rw [hW] at HB5 HL5 ⊢
  clear hW fx0_0_3 fz0_0_3 fx0_1_3 fz0_1_3 fx0_2_3 fz0_2_3 fx0_3_3 fz0_3_3 fx1_0_4 fz1_0_4 fx1_1_4 fz1_1_4 fx1_2_4 fz1_2_4 fx1_3_4 fz1_3_4
  haveI := cls_some W3
  have fq0_0 : ∀ u : Cl W3, u.x.cell? ⟨w.heap.size, 0, none⟩ = some (.bool nc) := fun u => ((HB5.out.bel u.h).2.1).at 0 (.bool nc) rfl
  have fq0_1 : ∀ u : Cl W3, u.x.cell? ⟨w.heap.size, 1, none⟩ = some (.string sc) := fun u => ((HB5.out.bel u.h).2.1).at 1 (.string sc) rfl
  have fq1_2 : ∀ u : Cl W3, u.x.cell? ⟨w.heap.size + 1, 2, none⟩ = some (.bool md) := fun u => ((HB5.out.bel u.h).1).at 2 (.bool md) rfl
  have fq1_3 : ∀ u : Cl W3, u.x.cell? ⟨w.heap.size + 1, 3, none⟩ = some (.string td) := fun u => ((HB5.out.bel u.h).1).at 3 (.string td) rfl
  have fq1_0 : ∀ u : Cl W3, u.x.cell? ⟨w.heap.size + 1, 0, none⟩ = some (.bool nd) := fun u => ((HB5.out.bel u.h).1).at 0 (.bool nd) rfl
  have fq1_1 : ∀ u : Cl W3, u.x.cell? ⟨w.heap.size + 1, 1, none⟩ = some (.string sd) := fun u => ((HB5.out.bel u.h).1).at 1 (.string sd) rfl
  have fq0_2 : ∀ u : Cl W3, u.x.cell? ⟨w.heap.size, 2, none⟩ = some (.bool mc) := fun u => ((HB5.out.bel u.h).2.1).at 2 (.bool mc) rfl
  have fq0_3 : ∀ u : Cl W3, u.x.cell? ⟨w.heap.size, 3, none⟩ = some (.string tc) := fun u => ((HB5.out.bel u.h).2.1).at 3 (.string tc) rfl
  refine wp_region_cls (by kernel_rfl) ?_
  iterate 4 (go_big_quiet_step (fail))
  go_big_quiet_step ((go_at_call 26; exact quiet_cls H3.out _))
  iterate 4 (go_big_quiet_step (fail))
  go_big_quiet_step ((go_at_call 26; exact quiet_cls H4.out _))
  go_big_quiet_step ((go_at_call 23; exact quiet_cls H5.out _))
  iterate 1 (go_big_quiet_step (fail))
  refine wpQuiet_nil ?_
  intro w4 hw9
  have hb : Below W3.heap.size W3 w4 := by obtain ⟨u, rfl⟩ := hw9; exact u.h
  clear hw9 this fq0_0 fq0_1 fq1_2 fq1_3 fq1_0 fq1_1 fq0_2 fq0_3
  have HL6 := Lib.hid (bstep HL5.out hb)
  have HB6 := Lib.hid (HB5.out.bel hb)
  clear hb
  clear HL5 HB5
  go_wp2
  go_ret
  exact ⟨rfl, HL6.out⟩
end Go.Proofs.Gv
