/- Layer 02: functions of rational, walked over the results of what they call (printed by gen02a.py). -/
import Derived.Test.YtamempcabmlodaaDoorRatTabP
set_option linter.unusedSimpArgs false
set_option linter.unusedVariables false
namespace Go.Proofs.Gv
open Go Go.RowKit

set_option maxRecDepth 100000 in
set_option maxHeartbeats 4000000 in
theorem ratCheck_ok {na ma : Bool} {sa ta : ByteArray} (w : World)
    (H1 : ∀ W, Calls Tryd.prog 36 #[.agg #[.bool na, .string sa, .bool ma, .string ta]] W fun e w' => e = .returned (.agg #[.bool na, .string sa, .bool ma, .string ta]) ∧ Below W.heap.size W w')
    : Calls Tryd.prog 14 #[.agg #[.bool na, .string sa, .bool ma, .string ta]] w fun e w' => e = .returned (.int .i64 0) ∧ Below w.heap.size w w' := by
  replace H1 := Lib.hid H1
  have hq : eqQ na sa ma ta na sa ma ta = true := eqQ_iff.2 ⟨⟨rfl, rfl⟩, ⟨rfl, rfl⟩⟩
  go_enter Tryd.func14, Tryd.ntmps14
  have HL0 := Lib.hid (Below.refl w.heap.size w)
  have HB0 := Lib.hid (show Bs [] w from trivial)
  have HO0 := Lib.hid (show w.heap.size ≤ w.heap.size from by have := HL0.out.size; first | omega | (simp at this; omega))
  have HL1 := Lib.hid (HL0.out.alloc HL0.out.size (.cells #[.bool na, .string sa, .bool ma, .string ta] 25))
  have HB1 := Lib.hid (HB0.out.push (w.heap.size) #[.bool na, .string sa, .bool ma, .string ta] 25 (by first | rfl | simp))
  clear HL0 HB0
  go_wp2_with fail
  obtain ⟨W1, hW⟩ : ∃ W, (w.alloc (.cells #[.bool na, .string sa, .bool ma, .string ta] 25)) = W := ⟨_, rfl⟩
  rw [hW] at HB1 HL1 ⊢
  clear hW
  haveI := cls_some W1
  have fq0_0 : ∀ u : Cl W1, u.x.cell? ⟨w.heap.size, 0, none⟩ = some (.bool na) := fun u => ((HB1.out.bel u.h).1).at 0 (.bool na) rfl
  have fq0_1 : ∀ u : Cl W1, u.x.cell? ⟨w.heap.size, 1, none⟩ = some (.string sa) := fun u => ((HB1.out.bel u.h).1).at 1 (.string sa) rfl
  have fq0_2 : ∀ u : Cl W1, u.x.cell? ⟨w.heap.size, 2, none⟩ = some (.bool ma) := fun u => ((HB1.out.bel u.h).1).at 2 (.bool ma) rfl
  have fq0_3 : ∀ u : Cl W1, u.x.cell? ⟨w.heap.size, 3, none⟩ = some (.string ta) := fun u => ((HB1.out.bel u.h).1).at 3 (.string ta) rfl
  refine wp_region_cls (by kernel_rfl) ?_
  iterate 1 (go_big_quiet_step (fail))
  go_big_quiet_step ((go_at_call 36; exact quiet_cls H1.out _))
  iterate 2 (go_big_quiet_step (fail))
  refine wpQuiet_nil ?_
  intro w2 hw9
  have hb : Below W1.heap.size W1 w2 := by obtain ⟨u, rfl⟩ := hw9; exact u.h
  clear hw9 this fq0_0 fq0_1 fq0_2 fq0_3
  have HL2 := Lib.hid (bstep HL1.out hb)
  have HB2 := Lib.hid (HB1.out.bel hb)
  clear hb
  clear HL1 HB1
  go_wp2
  go_ret
  exact ⟨rfl, HL2.out⟩
end Go.Proofs.Gv

namespace Go.Proofs.Gv
open Go Go.RowKit

set_option maxRecDepth 100000 in
set_option maxHeartbeats 4000000 in
theorem ratCheck_no (na nc ma mc : Bool) (sa sc ta tc : ByteArray) (hq : eqQ nc sc mc tc na sa ma ta = false) (w : World)
    (H1 : ∀ W, Calls Tryd.prog 36 #[.agg #[.bool na, .string sa, .bool ma, .string ta]] W fun e w' => e = .returned (.agg #[.bool nc, .string sc, .bool mc, .string tc]) ∧ Below W.heap.size W w')
    : Calls Tryd.prog 14 #[.agg #[.bool na, .string sa, .bool ma, .string ta]] w fun e w' => e = .returned (.int .i64 1) ∧ Below w.heap.size w w' := by
  replace H1 := Lib.hid H1
  go_enter Tryd.func14, Tryd.ntmps14
  have HL0 := Lib.hid (Below.refl w.heap.size w)
  have HB0 := Lib.hid (show Bs [] w from trivial)
  have HO0 := Lib.hid (show w.heap.size ≤ w.heap.size from by have := HL0.out.size; first | omega | (simp at this; omega))
  have HL1 := Lib.hid (HL0.out.alloc HL0.out.size (.cells #[.bool na, .string sa, .bool ma, .string ta] 25))
  have HB1 := Lib.hid (HB0.out.push (w.heap.size) #[.bool na, .string sa, .bool ma, .string ta] 25 (by first | rfl | simp))
  clear HL0 HB0
  go_wp2_with fail
  obtain ⟨W1, hW⟩ : ∃ W, (w.alloc (.cells #[.bool na, .string sa, .bool ma, .string ta] 25)) = W := ⟨_, rfl⟩
  rw [hW] at HB1 HL1 ⊢
  clear hW
  haveI := cls_some W1
  have fq0_0 : ∀ u : Cl W1, u.x.cell? ⟨w.heap.size, 0, none⟩ = some (.bool na) := fun u => ((HB1.out.bel u.h).1).at 0 (.bool na) rfl
  have fq0_1 : ∀ u : Cl W1, u.x.cell? ⟨w.heap.size, 1, none⟩ = some (.string sa) := fun u => ((HB1.out.bel u.h).1).at 1 (.string sa) rfl
  have fq0_2 : ∀ u : Cl W1, u.x.cell? ⟨w.heap.size, 2, none⟩ = some (.bool ma) := fun u => ((HB1.out.bel u.h).1).at 2 (.bool ma) rfl
  have fq0_3 : ∀ u : Cl W1, u.x.cell? ⟨w.heap.size, 3, none⟩ = some (.string ta) := fun u => ((HB1.out.bel u.h).1).at 3 (.string ta) rfl
  refine wp_region_cls (by kernel_rfl) ?_
  iterate 1 (go_big_quiet_step (fail))
  go_big_quiet_step ((go_at_call 36; exact quiet_cls H1.out _))
  iterate 2 (go_big_quiet_step (fail))
  refine wpQuiet_nil ?_
  intro w2 hw9
  have hb : Below W1.heap.size W1 w2 := by obtain ⟨u, rfl⟩ := hw9; exact u.h
  clear hw9 this fq0_0 fq0_1 fq0_2 fq0_3
  have HL2 := Lib.hid (bstep HL1.out hb)
  have HB2 := Lib.hid (HB1.out.bel hb)
  clear hb
  clear HL1 HB1
  go_wp2
  go_ret
  exact ⟨rfl, HL2.out⟩
end Go.Proofs.Gv

namespace Go.Proofs.Gv
open Go Go.RowKit

set_option maxRecDepth 100000 in
set_option maxHeartbeats 4000000 in
theorem do0_w {na ma nc mc nb mb nd md nx ny nr mr : Bool} {sa ta sc tc sb tb sd td sx sy sr tr : ByteArray} (w : World)
    (H1 : ∀ W, Calls Tryd.prog 36 #[.agg #[.bool na, .string sa, .bool ma, .string ta]] W fun e w' => e = .returned (.agg #[.bool nc, .string sc, .bool mc, .string tc]) ∧ Below W.heap.size W w')
    (H2 : ∀ W, Calls Tryd.prog 36 #[.agg #[.bool nb, .string sb, .bool mb, .string tb]] W fun e w' => e = .returned (.agg #[.bool nd, .string sd, .bool md, .string td]) ∧ Below W.heap.size W w')
    (H3 : ∀ W, Calls Tryd.prog 77 #[.agg #[.bool nc, .string sc, .bool mc, .string tc], .agg #[.bool nd, .string sd, .bool md, .string td]] W fun e w' => e = .returned (.tuple #[.agg #[.bool nx, .string sx], .agg #[.bool ny, .string sy]]) ∧ Below W.heap.size W w')
    (H4 : ∀ W, Calls Tryd.prog 41 #[.agg #[.bool nx, .string sx], .agg #[.bool ny, .string sy]] W fun e w' => e = .returned (.agg #[.bool nr, .string sr, .bool mr, .string tr]) ∧ Below W.heap.size W w')
    : Calls Tryd.prog 38 #[.int .i64 0, .agg #[.bool na, .string sa, .bool ma, .string ta], .agg #[.bool nb, .string sb, .bool mb, .string tb]] w fun e w' => e = .returned (.agg #[.bool nr, .string sr, .bool mr, .string tr]) ∧ Below w.heap.size w w' := by
  replace H1 := Lib.hid H1
  replace H2 := Lib.hid H2
  replace H3 := Lib.hid H3
  replace H4 := Lib.hid H4
  go_enter Tryd.func38, Tryd.ntmps38
  have HL0 := Lib.hid (Below.refl w.heap.size w)
  have HB0 := Lib.hid (show Bs [] w from trivial)
  have HO0 := Lib.hid (show w.heap.size ≤ w.heap.size from by have := HL0.out.size; first | omega | (simp at this; omega))
  have HL1 := Lib.hid (HL0.out.alloc HL0.out.size (.cells #[.bool na, .string sa, .bool ma, .string ta] 25))
  have HB1 := Lib.hid (HB0.out.push (w.heap.size) #[.bool na, .string sa, .bool ma, .string ta] 25 (by first | rfl | simp))
  clear HL0 HB0
  have HO1 := Lib.hid (show w.heap.size < w.heap.size + 1 from by have := (HB1.out.1).lt; first | omega | (simp at this; omega))
  have HL2 := Lib.hid (HL1.out.alloc HL1.out.size (.cells #[.bool nb, .string sb, .bool mb, .string tb] 25))
  have HB2 := Lib.hid (HB1.out.push (w.heap.size + 1) #[.bool nb, .string sb, .bool mb, .string tb] 25 (by first | rfl | simp))
  clear HL1 HB1
  have HO2 := Lib.hid (show w.heap.size + 1 < w.heap.size + 1 + 1 from by have := (HB2.out.1).lt; first | omega | (simp at this; omega))
  have HL3 := Lib.hid (HL2.out.alloc HL2.out.size (.cells #[.bool false, .string ⟨#[]⟩, .bool false, .string ⟨#[]⟩] 25))
  have HB3 := Lib.hid (HB2.out.push (w.heap.size + 1 + 1) #[.bool false, .string ⟨#[]⟩, .bool false, .string ⟨#[]⟩] 25 (by first | rfl | simp))
  clear HL2 HB2
  go_wp2_with fail
  obtain ⟨W1, hW⟩ : ∃ W, (((w.alloc (.cells #[.bool na, .string sa, .bool ma, .string ta] 25)).alloc (.cells #[.bool nb, .string sb, .bool mb, .string tb] 25)).alloc (.cells #[.bool false, .string ⟨#[]⟩, .bool false, .string ⟨#[]⟩] 25)) = W := ⟨_, rfl⟩
  rw [hW] at HB3 HL3 ⊢
  clear hW
  refine wp_region_front 12 zvQ (by kernel_rfl) shQ (by kernel_rfl) (by kernel_rfl) (zvQ_alloc _ (by kernel_rfl)) (shQ_store _ (by kernel_rfl)) ?_
  intro mm BW hm1 hm2 hBW
  haveI := clm_some mm BW
  have fq0_0 : ∀ u : Clm mm BW, u.x.cell? ⟨w.heap.size, 0, none⟩ = some (.bool na) := fun u => ((HB3.out.bel (u.old hm1 hBW)).2.2.1).at 0 (.bool na) rfl
  have fq0_1 : ∀ u : Clm mm BW, u.x.cell? ⟨w.heap.size, 1, none⟩ = some (.string sa) := fun u => ((HB3.out.bel (u.old hm1 hBW)).2.2.1).at 1 (.string sa) rfl
  have fq0_2 : ∀ u : Clm mm BW, u.x.cell? ⟨w.heap.size, 2, none⟩ = some (.bool ma) := fun u => ((HB3.out.bel (u.old hm1 hBW)).2.2.1).at 2 (.bool ma) rfl
  have fq0_3 : ∀ u : Clm mm BW, u.x.cell? ⟨w.heap.size, 3, none⟩ = some (.string ta) := fun u => ((HB3.out.bel (u.old hm1 hBW)).2.2.1).at 3 (.string ta) rfl
  have fq1_0 : ∀ u : Clm mm BW, u.x.cell? ⟨w.heap.size + 1, 0, none⟩ = some (.bool nb) := fun u => ((HB3.out.bel (u.old hm1 hBW)).2.1).at 0 (.bool nb) rfl
  have fq1_1 : ∀ u : Clm mm BW, u.x.cell? ⟨w.heap.size + 1, 1, none⟩ = some (.string sb) := fun u => ((HB3.out.bel (u.old hm1 hBW)).2.1).at 1 (.string sb) rfl
  have fq1_2 : ∀ u : Clm mm BW, u.x.cell? ⟨w.heap.size + 1, 2, none⟩ = some (.bool mb) := fun u => ((HB3.out.bel (u.old hm1 hBW)).2.1).at 2 (.bool mb) rfl
  have fq1_3 : ∀ u : Clm mm BW, u.x.cell? ⟨w.heap.size + 1, 3, none⟩ = some (.string tb) := fun u => ((HB3.out.bel (u.old hm1 hBW)).2.1).at 3 (.string tb) rfl
  simp only [frontOf, unmade, List.take_succ_cons, List.take_zero, List.map_cons, List.map_nil]
  go_big_quiet_step ((go_at_call 59; exact quiet_clm hm2 table_any _))
  iterate 4 (go_big_quiet_step (fail))
  go_big_quiet_step ((go_at_call 36; exact quiet_clm hm2 H1.out _))
  iterate 1 (go_big_quiet_step (fail))
  go_big_quiet_step ((go_at_call 36; exact quiet_clm hm2 H2.out _))
  go_big_quiet_step ((go_at_call 77; exact quiet_clm hm2 H3.out _))
  iterate 2 (go_big_quiet_step (fail))
  go_big_quiet_step ((go_at_call 41; exact quiet_clm hm2 H4.out _))
  refine wpQuiet_nil ?_
  refine ⟨List.forall_mem_nil _, ?_⟩
  intro γ w2 hb hF
  clear hBW this hm1 hm2 fq0_0 fq0_1 fq0_2 fq0_3 fq1_0 fq1_1 fq1_2 fq1_3
  clear BW mm
  simp only [madesFrom, Facts, patch, List.take_succ_cons, List.take_zero, List.drop_succ_cons, List.drop_zero, Nat.zero_add, Nat.reduceAdd, List.mem_cons, List.not_mem_nil, or_false, forall_eq, forall_eq_or_imp, false_imp_iff, implies_true, and_true] at hF ⊢
  have HL4 := Lib.hid (bstep HL3.out hb)
  have HB4 := Lib.hid (HB3.out.bel hb)
  clear hb  hF
  clear HL3 HB3
  have fx2_0_4 := (HB4.out.1).at 0 (.bool false) rfl
  have fz2_0_4 := (HB4.out.1).z 0 (show 0 < 4 by decide)
  have fx2_1_4 := (HB4.out.1).at 1 (.string ⟨#[]⟩) rfl
  have fz2_1_4 := (HB4.out.1).z 1 (show 1 < 4 by decide)
  have fx2_2_4 := (HB4.out.1).at 2 (.bool false) rfl
  have fz2_2_4 := (HB4.out.1).z 2 (show 2 < 4 by decide)
  have fx2_3_4 := (HB4.out.1).at 3 (.string ⟨#[]⟩) rfl
  have fz2_3_4 := (HB4.out.1).z 3 (show 3 < 4 by decide)
  have HL5 := Below.setCs (c := w.heap.size + 1 + 1) (by have := HO0.out; have := HO1.out; have := HO2.out; omega) [.bool nr, .string sr, .bool mr, .string tr] _ 0 HL4.out
  have HB5 := Bs.store (c := w.heap.size + 1 + 1) [.bool nr, .string sr, .bool mr, .string tr] 0 0 HB4.out (by simp only [Bs.ap, Bs.ap0, List.length_cons, List.length_nil, and_true, true_and]; have := HO0.out; have := HO1.out; have := HO2.out; omega)
  simp only [setCs, setL, Bs.put, List.set_cons_succ, List.set_cons_zero, Nat.zero_add, Nat.reduceAdd] at HL5 HB5
  replace HL5 := Lib.hid HL5
  replace HB5 := Lib.hid HB5
  clear HL4 HB4
  have fx2_0_5 := (HB5.out.1).at 0 (.bool nr) rfl
  have fx2_1_5 := (HB5.out.1).at 1 (.string sr) rfl
  have fx2_2_5 := (HB5.out.1).at 2 (.bool mr) rfl
  have fx2_3_5 := (HB5.out.1).at 3 (.string tr) rfl
  go_wp2
  refine bodyPost_ret (v := .agg #[.bool nr, .string sr, .bool mr, .string tr]) (by simp [results, Tryd.results38, go_sem, fx2_0_5, fx2_1_5, fx2_2_5, fx2_3_5]) rfl ?_
  exact ⟨rfl, HL5.out⟩
end Go.Proofs.Gv

namespace Go.Proofs.Gv
open Go Go.RowKit

set_option maxRecDepth 100000 in
set_option maxHeartbeats 4000000 in
theorem do1_w {na ma nc mc nb mb nd md nx ny nr mr : Bool} {sa ta sc tc sb tb sd td sx sy sr tr : ByteArray} (w : World)
    (H1 : ∀ W, Calls Tryd.prog 36 #[.agg #[.bool na, .string sa, .bool ma, .string ta]] W fun e w' => e = .returned (.agg #[.bool nc, .string sc, .bool mc, .string tc]) ∧ Below W.heap.size W w')
    (H2 : ∀ W, Calls Tryd.prog 36 #[.agg #[.bool nb, .string sb, .bool mb, .string tb]] W fun e w' => e = .returned (.agg #[.bool nd, .string sd, .bool md, .string td]) ∧ Below W.heap.size W w')
    (H3 : ∀ W, Calls Tryd.prog 78 #[.agg #[.bool nc, .string sc, .bool mc, .string tc], .agg #[.bool nd, .string sd, .bool md, .string td]] W fun e w' => e = .returned (.tuple #[.agg #[.bool nx, .string sx], .agg #[.bool ny, .string sy]]) ∧ Below W.heap.size W w')
    (H4 : ∀ W, Calls Tryd.prog 41 #[.agg #[.bool nx, .string sx], .agg #[.bool ny, .string sy]] W fun e w' => e = .returned (.agg #[.bool nr, .string sr, .bool mr, .string tr]) ∧ Below W.heap.size W w')
    : Calls Tryd.prog 38 #[.int .i64 1, .agg #[.bool na, .string sa, .bool ma, .string ta], .agg #[.bool nb, .string sb, .bool mb, .string tb]] w fun e w' => e = .returned (.agg #[.bool nr, .string sr, .bool mr, .string tr]) ∧ Below w.heap.size w w' := by
  replace H1 := Lib.hid H1
  replace H2 := Lib.hid H2
  replace H3 := Lib.hid H3
  replace H4 := Lib.hid H4
  go_enter Tryd.func38, Tryd.ntmps38
  have HL0 := Lib.hid (Below.refl w.heap.size w)
  have HB0 := Lib.hid (show Bs [] w from trivial)
  have HO0 := Lib.hid (show w.heap.size ≤ w.heap.size from by have := HL0.out.size; first | omega | (simp at this; omega))
  have HL1 := Lib.hid (HL0.out.alloc HL0.out.size (.cells #[.bool na, .string sa, .bool ma, .string ta] 25))
  have HB1 := Lib.hid (HB0.out.push (w.heap.size) #[.bool na, .string sa, .bool ma, .string ta] 25 (by first | rfl | simp))
  clear HL0 HB0
  have HO1 := Lib.hid (show w.heap.size < w.heap.size + 1 from by have := (HB1.out.1).lt; first | omega | (simp at this; omega))
  have HL2 := Lib.hid (HL1.out.alloc HL1.out.size (.cells #[.bool nb, .string sb, .bool mb, .string tb] 25))
  have HB2 := Lib.hid (HB1.out.push (w.heap.size + 1) #[.bool nb, .string sb, .bool mb, .string tb] 25 (by first | rfl | simp))
  clear HL1 HB1
  have HO2 := Lib.hid (show w.heap.size + 1 < w.heap.size + 1 + 1 from by have := (HB2.out.1).lt; first | omega | (simp at this; omega))
  have HL3 := Lib.hid (HL2.out.alloc HL2.out.size (.cells #[.bool false, .string ⟨#[]⟩, .bool false, .string ⟨#[]⟩] 25))
  have HB3 := Lib.hid (HB2.out.push (w.heap.size + 1 + 1) #[.bool false, .string ⟨#[]⟩, .bool false, .string ⟨#[]⟩] 25 (by first | rfl | simp))
  clear HL2 HB2
  go_wp2_with fail
  obtain ⟨W1, hW⟩ : ∃ W, (((w.alloc (.cells #[.bool na, .string sa, .bool ma, .string ta] 25)).alloc (.cells #[.bool nb, .string sb, .bool mb, .string tb] 25)).alloc (.cells #[.bool false, .string ⟨#[]⟩, .bool false, .string ⟨#[]⟩] 25)) = W := ⟨_, rfl⟩
  rw [hW] at HB3 HL3 ⊢
  clear hW
  refine wp_region_front 12 zvQ (by kernel_rfl) shQ (by kernel_rfl) (by kernel_rfl) (zvQ_alloc _ (by kernel_rfl)) (shQ_store _ (by kernel_rfl)) ?_
  intro mm BW hm1 hm2 hBW
  haveI := clm_some mm BW
  have fq0_0 : ∀ u : Clm mm BW, u.x.cell? ⟨w.heap.size, 0, none⟩ = some (.bool na) := fun u => ((HB3.out.bel (u.old hm1 hBW)).2.2.1).at 0 (.bool na) rfl
  have fq0_1 : ∀ u : Clm mm BW, u.x.cell? ⟨w.heap.size, 1, none⟩ = some (.string sa) := fun u => ((HB3.out.bel (u.old hm1 hBW)).2.2.1).at 1 (.string sa) rfl
  have fq0_2 : ∀ u : Clm mm BW, u.x.cell? ⟨w.heap.size, 2, none⟩ = some (.bool ma) := fun u => ((HB3.out.bel (u.old hm1 hBW)).2.2.1).at 2 (.bool ma) rfl
  have fq0_3 : ∀ u : Clm mm BW, u.x.cell? ⟨w.heap.size, 3, none⟩ = some (.string ta) := fun u => ((HB3.out.bel (u.old hm1 hBW)).2.2.1).at 3 (.string ta) rfl
  have fq1_0 : ∀ u : Clm mm BW, u.x.cell? ⟨w.heap.size + 1, 0, none⟩ = some (.bool nb) := fun u => ((HB3.out.bel (u.old hm1 hBW)).2.1).at 0 (.bool nb) rfl
  have fq1_1 : ∀ u : Clm mm BW, u.x.cell? ⟨w.heap.size + 1, 1, none⟩ = some (.string sb) := fun u => ((HB3.out.bel (u.old hm1 hBW)).2.1).at 1 (.string sb) rfl
  have fq1_2 : ∀ u : Clm mm BW, u.x.cell? ⟨w.heap.size + 1, 2, none⟩ = some (.bool mb) := fun u => ((HB3.out.bel (u.old hm1 hBW)).2.1).at 2 (.bool mb) rfl
  have fq1_3 : ∀ u : Clm mm BW, u.x.cell? ⟨w.heap.size + 1, 3, none⟩ = some (.string tb) := fun u => ((HB3.out.bel (u.old hm1 hBW)).2.1).at 3 (.string tb) rfl
  simp only [frontOf, unmade, List.take_succ_cons, List.take_zero, List.map_cons, List.map_nil]
  go_big_quiet_step ((go_at_call 59; exact quiet_clm hm2 table_any _))
  iterate 4 (go_big_quiet_step (fail))
  go_big_quiet_step ((go_at_call 36; exact quiet_clm hm2 H1.out _))
  iterate 1 (go_big_quiet_step (fail))
  go_big_quiet_step ((go_at_call 36; exact quiet_clm hm2 H2.out _))
  go_big_quiet_step ((go_at_call 78; exact quiet_clm hm2 H3.out _))
  iterate 2 (go_big_quiet_step (fail))
  go_big_quiet_step ((go_at_call 41; exact quiet_clm hm2 H4.out _))
  refine wpQuiet_nil ?_
  refine ⟨List.forall_mem_nil _, ?_⟩
  intro γ w2 hb hF
  clear hBW this hm1 hm2 fq0_0 fq0_1 fq0_2 fq0_3 fq1_0 fq1_1 fq1_2 fq1_3
  clear BW mm
  simp only [madesFrom, Facts, patch, List.take_succ_cons, List.take_zero, List.drop_succ_cons, List.drop_zero, Nat.zero_add, Nat.reduceAdd, List.mem_cons, List.not_mem_nil, or_false, forall_eq, forall_eq_or_imp, false_imp_iff, implies_true, and_true] at hF ⊢
  have HL4 := Lib.hid (bstep HL3.out hb)
  have HB4 := Lib.hid (HB3.out.bel hb)
  clear hb  hF
  clear HL3 HB3
  have fx2_0_4 := (HB4.out.1).at 0 (.bool false) rfl
  have fz2_0_4 := (HB4.out.1).z 0 (show 0 < 4 by decide)
  have fx2_1_4 := (HB4.out.1).at 1 (.string ⟨#[]⟩) rfl
  have fz2_1_4 := (HB4.out.1).z 1 (show 1 < 4 by decide)
  have fx2_2_4 := (HB4.out.1).at 2 (.bool false) rfl
  have fz2_2_4 := (HB4.out.1).z 2 (show 2 < 4 by decide)
  have fx2_3_4 := (HB4.out.1).at 3 (.string ⟨#[]⟩) rfl
  have fz2_3_4 := (HB4.out.1).z 3 (show 3 < 4 by decide)
  have HL5 := Below.setCs (c := w.heap.size + 1 + 1) (by have := HO0.out; have := HO1.out; have := HO2.out; omega) [.bool nr, .string sr, .bool mr, .string tr] _ 0 HL4.out
  have HB5 := Bs.store (c := w.heap.size + 1 + 1) [.bool nr, .string sr, .bool mr, .string tr] 0 0 HB4.out (by simp only [Bs.ap, Bs.ap0, List.length_cons, List.length_nil, and_true, true_and]; have := HO0.out; have := HO1.out; have := HO2.out; omega)
  simp only [setCs, setL, Bs.put, List.set_cons_succ, List.set_cons_zero, Nat.zero_add, Nat.reduceAdd] at HL5 HB5
  replace HL5 := Lib.hid HL5
  replace HB5 := Lib.hid HB5
  clear HL4 HB4
  have fx2_0_5 := (HB5.out.1).at 0 (.bool nr) rfl
  have fx2_1_5 := (HB5.out.1).at 1 (.string sr) rfl
  have fx2_2_5 := (HB5.out.1).at 2 (.bool mr) rfl
  have fx2_3_5 := (HB5.out.1).at 3 (.string tr) rfl
  go_wp2
  refine bodyPost_ret (v := .agg #[.bool nr, .string sr, .bool mr, .string tr]) (by simp [results, Tryd.results38, go_sem, fx2_0_5, fx2_1_5, fx2_2_5, fx2_3_5]) rfl ?_
  exact ⟨rfl, HL5.out⟩
end Go.Proofs.Gv

namespace Go.Proofs.Gv
open Go Go.RowKit

set_option maxRecDepth 100000 in
set_option maxHeartbeats 4000000 in
theorem do2_w {na ma nc mc nb mb nd md nx ny nr mr : Bool} {sa ta sc tc sb tb sd td sx sy sr tr : ByteArray} (w : World)
    (H1 : ∀ W, Calls Tryd.prog 36 #[.agg #[.bool na, .string sa, .bool ma, .string ta]] W fun e w' => e = .returned (.agg #[.bool nc, .string sc, .bool mc, .string tc]) ∧ Below W.heap.size W w')
    (H2 : ∀ W, Calls Tryd.prog 36 #[.agg #[.bool nb, .string sb, .bool mb, .string tb]] W fun e w' => e = .returned (.agg #[.bool nd, .string sd, .bool md, .string td]) ∧ Below W.heap.size W w')
    (H3 : ∀ W, Calls Tryd.prog 79 #[.agg #[.bool nc, .string sc, .bool mc, .string tc], .agg #[.bool nd, .string sd, .bool md, .string td]] W fun e w' => e = .returned (.tuple #[.agg #[.bool nx, .string sx], .agg #[.bool ny, .string sy]]) ∧ Below W.heap.size W w')
    (H4 : ∀ W, Calls Tryd.prog 41 #[.agg #[.bool nx, .string sx], .agg #[.bool ny, .string sy]] W fun e w' => e = .returned (.agg #[.bool nr, .string sr, .bool mr, .string tr]) ∧ Below W.heap.size W w')
    : Calls Tryd.prog 38 #[.int .i64 2, .agg #[.bool na, .string sa, .bool ma, .string ta], .agg #[.bool nb, .string sb, .bool mb, .string tb]] w fun e w' => e = .returned (.agg #[.bool nr, .string sr, .bool mr, .string tr]) ∧ Below w.heap.size w w' := by
  replace H1 := Lib.hid H1
  replace H2 := Lib.hid H2
  replace H3 := Lib.hid H3
  replace H4 := Lib.hid H4
  go_enter Tryd.func38, Tryd.ntmps38
  have HL0 := Lib.hid (Below.refl w.heap.size w)
  have HB0 := Lib.hid (show Bs [] w from trivial)
  have HO0 := Lib.hid (show w.heap.size ≤ w.heap.size from by have := HL0.out.size; first | omega | (simp at this; omega))
  have HL1 := Lib.hid (HL0.out.alloc HL0.out.size (.cells #[.bool na, .string sa, .bool ma, .string ta] 25))
  have HB1 := Lib.hid (HB0.out.push (w.heap.size) #[.bool na, .string sa, .bool ma, .string ta] 25 (by first | rfl | simp))
  clear HL0 HB0
  have HO1 := Lib.hid (show w.heap.size < w.heap.size + 1 from by have := (HB1.out.1).lt; first | omega | (simp at this; omega))
  have HL2 := Lib.hid (HL1.out.alloc HL1.out.size (.cells #[.bool nb, .string sb, .bool mb, .string tb] 25))
  have HB2 := Lib.hid (HB1.out.push (w.heap.size + 1) #[.bool nb, .string sb, .bool mb, .string tb] 25 (by first | rfl | simp))
  clear HL1 HB1
  have HO2 := Lib.hid (show w.heap.size + 1 < w.heap.size + 1 + 1 from by have := (HB2.out.1).lt; first | omega | (simp at this; omega))
  have HL3 := Lib.hid (HL2.out.alloc HL2.out.size (.cells #[.bool false, .string ⟨#[]⟩, .bool false, .string ⟨#[]⟩] 25))
  have HB3 := Lib.hid (HB2.out.push (w.heap.size + 1 + 1) #[.bool false, .string ⟨#[]⟩, .bool false, .string ⟨#[]⟩] 25 (by first | rfl | simp))
  clear HL2 HB2
  go_wp2_with fail
  obtain ⟨W1, hW⟩ : ∃ W, (((w.alloc (.cells #[.bool na, .string sa, .bool ma, .string ta] 25)).alloc (.cells #[.bool nb, .string sb, .bool mb, .string tb] 25)).alloc (.cells #[.bool false, .string ⟨#[]⟩, .bool false, .string ⟨#[]⟩] 25)) = W := ⟨_, rfl⟩
  rw [hW] at HB3 HL3 ⊢
  clear hW
  refine wp_region_front 12 zvQ (by kernel_rfl) shQ (by kernel_rfl) (by kernel_rfl) (zvQ_alloc _ (by kernel_rfl)) (shQ_store _ (by kernel_rfl)) ?_
  intro mm BW hm1 hm2 hBW
  haveI := clm_some mm BW
  have fq0_0 : ∀ u : Clm mm BW, u.x.cell? ⟨w.heap.size, 0, none⟩ = some (.bool na) := fun u => ((HB3.out.bel (u.old hm1 hBW)).2.2.1).at 0 (.bool na) rfl
  have fq0_1 : ∀ u : Clm mm BW, u.x.cell? ⟨w.heap.size, 1, none⟩ = some (.string sa) := fun u => ((HB3.out.bel (u.old hm1 hBW)).2.2.1).at 1 (.string sa) rfl
  have fq0_2 : ∀ u : Clm mm BW, u.x.cell? ⟨w.heap.size, 2, none⟩ = some (.bool ma) := fun u => ((HB3.out.bel (u.old hm1 hBW)).2.2.1).at 2 (.bool ma) rfl
  have fq0_3 : ∀ u : Clm mm BW, u.x.cell? ⟨w.heap.size, 3, none⟩ = some (.string ta) := fun u => ((HB3.out.bel (u.old hm1 hBW)).2.2.1).at 3 (.string ta) rfl
  have fq1_0 : ∀ u : Clm mm BW, u.x.cell? ⟨w.heap.size + 1, 0, none⟩ = some (.bool nb) := fun u => ((HB3.out.bel (u.old hm1 hBW)).2.1).at 0 (.bool nb) rfl
  have fq1_1 : ∀ u : Clm mm BW, u.x.cell? ⟨w.heap.size + 1, 1, none⟩ = some (.string sb) := fun u => ((HB3.out.bel (u.old hm1 hBW)).2.1).at 1 (.string sb) rfl
  have fq1_2 : ∀ u : Clm mm BW, u.x.cell? ⟨w.heap.size + 1, 2, none⟩ = some (.bool mb) := fun u => ((HB3.out.bel (u.old hm1 hBW)).2.1).at 2 (.bool mb) rfl
  have fq1_3 : ∀ u : Clm mm BW, u.x.cell? ⟨w.heap.size + 1, 3, none⟩ = some (.string tb) := fun u => ((HB3.out.bel (u.old hm1 hBW)).2.1).at 3 (.string tb) rfl
  simp only [frontOf, unmade, List.take_succ_cons, List.take_zero, List.map_cons, List.map_nil]
  go_big_quiet_step ((go_at_call 59; exact quiet_clm hm2 table_any _))
  iterate 4 (go_big_quiet_step (fail))
  go_big_quiet_step ((go_at_call 36; exact quiet_clm hm2 H1.out _))
  iterate 1 (go_big_quiet_step (fail))
  go_big_quiet_step ((go_at_call 36; exact quiet_clm hm2 H2.out _))
  go_big_quiet_step ((go_at_call 79; exact quiet_clm hm2 H3.out _))
  iterate 2 (go_big_quiet_step (fail))
  go_big_quiet_step ((go_at_call 41; exact quiet_clm hm2 H4.out _))
  refine wpQuiet_nil ?_
  refine ⟨List.forall_mem_nil _, ?_⟩
  intro γ w2 hb hF
  clear hBW this hm1 hm2 fq0_0 fq0_1 fq0_2 fq0_3 fq1_0 fq1_1 fq1_2 fq1_3
  clear BW mm
  simp only [madesFrom, Facts, patch, List.take_succ_cons, List.take_zero, List.drop_succ_cons, List.drop_zero, Nat.zero_add, Nat.reduceAdd, List.mem_cons, List.not_mem_nil, or_false, forall_eq, forall_eq_or_imp, false_imp_iff, implies_true, and_true] at hF ⊢
  have HL4 := Lib.hid (bstep HL3.out hb)
  have HB4 := Lib.hid (HB3.out.bel hb)
  clear hb  hF
  clear HL3 HB3
  have fx2_0_4 := (HB4.out.1).at 0 (.bool false) rfl
  have fz2_0_4 := (HB4.out.1).z 0 (show 0 < 4 by decide)
  have fx2_1_4 := (HB4.out.1).at 1 (.string ⟨#[]⟩) rfl
  have fz2_1_4 := (HB4.out.1).z 1 (show 1 < 4 by decide)
  have fx2_2_4 := (HB4.out.1).at 2 (.bool false) rfl
  have fz2_2_4 := (HB4.out.1).z 2 (show 2 < 4 by decide)
  have fx2_3_4 := (HB4.out.1).at 3 (.string ⟨#[]⟩) rfl
  have fz2_3_4 := (HB4.out.1).z 3 (show 3 < 4 by decide)
  have HL5 := Below.setCs (c := w.heap.size + 1 + 1) (by have := HO0.out; have := HO1.out; have := HO2.out; omega) [.bool nr, .string sr, .bool mr, .string tr] _ 0 HL4.out
  have HB5 := Bs.store (c := w.heap.size + 1 + 1) [.bool nr, .string sr, .bool mr, .string tr] 0 0 HB4.out (by simp only [Bs.ap, Bs.ap0, List.length_cons, List.length_nil, and_true, true_and]; have := HO0.out; have := HO1.out; have := HO2.out; omega)
  simp only [setCs, setL, Bs.put, List.set_cons_succ, List.set_cons_zero, Nat.zero_add, Nat.reduceAdd] at HL5 HB5
  replace HL5 := Lib.hid HL5
  replace HB5 := Lib.hid HB5
  clear HL4 HB4
  have fx2_0_5 := (HB5.out.1).at 0 (.bool nr) rfl
  have fx2_1_5 := (HB5.out.1).at 1 (.string sr) rfl
  have fx2_2_5 := (HB5.out.1).at 2 (.bool mr) rfl
  have fx2_3_5 := (HB5.out.1).at 3 (.string tr) rfl
  go_wp2
  refine bodyPost_ret (v := .agg #[.bool nr, .string sr, .bool mr, .string tr]) (by simp [results, Tryd.results38, go_sem, fx2_0_5, fx2_1_5, fx2_2_5, fx2_3_5]) rfl ?_
  exact ⟨rfl, HL5.out⟩
end Go.Proofs.Gv
