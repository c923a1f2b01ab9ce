import Derived.Test.YtfhncfphphieiaaGreatRwlow4P
import Derived.Test.YtfhncfphphieiaaGreatEuclidP
import Derived.Laws.EntriesVeiled
set_option maxHeartbeats 4000000
set_option maxRecDepth 100000
set_option linter.unusedSimpArgs false
set_option linter.unusedVariables false
namespace Go.Proofs.Gv
open Go Go.RowKit
theorem canon_w {na ma nr mr : Bool} {sa ta sr tr : ByteArray} (w : World)
  (H1 : GivesV 81 #[.agg #[.bool na, .string sa], .agg #[.bool ma, .string ta]] (.agg #[.bool nr, .string sr, .bool mr, .string tr]))
  : Calls Tryz.prog 80 #[.agg #[.bool na, .string sa, .bool ma, .string ta]] w fun e w' => e = .returned (.agg #[.bool nr, .string sr, .bool mr, .string tr]) ∧ Below w.heap.size w w' := by
 replace H1 := Lib.hid H1
 go_enter Tryz.func80, Tryz.ntmps80
 have HL0 := Lib.hid (Below.refl w.heap.size w)
 have HB0 := Lib.hid (show Bs [] w from trivial)
 have HO0 := Lib.hid (show w.heap.size ≤ w.heap.size from by have := HL0.out.size; first | omega | (simp at this; omega))
 obtain ⟨HL1, HB1⟩ := growLB HL0 HB0 (w.heap.size) #[.bool na, .string sa, .bool ma, .string ta] 85
 clear HL0 HB0
 have HO1 := Lib.hid (show w.heap.size < w.heap.size + 1 from by have := (HB1.out.1).lt; first | omega | (simp at this; omega))
 obtain ⟨HL2, HB2⟩ := growLB HL1 HB1 (w.heap.size + 1) #[.bool false, .string ⟨#[]⟩, .bool false, .string ⟨#[]⟩] 85
 clear HL1 HB1
 obtain ⟨fx0_0_2, fx0_1_2, fx0_2_2, fx0_3_2⟩ := (HB2.out.2.1).at4
 go_wp2_with fail
 refine (H1.out _).mono ?_
 rintro e w1 ⟨rfl, hb⟩
 obtain ⟨HL3, HB3⟩ := cameLB HL2 HB2 hb
 clear hb
 clear HL2 HB2 fx0_0_2 fx0_1_2 fx0_2_2 fx0_3_2
 obtain ⟨fx1_0_3, fx1_1_3, fx1_2_3, fx1_3_3⟩ := (HB3.out.1).at4
 obtain ⟨fz1_0_3, fz1_1_3, fz1_2_3, fz1_3_3⟩ := (HB3.out.1).z4
 obtain ⟨HL4, HB4⟩ := keptLB (c := w.heap.size + 1) [.bool nr, .string sr, .bool mr, .string tr] 0 0 HL3 HB3 (by have := HO0.out; have := HO1.out; omega) (by simp only [Bs.ap, Bs.ap0, List.length_cons, List.length_nil, and_true, true_and]; have := HO0.out; have := HO1.out; omega)
 simp only [setCs, setL, Bs.put, List.set_cons_succ, List.set_cons_zero, Nat.zero_add, Nat.reduceAdd] at HL4 HB4
 replace HL4 := Lib.hid HL4
 replace HB4 := Lib.hid HB4
 clear HL3 HB3
 obtain ⟨fx1_0_4, fx1_1_4, fx1_2_4, fx1_3_4⟩ := (HB4.out.1).at4
 go_wp2
 refine bodyPost_ret (v := .agg #[.bool nr, .string sr, .bool mr, .string tr]) (by simp [results, Tryz.results80, go_sem, fx1_0_4, fx1_1_4, fx1_2_4, fx1_3_4]) rfl ?_
 exact ⟨rfl, HL4.out⟩
end Go.Proofs.Gv
namespace Go.Proofs.Gv
open Go Go.RowKit
theorem ratOf_w {no na nr mr : Bool} {so sa sr tr : ByteArray} (w : World)
  (H1 : GivesV 20 #[.int .i64 1] (.agg #[.bool no, .string so]))
  (H2 : GivesV 81 #[.agg #[.bool na, .string sa], .agg #[.bool no, .string so]] (.agg #[.bool nr, .string sr, .bool mr, .string tr]))
  : Calls Tryz.prog 54 #[.agg #[.bool na, .string sa]] w fun e w' => e = .returned (.agg #[.bool nr, .string sr, .bool mr, .string tr]) ∧ Below w.heap.size w w' := by
 replace H1 := Lib.hid H1
 replace H2 := Lib.hid H2
 go_enter Tryz.func54, Tryz.ntmps54
 have HL0 := Lib.hid (Below.refl w.heap.size w)
 have HB0 := Lib.hid (show Bs [] w from trivial)
 have HO0 := Lib.hid (show w.heap.size ≤ w.heap.size from by have := HL0.out.size; first | omega | (simp at this; omega))
 obtain ⟨HL1, HB1⟩ := growLB HL0 HB0 (w.heap.size) #[.bool na, .string sa] 36
 clear HL0 HB0
 have HO1 := Lib.hid (show w.heap.size < w.heap.size + 1 from by have := (HB1.out.1).lt; first | omega | (simp at this; omega))
 obtain ⟨HL2, HB2⟩ := growLB HL1 HB1 (w.heap.size + 1) #[.bool false, .string ⟨#[]⟩, .bool false, .string ⟨#[]⟩] 85
 clear HL1 HB1
 go_wp2_with fail
 obtain ⟨W1, hW⟩ : ∃ W, ((w.alloc (.cells #[.bool na, .string sa] 36)).alloc (.cells #[.bool false, .string ⟨#[]⟩, .bool false, .string ⟨#[]⟩] 85)) = W := ⟨_, rfl⟩
 rw [hW] at HB2 HL2 ⊢
 clear hW
 refine wp_region_front 3 zvQ (by kernel_rfl) shQ (by kernel_rfl) (by kernel_rfl) (zvQ_alloc _ (by kernel_rfl)) (shQ_store _ (by kernel_rfl)) ?_
 intro mm BW hm1 hm2 hBW
 haveI := clm_some mm BW
 obtain ⟨fq0_0, fq0_1⟩ := BC.all2 fun u : Clm mm BW => ((HB2.out.bel (u.old hm1 hBW)).2.1)
 simp only [frontOf, unmade, List.take_succ_cons, List.take_zero, List.map_cons, List.map_nil]
 iterate 1 (go_big_quiet_step (fail))
 go_big_quiet_step ((go_at_call 20; exact quiet_clm hm2 H1.out _))
 go_big_quiet_step ((go_at_call 81; exact quiet_clm hm2 H2.out _))
 refine wpQuiet_nil ?_
 refine ⟨List.forall_mem_nil _, ?_⟩
 intro γ w2 hb hF
 clear hBW this hm1 hm2 fq0_0 fq0_1
 clear BW mm
 simp only [madesFrom, Facts, patch, List.take_succ_cons, List.take_zero, List.drop_succ_cons, List.drop_zero, Nat.zero_add, Nat.reduceAdd, List.mem_cons, List.not_mem_nil, or_false, forall_eq, forall_eq_or_imp, false_imp_iff, implies_true, and_true] at hF ⊢
 obtain ⟨HL3, HB3⟩ := cameLB HL2 HB2 hb
 clear hb  hF
 clear HL2 HB2
 obtain ⟨fx1_0_3, fx1_1_3, fx1_2_3, fx1_3_3⟩ := (HB3.out.1).at4
 obtain ⟨fz1_0_3, fz1_1_3, fz1_2_3, fz1_3_3⟩ := (HB3.out.1).z4
 obtain ⟨HL4, HB4⟩ := keptLB (c := w.heap.size + 1) [.bool nr, .string sr, .bool mr, .string tr] 0 0 HL3 HB3 (by have := HO0.out; have := HO1.out; omega) (by simp only [Bs.ap, Bs.ap0, List.length_cons, List.length_nil, and_true, true_and]; have := HO0.out; have := HO1.out; omega)
 simp only [setCs, setL, Bs.put, List.set_cons_succ, List.set_cons_zero, Nat.zero_add, Nat.reduceAdd] at HL4 HB4
 replace HL4 := Lib.hid HL4
 replace HB4 := Lib.hid HB4
 clear HL3 HB3
 obtain ⟨fx1_0_4, fx1_1_4, fx1_2_4, fx1_3_4⟩ := (HB4.out.1).at4
 go_wp2
 refine bodyPost_ret (v := .agg #[.bool nr, .string sr, .bool mr, .string tr]) (by simp [results, Tryz.results54, go_sem, fx1_0_4, fx1_1_4, fx1_2_4, fx1_3_4]) rfl ?_
 exact ⟨rfl, HL4.out⟩
end Go.Proofs.Gv
namespace Go.Proofs.Gv
open Go Go.RowKit
theorem ratNew_w {nb na nr mr : Bool} {sb sa sr tr : ByteArray} (c1 : Int) (h1 : (c1 == 0) = false) (w : World)
  (H1 : GivesV 42 #[.agg #[.bool nb, .string sb], .agg #[.bool false, .string ⟨#[]⟩]] (.int .i64 c1))
  (H2 : GivesV 81 #[.agg #[.bool na, .string sa], .agg #[.bool nb, .string sb]] (.agg #[.bool nr, .string sr, .bool mr, .string tr]))
  : Calls Tryz.prog 79 #[.agg #[.bool na, .string sa], .agg #[.bool nb, .string sb]] w fun e w' => e = .returned (.tuple #[.agg #[.bool nr, .string sr, .bool mr, .string tr], .int .i64 0]) ∧ Below w.heap.size w w' := by
 replace H1 := Lib.hid H1
 replace H2 := Lib.hid H2
 go_enter Tryz.func79, Tryz.ntmps79
 have HL0 := Lib.hid (Below.refl w.heap.size w)
 have HB0 := Lib.hid (show Bs [] w from trivial)
 have HO0 := Lib.hid (show w.heap.size ≤ w.heap.size from by have := HL0.out.size; first | omega | (simp at this; omega))
 obtain ⟨HL1, HB1⟩ := growLB HL0 HB0 (w.heap.size) #[.bool na, .string sa] 36
 clear HL0 HB0
 have HO1 := Lib.hid (show w.heap.size < w.heap.size + 1 from by have := (HB1.out.1).lt; first | omega | (simp at this; omega))
 obtain ⟨HL2, HB2⟩ := growLB HL1 HB1 (w.heap.size + 1) #[.bool nb, .string sb] 36
 clear HL1 HB1
 have HO2 := Lib.hid (show w.heap.size + 1 < w.heap.size + 1 + 1 from by have := (HB2.out.1).lt; first | omega | (simp at this; omega))
 obtain ⟨HL3, HB3⟩ := growLB HL2 HB2 (w.heap.size + 1 + 1) #[.bool false, .string ⟨#[]⟩, .bool false, .string ⟨#[]⟩] 85
 clear HL2 HB2
 obtain ⟨fx1_0_3, fx1_1_3⟩ := (HB3.out.2.1).at2
 go_wp2_with fail
 refine (H1.out _).mono ?_
 rintro e w1 ⟨rfl, hb⟩
 obtain ⟨HL4, HB4⟩ := cameLB HL3 HB3 hb
 clear hb
 clear HL3 HB3 fx1_0_3 fx1_1_3
 obtain ⟨fx0_0_4, fx0_1_4⟩ := (HB4.out.2.2.1).at2
 obtain ⟨fx1_0_4, fx1_1_4⟩ := (HB4.out.2.1).at2
 go_wp2_with fail
 refine (H2.out _).mono ?_
 rintro e w2 ⟨rfl, hb⟩
 obtain ⟨HL5, HB5⟩ := cameLB HL4 HB4 hb
 clear hb
 clear HL4 HB4 fx0_0_4 fx0_1_4 fx1_0_4 fx1_1_4
 obtain ⟨fx2_0_5, fx2_1_5, fx2_2_5, fx2_3_5⟩ := (HB5.out.1).at4
 obtain ⟨fz2_0_5, fz2_1_5, fz2_2_5, fz2_3_5⟩ := (HB5.out.1).z4
 obtain ⟨HL6, HB6⟩ := keptLB (c := w.heap.size + 1 + 1) [.bool nr, .string sr, .bool mr, .string tr] 0 0 HL5 HB5 (by have := HO0.out; have := HO1.out; have := HO2.out; omega) (by simp only [Bs.ap, Bs.ap0, List.length_cons, List.length_nil, and_true, true_and]; have := HO0.out; have := HO1.out; have := HO2.out; omega)
 simp only [setCs, setL, Bs.put, List.set_cons_succ, List.set_cons_zero, Nat.zero_add, Nat.reduceAdd] at HL6 HB6
 replace HL6 := Lib.hid HL6
 replace HB6 := Lib.hid HB6
 clear HL5 HB5
 obtain ⟨fx2_0_6, fx2_1_6, fx2_2_6, fx2_3_6⟩ := (HB6.out.1).at4
 go_wp2
 refine bodyPost_ret (v := .tuple #[.agg #[.bool nr, .string sr, .bool mr, .string tr], .int .i64 0]) (by simp [results, Tryz.results79, go_sem, fx2_0_6, fx2_1_6, fx2_2_6, fx2_3_6]) rfl ?_
 exact ⟨rfl, HL6.out⟩
end Go.Proofs.Gv
namespace Go.Proofs.Gv
open Go Go.RowKit
theorem ratCmp_w {na ma nc mc nb mb nd md nx ny : Bool} {sa ta sc tc sb tb sd td sx sy : ByteArray} {z0 : Int} (w : World)
  (H1 : GivesV 80 #[.agg #[.bool na, .string sa, .bool ma, .string ta]] (.agg #[.bool nc, .string sc, .bool mc, .string tc]))
  (H2 : GivesV 80 #[.agg #[.bool nb, .string sb, .bool mb, .string tb]] (.agg #[.bool nd, .string sd, .bool md, .string td]))
  (H3 : GivesV 68 #[.agg #[.bool nc, .string sc], .agg #[.bool md, .string td]] (.agg #[.bool nx, .string sx]))
  (H4 : GivesV 68 #[.agg #[.bool nd, .string sd], .agg #[.bool mc, .string tc]] (.agg #[.bool ny, .string sy]))
  (H5 : GivesV 42 #[.agg #[.bool nx, .string sx], .agg #[.bool ny, .string sy]] (.int .i64 z0))
  : Calls Tryz.prog 53 #[.agg #[.bool na, .string sa, .bool ma, .string ta], .agg #[.bool nb, .string sb, .bool mb, .string tb]] w fun e w' => e = .returned (.int .i64 z0) ∧ Below w.heap.size w w' := by
 replace H1 := Lib.hid H1
 replace H2 := Lib.hid H2
 replace H3 := Lib.hid H3
 replace H4 := Lib.hid H4
 replace H5 := Lib.hid H5
 go_enter Tryz.func53, Tryz.ntmps53
 have HL0 := Lib.hid (Below.refl w.heap.size w)
 have HB0 := Lib.hid (show Bs [] w from trivial)
 have HO0 := Lib.hid (show w.heap.size ≤ w.heap.size from by have := HL0.out.size; first | omega | (simp at this; omega))
 obtain ⟨HL1, HB1⟩ := growLB HL0 HB0 (w.heap.size) #[.bool na, .string sa, .bool ma, .string ta] 85
 clear HL0 HB0
 have HO1 := Lib.hid (show w.heap.size < w.heap.size + 1 from by have := (HB1.out.1).lt; first | omega | (simp at this; omega))
 obtain ⟨HL2, HB2⟩ := growLB HL1 HB1 (w.heap.size + 1) #[.bool nb, .string sb, .bool mb, .string tb] 85
 clear HL1 HB1
 go_wp2_with fail
 obtain ⟨W1, hW⟩ : ∃ W, ((w.alloc (.cells #[.bool na, .string sa, .bool ma, .string ta] 85)).alloc (.cells #[.bool nb, .string sb, .bool mb, .string tb] 85)) = W := ⟨_, rfl⟩
 rw [hW] at HB2 HL2 ⊢
 clear hW
 refine wp_region_front 4 zvQ (by kernel_rfl) shQ (by kernel_rfl) (by kernel_rfl) (zvQ_alloc _ (by kernel_rfl)) (shQ_store _ (by kernel_rfl)) ?_
 intro mm BW hm1 hm2 hBW
 haveI := clm_some mm BW
 obtain ⟨fq0_0, fq0_1, fq0_2, fq0_3⟩ := BC.all4 fun u : Clm mm BW => ((HB2.out.bel (u.old hm1 hBW)).2.1)
 obtain ⟨fq1_0, fq1_1, fq1_2, fq1_3⟩ := BC.all4 fun u : Clm mm BW => ((HB2.out.bel (u.old hm1 hBW)).1)
 simp only [frontOf, unmade, List.take_succ_cons, List.take_zero, List.map_cons, List.map_nil]
 iterate 1 (go_big_quiet_step (fail))
 go_big_quiet_step ((go_at_call 80; exact quiet_clm hm2 H1.out _))
 iterate 1 (go_big_quiet_step (fail))
 go_big_quiet_step ((go_at_call 80; exact quiet_clm hm2 H2.out _))
 refine wpQuiet_nil ?_
 refine ⟨List.forall_mem_nil _, ?_⟩
 intro γ w2 hb hF
 clear hBW this hm1 hm2 fq0_0 fq0_1 fq0_2 fq0_3 fq1_0 fq1_1 fq1_2 fq1_3
 clear BW mm
 simp only [madesFrom, Facts, patch, List.take_succ_cons, List.take_zero, List.drop_succ_cons, List.drop_zero, Nat.zero_add, Nat.reduceAdd, List.mem_cons, List.not_mem_nil, or_false, forall_eq, forall_eq_or_imp, false_imp_iff, implies_true, and_true] at hF ⊢
 obtain ⟨HL3, HB3⟩ := cameLB HL2 HB2 hb
 clear hb  hF
 clear HL2 HB2
 obtain ⟨fx0_0_3, fx0_1_3, fx0_2_3, fx0_3_3⟩ := (HB3.out.2.1).at4
 obtain ⟨fz0_0_3, fz0_1_3, fz0_2_3, fz0_3_3⟩ := (HB3.out.2.1).z4
 obtain ⟨HL4, HB4⟩ := keptLB (c := w.heap.size) [.bool nc, .string sc, .bool mc, .string tc] 0 1 HL3 HB3 (by have := HO0.out; have := HO1.out; omega) (by simp only [Bs.ap, Bs.ap0, List.length_cons, List.length_nil, and_true, true_and]; have := HO0.out; have := HO1.out; omega)
 simp only [setCs, setL, Bs.put, List.set_cons_succ, List.set_cons_zero, Nat.zero_add, Nat.reduceAdd] at HL4 HB4
 replace HL4 := Lib.hid HL4
 replace HB4 := Lib.hid HB4
 clear HL3 HB3
 obtain ⟨fx1_0_4, fx1_1_4, fx1_2_4, fx1_3_4⟩ := (HB4.out.1).at4
 obtain ⟨fz1_0_4, fz1_1_4, fz1_2_4, fz1_3_4⟩ := (HB4.out.1).z4
 obtain ⟨HL5, HB5⟩ := keptLB (c := w.heap.size + 1) [.bool nd, .string sd, .bool md, .string td] 0 0 HL4 HB4 (by have := HO0.out; have := HO1.out; omega) (by simp only [Bs.ap, Bs.ap0, List.length_cons, List.length_nil, and_true, true_and]; have := HO0.out; have := HO1.out; omega)
 simp only [setCs, setL, Bs.put, List.set_cons_succ, List.set_cons_zero, Nat.zero_add, Nat.reduceAdd] at HL5 HB5
 replace HL5 := Lib.hid HL5
 replace HB5 := Lib.hid HB5
 clear HL4 HB4
 go_wp2_with fail
 obtain ⟨W3, hW⟩ : ∃ W, ((((((((w2.setCell ⟨w.heap.size, 0, none⟩ (.bool nc)).setCell ⟨w.heap.size, 1, none⟩ (.string sc)).setCell ⟨w.heap.size, 2, none⟩ (.bool mc)).setCell ⟨w.heap.size, 3, none⟩ (.string tc)).setCell ⟨w.heap.size + 1, 0, none⟩ (.bool nd)).setCell ⟨w.heap.size + 1, 1, none⟩ (.string sd)).setCell ⟨w.heap.size + 1, 2, none⟩ (.bool md)).setCell ⟨w.heap.size + 1, 3, none⟩ (.string td)) = W := ⟨_, rfl⟩
 rw [hW] at HB5 HL5 ⊢
 clear hW fx0_0_3 fz0_0_3 fx0_1_3 fz0_1_3 fx0_2_3 fz0_2_3 fx0_3_3 fz0_3_3 fx1_0_4 fz1_0_4 fx1_1_4 fz1_1_4 fx1_2_4 fz1_2_4 fx1_3_4 fz1_3_4
 haveI := cls_some W3
 obtain ⟨fq0_0, fq0_1⟩ := BC.all2 fun u : Cl W3 => ((HB5.out.bel u.h).2.1)
 have fq1_2 : ∀ u : Cl W3, u.x.cell? ⟨w.heap.size + 1, 2, none⟩ = some (.bool md) := fun u => ((HB5.out.bel u.h).1).at 2 (.bool md) rfl
 have fq1_3 : ∀ u : Cl W3, u.x.cell? ⟨w.heap.size + 1, 3, none⟩ = some (.string td) := fun u => ((HB5.out.bel u.h).1).at 3 (.string td) rfl
 have fq1_0 : ∀ u : Cl W3, u.x.cell? ⟨w.heap.size + 1, 0, none⟩ = some (.bool nd) := fun u => ((HB5.out.bel u.h).1).at 0 (.bool nd) rfl
 have fq1_1 : ∀ u : Cl W3, u.x.cell? ⟨w.heap.size + 1, 1, none⟩ = some (.string sd) := fun u => ((HB5.out.bel u.h).1).at 1 (.string sd) rfl
 have fq0_2 : ∀ u : Cl W3, u.x.cell? ⟨w.heap.size, 2, none⟩ = some (.bool mc) := fun u => ((HB5.out.bel u.h).2.1).at 2 (.bool mc) rfl
 have fq0_3 : ∀ u : Cl W3, u.x.cell? ⟨w.heap.size, 3, none⟩ = some (.string tc) := fun u => ((HB5.out.bel u.h).2.1).at 3 (.string tc) rfl
 refine wp_region_cls (by kernel_rfl) ?_
 iterate 4 (go_big_quiet_step (fail))
 go_big_quiet_step ((go_at_call 68; exact quiet_cls H3.out _))
 iterate 4 (go_big_quiet_step (fail))
 go_big_quiet_step ((go_at_call 68; exact quiet_cls H4.out _))
 go_big_quiet_step ((go_at_call 42; exact quiet_cls H5.out _))
 iterate 1 (go_big_quiet_step (fail))
 refine wpQuiet_nil ?_
 intro w4 hw9
 have hb : Below W3.heap.size W3 w4 := by obtain ⟨u, rfl⟩ := hw9; exact u.h
 clear hw9 this fq0_0 fq0_1 fq1_2 fq1_3 fq1_0 fq1_1 fq0_2 fq0_3
 obtain ⟨HL6, HB6⟩ := cameLB HL5 HB5 hb
 clear hb
 clear HL5 HB5
 go_wp2
 go_ret
 exact ⟨rfl, HL6.out⟩
end Go.Proofs.Gv
namespace Go.Proofs.Gv
open Go Go.RowKit
def RetQ (w : World) (q : Rat) (e : Ending) (w' : World) : Prop := e = .returned (.agg #[.bool (sgn q.num), .string (mg q.num.natAbs), .bool false, .string (mg q.den)]) ∧ Below w.heap.size w w'
def RetQE (w : World) (q : Rat) (c : Int) (e : Ending) (w' : World) : Prop := e = .returned (.tuple #[.agg #[.bool (sgn q.num), .string (mg q.num.natAbs), .bool false, .string (mg q.den)], .int .i64 c]) ∧ Below w.heap.size w w'
theorem Rp.le {n : Bool} {s : ByteArray} {a z : Int} (h : Rp n s a) (hz : z.natAbs ≤ a.natAbs) : Rp (sgn z) (mg z.natAbs) z := by
 refine ⟨iv_V z, Nat.le_trans (size_mg ?_) h.sz⟩
 have h1 := iv_lt n s
 rw [h.val] at h1
 omega
theorem sgnQ_nat (x : Nat) : sgn (x : Int) = false := decide_eq_false (by omega)
theorem cGcdQ {na nb : Bool} {sa sb : ByteArray} {a b : Int} (ha : Rp na sa a) (hb : Rp nb sb b) (W : World) :
  Calls Tryz.prog 103 #[.agg #[.bool na, .string sa], .agg #[.bool nb, .string sb]] W fun e w' => e = .returned (.agg #[.bool false, .string (mg (Nat.gcd a.natAbs b.natAbs))]) ∧ Below W.heap.size W w' := by
 have := Gcd_any na nb sa sb W ha.sz hb.sz
 unfold RetI at this
 rwa [← ha.abs, ← hb.abs, sgnQ_nat, Int.natAbs_natCast] at this
theorem cOne (W : World) : Calls Tryz.prog 20 #[.int .i64 1] W fun e w' => e = .returned (.agg #[.bool false, .string (mg 1)]) ∧ Below W.heap.size W w' := cOf 1 (by decide) (by decide) W
theorem Rp.one : Rp false (mg 1) 1 := Rp.V (z := 1) 1 (by decide) (by decide)
theorem rp_nat {x : Nat} {n : Bool} {s : ByteArray} {a : Int} (h : Rp n s a) (hx : x ≤ a.natAbs) : Rp false (mg x) (x : Int) := by
 have := h.le (z := (x : Int)) (by simpa using hx)
 rwa [sgnQ_nat, Int.natAbs_natCast] at this
theorem ret_zeroQ {w w' : World} {e : Ending} (h : e = .returned (.agg #[.bool false, .string ⟨#[]⟩, .bool false, .string (mg 1)]) ∧ Below w.heap.size w w') : RetQ w 0 e w' := by
 refine ⟨h.1.trans ?_, h.2⟩
 show _ = Ending.returned (.agg #[.bool false, .string (mg 0), .bool false, .string (mg 1)])
 rw [mg_zero]
theorem cmpI_pos {a : Int} (h : 0 < a) : cmpI a 0 = 1 := cmpI_gt h
theorem cmpI_neg {a : Int} (h : a < 0) : cmpI a 0 = -1 := by unfold cmpI; rw [if_pos h]
theorem cmpI_ne {a : Int} (h : a ≠ 0) : (cmpI a 0 == 0) = false := by
 rcases Int.lt_or_gt_of_ne h with h2 | h2
 ·rw [cmpI_neg h2]; rfl
 ·rw [cmpI_pos h2]; rfl
theorem cmpI_nlt {a : Int} (h : 0 < a) : decide (cmpI a 0 < 0) = false := by rw [cmpI_pos h]; rfl
theorem cmpI_ltz {a : Int} (h : a < 0) : cmpI a 0 < 0 := by rw [cmpI_neg h]; decide
theorem low_any {na nb : Bool} {sa sb : ByteArray} {a b : Int} (ha : Rp na sa a) (hb : Rp nb sb b) (W : World) :
  Calls Tryz.prog 81 #[.agg #[.bool na, .string sa], .agg #[.bool nb, .string sb]] W (RetQ W (Rat.divInt a b)) := by
 have C1 := cCmp hb Rp.zero
 have C2 := cCmp ha Rp.zero
 by_cases hb0 : b = 0
 ·subst hb0
  rw [Rat.divInt_zero]
  exact (low_zero W C1 cOne).mono fun e w' h => ret_zeroQ h
 by_cases ha0 : a = 0
 ·subst ha0
  rw [Rat.zero_divInt]
  exact (low_zn _ (cmpI_ne hb0) W C1 C2 cOne).mono fun e w' h => ret_zeroQ h
 rcases Int.lt_or_gt_of_ne hb0 with h | h
 ·have N1 := cNeg ha
  have N2 := cNeg hb
  have ha' : Rp (sgn (-a)) (mg (-a).natAbs) (-a) := ha.le (by omega)
  have hb' : Rp (sgn (-b)) (mg (-b).natAbs) (-b) := hb.le (by omega)
  have hg : 0 < Nat.gcd (-a).natAbs (-b).natAbs := Nat.gcd_pos_of_pos_right _ (by omega)
  have hgl : Nat.gcd (-a).natAbs (-b).natAbs ≤ b.natAbs := by have := Nat.gcd_le_right (-a).natAbs (show 0 < (-b).natAbs by omega); omega
  have G := cGcdQ ha' hb'
  have hg' := rp_nat hb hgl
  have D1 := cDiv ha' hg' (low_num (n := -a) (d := -b) (by omega)) (by omega)
  have D2 := cDiv hb' hg' (low_den (n := -a) (d := -b) (by omega)) (by omega)
  rw [low_neg] at D1 D2
  rw [sgnQ_nat, Int.natAbs_natCast] at D2
  exact lowN_w _ (cmpI_ne hb0) (cmpI_ltz h) _ (cmpI_ne ha0) W C1 C2 N1 N2 G D1 D2
 ·have hg : 0 < Nat.gcd a.natAbs b.natAbs := Nat.gcd_pos_of_pos_right _ (by omega)
  have hgl : Nat.gcd a.natAbs b.natAbs ≤ b.natAbs := Nat.gcd_le_right _ (by omega)
  have G := cGcdQ ha hb
  have hg' := rp_nat hb hgl
  have D1 := cDiv ha hg' (low_num (n := a) (d := b) h) (by omega)
  have D2 := cDiv hb hg' (low_den (n := a) (d := b) h) (by omega)
  rw [sgnQ_nat, Int.natAbs_natCast] at D2
  exact lowP_w _ (cmpI_ne hb0) (cmpI_nlt h) _ (cmpI_ne ha0) W C1 C2 G D1 D2
section
variable {na ma nb mb : Bool} {sa ta sb tb : ByteArray} {a b : Rat}
theorem cCanQ (h : Rq na sa ma ta a) (W : World) : Calls Tryz.prog 80 #[.agg #[.bool na, .string sa, .bool ma, .string ta]] W (RetQ W a) := by
 have := fun W => low_any h.up h.lo W
 rw [h.val] at this
 exact canon_w W this
theorem divInt_1 (z : Int) : Rat.divInt z 1 = (z : Rat) := Rat.ext (divInt1 z).1 (divInt1 z).2
theorem cQOf {n : Bool} {s : ByteArray} {z : Int} (h : Rp n s z) (W : World) : Calls Tryz.prog 54 #[.agg #[.bool n, .string s]] W (RetQ W (z : Rat)) := by
 have := fun W => low_any h Rp.one W
 rw [divInt_1] at this
 exact ratOf_w W cOne this
theorem cQNew {n m : Bool} {s t : ByteArray} {x y : Int} (h : Rp n s x) (h' : Rp m t y) (h0 : y ≠ 0) (W : World) : Calls Tryz.prog 79 #[.agg #[.bool n, .string s], .agg #[.bool m, .string t]] W (RetQE W (Rat.divInt x y) 0) := by
 exact ratNew_w _ (cmpI_ne h0) W (cCmp h' Rp.zero) (fun W => low_any h h' W)
theorem rp_of {z : Int} (h1 : -9223372036854775808 ≤ z) (h2 : z < 9223372036854775808) : Rp (sgn z) (mg z.natAbs) z := Rp.V 64 (by omega) (by decide)
theorem Rq.q1 (h : Rq na sa ma ta a) : ∃ N, N ≤ 160000 ∧ Qb N a := ⟨8 * 20000, Nat.le_refl _, h.qb h.s1 h.s2 (by decide)⟩
theorem rpV {z : Int} {N : Nat} (h : z.natAbs < 2 ^ N) (hN : N ≤ 7000000) : Rp (sgn z) (mg z.natAbs) z := Rp.V N h (by omega)
theorem Qb.numden {N M : Nat} (ha : Qb N a) (hb : Qb M b) : (a.num * b.den).natAbs < 2 ^ (N + M) := imul_lt ha.num hb.den
theorem Qb.dennum {N M : Nat} (ha : Qb N a) (hb : Qb M b) : (b.num * a.den).natAbs < 2 ^ (N + M) := by have := imul_lt hb.num ha.den; rwa [Nat.add_comm] at this
theorem Qb.denden {N M : Nat} (ha : Qb N a) (hb : Qb M b) : ((a.den : Int) * b.den).natAbs < 2 ^ (N + M) := imul_lt ha.den hb.den
theorem cQCmp (ha : Rq na sa ma ta a) (hb : Rq nb sb mb tb b) (W : World) : Calls Tryz.prog 53 #[.agg #[.bool na, .string sa, .bool ma, .string ta], .agg #[.bool nb, .string sb, .bool mb, .string tb]] W fun e w' => e = .returned (.int .i64 (cmpQ a b)) ∧ Below W.heap.size W w' := by
 obtain ⟨N, hN, A⟩ := ha.q1
 obtain ⟨M, hM, B⟩ := hb.q1
 exact ratCmp_w W (cCanQ ha) (cCanQ hb) (cMul (rp_num A (by omega)) (rp_den B (by omega))) (cMul (rp_num B (by omega)) (rp_den A (by omega))) (cCmp (rpV (A.numden B) (by omega)) (rpV (A.dennum B) (by omega)))
end
end Go.Proofs.Gv
