/- Layer 02: functions of rational, walked over the results of what they call (printed by gen02f.py). -/
import Derived.Test.YtamempcabmlodaaDoorRatTabP
import Derived.Test.YtamempcabmlodaaDoorRwfield1P
set_option linter.unusedSimpArgs false
set_option linter.unusedVariables false
namespace Go.Proofs.Gv
open Go Go.RowKit

set_option maxRecDepth 100000 in
set_option maxHeartbeats 4000000 in
theorem field_zero {nz mz nw mw nx mx np mp ny my nv mv nq mq nr mr nu mu ns ms ne me ng mg nk mk : Bool} {sz tz sw tw sx tx sp tp sy ty sv tv sq tq sr tr su tu ss ts se te sg tg sk tk : ByteArray} (na ma : Bool) (sa ta : ByteArray) (nb mb : Bool) (sb tb : ByteArray) (nc mc : Bool) (sc tc : ByteArray) (hgz : ∀ x ∈ ([(na, sa, ma, ta), (nb, sb, mb, tb), (nc, sc, mc, tc)] : List (Bool × ByteArray × Bool × ByteArray)), x.2.1.size ≤ maxLen ∧ x.2.2.2.size ≤ maxLen) (hgr : grQ 24 [(na, sa, ma, ta), (nb, sb, mb, tb), (nc, sc, mc, tc)] = false) (w : World)
    (H1 : ∀ W, Calls Tryd.prog 18 #[.int .i64 0, .int .i64 1] W fun e w' => e = .returned (.agg #[.bool nz, .string sz, .bool mz, .string tz]) ∧ Below W.heap.size W w')
    (H2 : ∀ W, Calls Tryd.prog 16 #[.agg #[.bool na, .string sa, .bool ma, .string ta], .agg #[.bool nz, .string sz, .bool mz, .string tz]] W fun e w' => e = .returned (.agg #[.bool nw, .string sw, .bool mw, .string tw]) ∧ Below W.heap.size W w')
    (H3 : ∀ W, Calls Tryd.prog 16 #[.agg #[.bool na, .string sa, .bool ma, .string ta], .agg #[.bool nb, .string sb, .bool mb, .string tb]] W fun e w' => e = .returned (.agg #[.bool nx, .string sx, .bool mx, .string tx]) ∧ Below W.heap.size W w')
    (H4 : ∀ W, Calls Tryd.prog 16 #[.agg #[.bool nb, .string sb, .bool mb, .string tb], .agg #[.bool na, .string sa, .bool ma, .string ta]] W fun e w' => e = .returned (.agg #[.bool nx, .string sx, .bool mx, .string tx]) ∧ Below W.heap.size W w')
    (H5 : ∀ W, Calls Tryd.prog 17 #[.agg #[.bool na, .string sa, .bool ma, .string ta], .agg #[.bool nb, .string sb, .bool mb, .string tb]] W fun e w' => e = .returned (.agg #[.bool np, .string sp, .bool mp, .string tp]) ∧ Below W.heap.size W w')
    (H6 : ∀ W, Calls Tryd.prog 17 #[.agg #[.bool nb, .string sb, .bool mb, .string tb], .agg #[.bool na, .string sa, .bool ma, .string ta]] W fun e w' => e = .returned (.agg #[.bool np, .string sp, .bool mp, .string tp]) ∧ Below W.heap.size W w')
    (H7 : ∀ W, Calls Tryd.prog 16 #[.agg #[.bool nx, .string sx, .bool mx, .string tx], .agg #[.bool nc, .string sc, .bool mc, .string tc]] W fun e w' => e = .returned (.agg #[.bool ny, .string sy, .bool my, .string ty]) ∧ Below W.heap.size W w')
    (H8 : ∀ W, Calls Tryd.prog 16 #[.agg #[.bool nb, .string sb, .bool mb, .string tb], .agg #[.bool nc, .string sc, .bool mc, .string tc]] W fun e w' => e = .returned (.agg #[.bool nv, .string sv, .bool mv, .string tv]) ∧ Below W.heap.size W w')
    (H9 : ∀ W, Calls Tryd.prog 16 #[.agg #[.bool na, .string sa, .bool ma, .string ta], .agg #[.bool nv, .string sv, .bool mv, .string tv]] W fun e w' => e = .returned (.agg #[.bool ny, .string sy, .bool my, .string ty]) ∧ Below W.heap.size W w')
    (H10 : ∀ W, Calls Tryd.prog 17 #[.agg #[.bool np, .string sp, .bool mp, .string tp], .agg #[.bool nc, .string sc, .bool mc, .string tc]] W fun e w' => e = .returned (.agg #[.bool nq, .string sq, .bool mq, .string tq]) ∧ Below W.heap.size W w')
    (H11 : ∀ W, Calls Tryd.prog 17 #[.agg #[.bool nb, .string sb, .bool mb, .string tb], .agg #[.bool nc, .string sc, .bool mc, .string tc]] W fun e w' => e = .returned (.agg #[.bool nr, .string sr, .bool mr, .string tr]) ∧ Below W.heap.size W w')
    (H12 : ∀ W, Calls Tryd.prog 17 #[.agg #[.bool na, .string sa, .bool ma, .string ta], .agg #[.bool nr, .string sr, .bool mr, .string tr]] W fun e w' => e = .returned (.agg #[.bool nq, .string sq, .bool mq, .string tq]) ∧ Below W.heap.size W w')
    (H13 : ∀ W, Calls Tryd.prog 17 #[.agg #[.bool na, .string sa, .bool ma, .string ta], .agg #[.bool nv, .string sv, .bool mv, .string tv]] W fun e w' => e = .returned (.agg #[.bool nu, .string su, .bool mu, .string tu]) ∧ Below W.heap.size W w')
    (H14 : ∀ W, Calls Tryd.prog 17 #[.agg #[.bool na, .string sa, .bool ma, .string ta], .agg #[.bool nc, .string sc, .bool mc, .string tc]] W fun e w' => e = .returned (.agg #[.bool ns, .string ss, .bool ms, .string ts]) ∧ Below W.heap.size W w')
    (H15 : ∀ W, Calls Tryd.prog 16 #[.agg #[.bool np, .string sp, .bool mp, .string tp], .agg #[.bool ns, .string ss, .bool ms, .string ts]] W fun e w' => e = .returned (.agg #[.bool nu, .string su, .bool mu, .string tu]) ∧ Below W.heap.size W w')
    (H16 : ∀ W, Calls Tryd.prog 19 #[.agg #[.bool na, .string sa, .bool ma, .string ta], .agg #[.bool nb, .string sb, .bool mb, .string tb]] W fun e w' => e = .returned (.agg #[.bool ne, .string se, .bool me, .string te]) ∧ Below W.heap.size W w')
    (H17 : ∀ W, Calls Tryd.prog 16 #[.agg #[.bool ne, .string se, .bool me, .string te], .agg #[.bool nb, .string sb, .bool mb, .string tb]] W fun e w' => e = .returned (.agg #[.bool nw, .string sw, .bool mw, .string tw]) ∧ Below W.heap.size W w')
    (H18 : ∀ W, Calls Tryd.prog 20 #[.agg #[.bool na, .string sa, .bool ma, .string ta]] W fun e w' => e = .returned (.agg #[.bool ng, .string sg, .bool mg, .string tg]) ∧ Below W.heap.size W w')
    (H19 : ∀ W, Calls Tryd.prog 16 #[.agg #[.bool na, .string sa, .bool ma, .string ta], .agg #[.bool ng, .string sg, .bool mg, .string tg]] W fun e w' => e = .returned (.agg #[.bool nz, .string sz, .bool mz, .string tz]) ∧ Below W.heap.size W w')
    (H20 : ∀ W, Calls Tryd.prog 18 #[.int .i64 1, .int .i64 1] W fun e w' => e = .returned (.agg #[.bool nk, .string sk, .bool mk, .string tk]) ∧ Below W.heap.size W w')
    (H21 : ∀ W, Calls Tryd.prog 17 #[.agg #[.bool na, .string sa, .bool ma, .string ta], .agg #[.bool nk, .string sk, .bool mk, .string tk]] W fun e w' => e = .returned (.agg #[.bool nw, .string sw, .bool mw, .string tw]) ∧ Below W.heap.size W w')
    (H22 : ∀ W, Calls Tryd.prog 21 #[.agg #[.bool na, .string sa, .bool ma, .string ta], .agg #[.bool nb, .string sb, .bool mb, .string tb]] W fun e w' => e = .returned (.tuple #[.agg #[.bool false, .string ⟨#[]⟩, .bool false, .string ⟨#[]⟩], .int .i64 9]) ∧ Below W.heap.size W w')
    (H23 : ∀ W, Calls Tryd.prog 15 #[.agg #[.bool nb, .string sb, .bool mb, .string tb], .agg #[.bool nz, .string sz, .bool mz, .string tz]] W fun e w' => e = .returned (.int .i64 0) ∧ Below W.heap.size W w')
    (H24 : ∀ W, Calls Tryd.prog 11 #[] W fun e w' => e = .returned (.bool true) ∧ Below W.heap.size W w')
    : Calls Tryd.prog 4 #[.agg #[.bool na, .string sa, .bool ma, .string ta], .agg #[.bool nb, .string sb, .bool mb, .string tb], .agg #[.bool nc, .string sc, .bool mc, .string tc]] w fun e w' => e = .returned (.bool true) ∧ Below w.heap.size w w' := by
  replace H1 := Lib.hid H1
  replace H2 := Lib.hid H2
  replace H3 := Lib.hid H3
  replace H4 := Lib.hid H4
  replace H5 := Lib.hid H5
  replace H6 := Lib.hid H6
  replace H7 := Lib.hid H7
  replace H8 := Lib.hid H8
  replace H9 := Lib.hid H9
  replace H10 := Lib.hid H10
  replace H11 := Lib.hid H11
  replace H12 := Lib.hid H12
  replace H13 := Lib.hid H13
  replace H14 := Lib.hid H14
  replace H15 := Lib.hid H15
  replace H16 := Lib.hid H16
  replace H17 := Lib.hid H17
  replace H18 := Lib.hid H18
  replace H19 := Lib.hid H19
  replace H20 := Lib.hid H20
  replace H21 := Lib.hid H21
  replace H22 := Lib.hid H22
  replace H23 := Lib.hid H23
  replace H24 := Lib.hid H24
  have HGZ := Lib.hid hgz
  clear hgz
  have qx : eqQ nx sx mx tx nx sx mx tx = true := eqQ_iff.2 ⟨⟨rfl, rfl⟩, ⟨rfl, rfl⟩⟩
  have qp : eqQ np sp mp tp np sp mp tp = true := eqQ_iff.2 ⟨⟨rfl, rfl⟩, ⟨rfl, rfl⟩⟩
  have qy : eqQ ny sy my ty ny sy my ty = true := eqQ_iff.2 ⟨⟨rfl, rfl⟩, ⟨rfl, rfl⟩⟩
  have qq : eqQ nq sq mq tq nq sq mq tq = true := eqQ_iff.2 ⟨⟨rfl, rfl⟩, ⟨rfl, rfl⟩⟩
  have qu : eqQ nu su mu tu nu su mu tu = true := eqQ_iff.2 ⟨⟨rfl, rfl⟩, ⟨rfl, rfl⟩⟩
  have qw : eqQ nw sw mw tw nw sw mw tw = true := eqQ_iff.2 ⟨⟨rfl, rfl⟩, ⟨rfl, rfl⟩⟩
  have qz : eqQ nz sz mz tz nz sz mz tz = true := eqQ_iff.2 ⟨⟨rfl, rfl⟩, ⟨rfl, rfl⟩⟩
  go_enter Tryd.func4, Tryd.ntmps4
  have HL0 := Lib.hid (Below.refl w.heap.size w)
  have HB0 := Lib.hid (show Bs [] w from trivial)
  have HO0 := Lib.hid (show w.heap.size ≤ w.heap.size from by have := HL0.out.size; first | omega | (simp at this; omega))
  have HL1 := Lib.hid (HL0.out.alloc HL0.out.size (.cells #[.bool na, .string sa, .bool ma, .string ta] 25))
  have HB1 := Lib.hid (HB0.out.push (w.heap.size) #[.bool na, .string sa, .bool ma, .string ta] 25 (by first | rfl | simp))
  clear HL0 HB0
  have HO1 := Lib.hid (show w.heap.size < w.heap.size + 1 from by have := (HB1.out.1).lt; first | omega | (simp at this; omega))
  have HL2 := Lib.hid (HL1.out.alloc HL1.out.size (.cells #[.bool nb, .string sb, .bool mb, .string tb] 25))
  have HB2 := Lib.hid (HB1.out.push (w.heap.size + 1) #[.bool nb, .string sb, .bool mb, .string tb] 25 (by first | rfl | simp))
  clear HL1 HB1
  have HO2 := Lib.hid (show w.heap.size + 1 < w.heap.size + 1 + 1 from by have := (HB2.out.1).lt; first | omega | (simp at this; omega))
  have HL3 := Lib.hid (HL2.out.alloc HL2.out.size (.cells #[.bool nc, .string sc, .bool mc, .string tc] 25))
  have HB3 := Lib.hid (HB2.out.push (w.heap.size + 1 + 1) #[.bool nc, .string sc, .bool mc, .string tc] 25 (by first | rfl | simp))
  clear HL2 HB2
  have fx0_0_3 := (HB3.out.2.2.1).at 0 (.bool na) rfl
  have fx0_1_3 := (HB3.out.2.2.1).at 1 (.string sa) rfl
  have fx0_2_3 := (HB3.out.2.2.1).at 2 (.bool ma) rfl
  have fx0_3_3 := (HB3.out.2.2.1).at 3 (.string ta) rfl
  have fx1_0_3 := (HB3.out.2.1).at 0 (.bool nb) rfl
  have fx1_1_3 := (HB3.out.2.1).at 1 (.string sb) rfl
  have fx1_2_3 := (HB3.out.2.1).at 2 (.bool mb) rfl
  have fx1_3_3 := (HB3.out.2.1).at 3 (.string tb) rfl
  have fx2_0_3 := (HB3.out.1).at 0 (.bool nc) rfl
  have fx2_1_3 := (HB3.out.1).at 1 (.string sc) rfl
  have fx2_2_3 := (HB3.out.1).at 2 (.bool mc) rfl
  have fx2_3_3 := (HB3.out.1).at 3 (.string tc) rfl
  have HO3 := Lib.hid (show w.heap.size + 1 + 1 < w.heap.size + 1 + 1 + 1 from by have := (HB3.out.1).lt; first | omega | (simp at this; omega))
  have HL4 := Lib.hid (HL3.out.alloc HL3.out.size (.cells #[.bool na, .string sa, .bool ma, .string ta, .bool nb, .string sb, .bool mb, .string tb, .bool nc, .string sc, .bool mc, .string tc] 25))
  have HB4 := Lib.hid (HB3.out.push (w.heap.size + 1 + 1 + 1) #[.bool na, .string sa, .bool ma, .string ta, .bool nb, .string sb, .bool mb, .string tb, .bool nc, .string sc, .bool mc, .string tc] 25 (by first | rfl | simp))
  clear HL3 HB3
  go_wp2_with fail
  refine (greatQ_box [(na, sa, ma, ta), (nb, sb, mb, tb), (nc, sc, mc, tc)] (HB4.out.1) (show 3 ≤ 1000 by decide) HGZ.out).mono ?_
  rintro e w1 ⟨rfl, hb⟩
  have HL5 := Lib.hid (bstep HL4.out hb)
  have HB5 := Lib.hid (HB4.out.bel hb)
  clear hb
  clear HL4 HB4 fx0_0_3 fx0_1_3 fx0_2_3 fx0_3_3 fx1_0_3 fx1_1_3 fx1_2_3 fx1_3_3 fx2_0_3 fx2_1_3 fx2_2_3 fx2_3_3
  go_wp2_with fail
  refine wp_region_front 6 zvQ (by kernel_rfl) shQ (by kernel_rfl) (by kernel_rfl) (zvQ_alloc _ (by kernel_rfl)) (shQ_store _ (by kernel_rfl)) ?_
  intro mm BW hm1 hm2 hBW
  haveI := clm_some mm BW
  have fq0_0 : ∀ u : Clm mm BW, u.x.cell? ⟨w.heap.size, 0, none⟩ = some (.bool na) := fun u => ((HB5.out.bel (u.old hm1 hBW)).2.2.2.1).at 0 (.bool na) rfl
  have fq0_1 : ∀ u : Clm mm BW, u.x.cell? ⟨w.heap.size, 1, none⟩ = some (.string sa) := fun u => ((HB5.out.bel (u.old hm1 hBW)).2.2.2.1).at 1 (.string sa) rfl
  have fq0_2 : ∀ u : Clm mm BW, u.x.cell? ⟨w.heap.size, 2, none⟩ = some (.bool ma) := fun u => ((HB5.out.bel (u.old hm1 hBW)).2.2.2.1).at 2 (.bool ma) rfl
  have fq0_3 : ∀ u : Clm mm BW, u.x.cell? ⟨w.heap.size, 3, none⟩ = some (.string ta) := fun u => ((HB5.out.bel (u.old hm1 hBW)).2.2.2.1).at 3 (.string ta) rfl
  simp only [frontOf, unmade, List.take_succ_cons, List.take_zero, List.map_cons, List.map_nil]
  iterate 2 (go_big_quiet_step (fail))
  go_big_quiet_step ((go_at_call 18; exact quiet_clm hm2 H1.out _))
  go_big_quiet_step ((go_at_call 16; exact quiet_clm hm2 H2.out _))
  iterate 2 (go_big_quiet_step (fail))
  refine wpQuiet_nil ?_
  refine ⟨List.forall_mem_cons.2 ⟨by kernel_rfl, List.forall_mem_nil _⟩, ?_⟩
  intro γ w2 hb hF
  clear hBW this hm1 hm2 fq0_0 fq0_1 fq0_2 fq0_3
  clear BW mm
  simp only [madesFrom, Facts, patch, List.take_succ_cons, List.take_zero, List.drop_succ_cons, List.drop_zero, Nat.zero_add, Nat.reduceAdd, List.mem_cons, List.not_mem_nil, or_false, forall_eq, forall_eq_or_imp, false_imp_iff, implies_true, and_true] at hF ⊢
  obtain ⟨hp9, hl9, hk9⟩ := hF
  obtain ⟨B9_2, hG⟩ : ∃ B, γ 4 = B := ⟨_, rfl⟩
  rw [hG] at hp9 hl9 hk9 ⊢
  clear hG
  have HL6 := Lib.hid (bstep HL5.out hb)
  have HO4 := Lib.hid (show w.heap.size + 1 + 1 + 1 < B9_2 from Nat.lt_of_lt_of_le (HB5.out.1).lt hp9)
  have HB6 := Lib.hid (Bs.cons (show BC _ B9_2 [.bool nw, .string sw, .bool mw, .string tw] from BC.of hk9) (HB5.out.bel hb))
  clear hb hp9 hl9 hk9
  clear HL5 HB5
  try go_frame
  go_wp2_with fail
  haveI := cls_some w2
  have fq0_0 : ∀ u : Cl w2, u.x.cell? ⟨w.heap.size, 0, none⟩ = some (.bool na) := fun u => ((HB6.out.bel u.h).2.2.2.2.1).at 0 (.bool na) rfl
  have fq0_1 : ∀ u : Cl w2, u.x.cell? ⟨w.heap.size, 1, none⟩ = some (.string sa) := fun u => ((HB6.out.bel u.h).2.2.2.2.1).at 1 (.string sa) rfl
  have fq0_2 : ∀ u : Cl w2, u.x.cell? ⟨w.heap.size, 2, none⟩ = some (.bool ma) := fun u => ((HB6.out.bel u.h).2.2.2.2.1).at 2 (.bool ma) rfl
  have fq0_3 : ∀ u : Cl w2, u.x.cell? ⟨w.heap.size, 3, none⟩ = some (.string ta) := fun u => ((HB6.out.bel u.h).2.2.2.2.1).at 3 (.string ta) rfl
  have fq1_0 : ∀ u : Cl w2, u.x.cell? ⟨w.heap.size + 1, 0, none⟩ = some (.bool nb) := fun u => ((HB6.out.bel u.h).2.2.2.1).at 0 (.bool nb) rfl
  have fq1_1 : ∀ u : Cl w2, u.x.cell? ⟨w.heap.size + 1, 1, none⟩ = some (.string sb) := fun u => ((HB6.out.bel u.h).2.2.2.1).at 1 (.string sb) rfl
  have fq1_2 : ∀ u : Cl w2, u.x.cell? ⟨w.heap.size + 1, 2, none⟩ = some (.bool mb) := fun u => ((HB6.out.bel u.h).2.2.2.1).at 2 (.bool mb) rfl
  have fq1_3 : ∀ u : Cl w2, u.x.cell? ⟨w.heap.size + 1, 3, none⟩ = some (.string tb) := fun u => ((HB6.out.bel u.h).2.2.2.1).at 3 (.string tb) rfl
  have fq2_0 : ∀ u : Cl w2, u.x.cell? ⟨w.heap.size + 1 + 1, 0, none⟩ = some (.bool nc) := fun u => ((HB6.out.bel u.h).2.2.1).at 0 (.bool nc) rfl
  have fq2_1 : ∀ u : Cl w2, u.x.cell? ⟨w.heap.size + 1 + 1, 1, none⟩ = some (.string sc) := fun u => ((HB6.out.bel u.h).2.2.1).at 1 (.string sc) rfl
  have fq2_2 : ∀ u : Cl w2, u.x.cell? ⟨w.heap.size + 1 + 1, 2, none⟩ = some (.bool mc) := fun u => ((HB6.out.bel u.h).2.2.1).at 2 (.bool mc) rfl
  have fq2_3 : ∀ u : Cl w2, u.x.cell? ⟨w.heap.size + 1 + 1, 3, none⟩ = some (.string tc) := fun u => ((HB6.out.bel u.h).2.2.1).at 3 (.string tc) rfl
  refine wp_region_cls (by kernel_rfl) ?_
  iterate 3 (go_big_quiet_step (fail))
  go_big_quiet_step ((go_at_call 16; exact quiet_cls H3.out _))
  iterate 3 (go_big_quiet_step (fail))
  go_big_quiet_step ((go_at_call 16; exact quiet_cls H4.out _))
  iterate 5 (go_big_quiet_step (fail))
  go_big_quiet_step ((go_at_call 17; exact quiet_cls H5.out _))
  iterate 3 (go_big_quiet_step (fail))
  go_big_quiet_step ((go_at_call 17; exact quiet_cls H6.out _))
  iterate 7 (go_big_quiet_step (fail))
  go_big_quiet_step ((go_at_call 16; exact quiet_cls H3.out _))
  iterate 1 (go_big_quiet_step (fail))
  go_big_quiet_step ((go_at_call 16; exact quiet_cls H7.out _))
  iterate 5 (go_big_quiet_step (fail))
  go_big_quiet_step ((go_at_call 16; exact quiet_cls H8.out _))
  go_big_quiet_step ((go_at_call 16; exact quiet_cls H9.out _))
  iterate 7 (go_big_quiet_step (fail))
  go_big_quiet_step ((go_at_call 17; exact quiet_cls H5.out _))
  iterate 1 (go_big_quiet_step (fail))
  go_big_quiet_step ((go_at_call 17; exact quiet_cls H10.out _))
  iterate 5 (go_big_quiet_step (fail))
  go_big_quiet_step ((go_at_call 17; exact quiet_cls H11.out _))
  go_big_quiet_step ((go_at_call 17; exact quiet_cls H12.out _))
  iterate 3 (go_big_quiet_step (fail))
  refine wpQuiet_nil ?_
  intro w3 hw9
  have hb : Below w2.heap.size w2 w3 := by obtain ⟨u, rfl⟩ := hw9; exact u.h
  clear hw9 this fq0_0 fq0_1 fq0_2 fq0_3 fq1_0 fq1_1 fq1_2 fq1_3 fq2_0 fq2_1 fq2_2 fq2_3
  have HL7 := Lib.hid (bstep HL6.out hb)
  have HB7 := Lib.hid (HB6.out.bel hb)
  clear hb
  clear HL6 HB6
  go_wp2_with fail
  haveI := cls_some w3
  have fq0_0 : ∀ u : Cl w3, u.x.cell? ⟨w.heap.size, 0, none⟩ = some (.bool na) := fun u => ((HB7.out.bel u.h).2.2.2.2.1).at 0 (.bool na) rfl
  have fq0_1 : ∀ u : Cl w3, u.x.cell? ⟨w.heap.size, 1, none⟩ = some (.string sa) := fun u => ((HB7.out.bel u.h).2.2.2.2.1).at 1 (.string sa) rfl
  have fq0_2 : ∀ u : Cl w3, u.x.cell? ⟨w.heap.size, 2, none⟩ = some (.bool ma) := fun u => ((HB7.out.bel u.h).2.2.2.2.1).at 2 (.bool ma) rfl
  have fq0_3 : ∀ u : Cl w3, u.x.cell? ⟨w.heap.size, 3, none⟩ = some (.string ta) := fun u => ((HB7.out.bel u.h).2.2.2.2.1).at 3 (.string ta) rfl
  have fq1_0 : ∀ u : Cl w3, u.x.cell? ⟨w.heap.size + 1, 0, none⟩ = some (.bool nb) := fun u => ((HB7.out.bel u.h).2.2.2.1).at 0 (.bool nb) rfl
  have fq1_1 : ∀ u : Cl w3, u.x.cell? ⟨w.heap.size + 1, 1, none⟩ = some (.string sb) := fun u => ((HB7.out.bel u.h).2.2.2.1).at 1 (.string sb) rfl
  have fq1_2 : ∀ u : Cl w3, u.x.cell? ⟨w.heap.size + 1, 2, none⟩ = some (.bool mb) := fun u => ((HB7.out.bel u.h).2.2.2.1).at 2 (.bool mb) rfl
  have fq1_3 : ∀ u : Cl w3, u.x.cell? ⟨w.heap.size + 1, 3, none⟩ = some (.string tb) := fun u => ((HB7.out.bel u.h).2.2.2.1).at 3 (.string tb) rfl
  have fq2_0 : ∀ u : Cl w3, u.x.cell? ⟨w.heap.size + 1 + 1, 0, none⟩ = some (.bool nc) := fun u => ((HB7.out.bel u.h).2.2.1).at 0 (.bool nc) rfl
  have fq2_1 : ∀ u : Cl w3, u.x.cell? ⟨w.heap.size + 1 + 1, 1, none⟩ = some (.string sc) := fun u => ((HB7.out.bel u.h).2.2.1).at 1 (.string sc) rfl
  have fq2_2 : ∀ u : Cl w3, u.x.cell? ⟨w.heap.size + 1 + 1, 2, none⟩ = some (.bool mc) := fun u => ((HB7.out.bel u.h).2.2.1).at 2 (.bool mc) rfl
  have fq2_3 : ∀ u : Cl w3, u.x.cell? ⟨w.heap.size + 1 + 1, 3, none⟩ = some (.string tc) := fun u => ((HB7.out.bel u.h).2.2.1).at 3 (.string tc) rfl
  have fq4_0 : ∀ u : Cl w3, u.x.cell? ⟨B9_2, 0, none⟩ = some (.bool nw) := fun u => ((HB7.out.bel u.h).1).at 0 (.bool nw) rfl
  have fq4_1 : ∀ u : Cl w3, u.x.cell? ⟨B9_2, 1, none⟩ = some (.string sw) := fun u => ((HB7.out.bel u.h).1).at 1 (.string sw) rfl
  have fq4_2 : ∀ u : Cl w3, u.x.cell? ⟨B9_2, 2, none⟩ = some (.bool mw) := fun u => ((HB7.out.bel u.h).1).at 2 (.bool mw) rfl
  have fq4_3 : ∀ u : Cl w3, u.x.cell? ⟨B9_2, 3, none⟩ = some (.string tw) := fun u => ((HB7.out.bel u.h).1).at 3 (.string tw) rfl
  refine wp_region_cls (by kernel_rfl) ?_
  iterate 7 (go_big_quiet_step (fail))
  go_big_quiet_step ((go_at_call 16; exact quiet_cls H8.out _))
  go_big_quiet_step ((go_at_call 17; exact quiet_cls H13.out _))
  iterate 4 (go_big_quiet_step (fail))
  go_big_quiet_step ((go_at_call 17; exact quiet_cls H5.out _))
  iterate 3 (go_big_quiet_step (fail))
  go_big_quiet_step ((go_at_call 17; exact quiet_cls H14.out _))
  go_big_quiet_step ((go_at_call 16; exact quiet_cls H15.out _))
  iterate 6 (go_big_quiet_step (fail))
  go_big_quiet_step ((go_at_call 19; exact quiet_cls H16.out _))
  iterate 1 (go_big_quiet_step (fail))
  go_big_quiet_step ((go_at_call 16; exact quiet_cls H17.out _))
  iterate 7 (go_big_quiet_step (fail))
  go_big_quiet_step ((go_at_call 20; exact quiet_cls H18.out _))
  go_big_quiet_step ((go_at_call 16; exact quiet_cls H19.out _))
  go_big_quiet_step ((go_at_call 18; exact quiet_cls H1.out _))
  iterate 5 (go_big_quiet_step (fail))
  go_big_quiet_step ((go_at_call 18; exact quiet_cls H20.out _))
  go_big_quiet_step ((go_at_call 17; exact quiet_cls H21.out _))
  iterate 4 (go_big_quiet_step (fail))
  refine wpQuiet_nil ?_
  intro w4 hw9
  have hb : Below w3.heap.size w3 w4 := by obtain ⟨u, rfl⟩ := hw9; exact u.h
  clear hw9 this fq0_0 fq0_1 fq0_2 fq0_3 fq1_0 fq1_1 fq1_2 fq1_3 fq2_0 fq2_1 fq2_2 fq2_3 fq4_0 fq4_1 fq4_2 fq4_3
  have HL8 := Lib.hid (bstep HL7.out hb)
  have HB8 := Lib.hid (HB7.out.bel hb)
  clear hb
  clear HL7 HB7
  have fx0_0_8 := (HB8.out.2.2.2.2.1).at 0 (.bool na) rfl
  have fx0_1_8 := (HB8.out.2.2.2.2.1).at 1 (.string sa) rfl
  have fx0_2_8 := (HB8.out.2.2.2.2.1).at 2 (.bool ma) rfl
  have fx0_3_8 := (HB8.out.2.2.2.2.1).at 3 (.string ta) rfl
  have fx1_0_8 := (HB8.out.2.2.2.1).at 0 (.bool nb) rfl
  have fx1_1_8 := (HB8.out.2.2.2.1).at 1 (.string sb) rfl
  have fx1_2_8 := (HB8.out.2.2.2.1).at 2 (.bool mb) rfl
  have fx1_3_8 := (HB8.out.2.2.2.1).at 3 (.string tb) rfl
  go_wp2_with fail
  refine (H22.out _).mono ?_
  rintro e w5 ⟨rfl, hb⟩
  have HL9 := Lib.hid (bstep HL8.out hb)
  have HB9 := Lib.hid (HB8.out.bel hb)
  clear hb
  clear HL8 HB8 fx0_0_8 fx0_1_8 fx0_2_8 fx0_3_8 fx1_0_8 fx1_1_8 fx1_2_8 fx1_3_8
  have HO5 := Lib.hid (show B9_2 < w5.heap.size from by have := (HB9.out.1).lt; first | omega | (simp at this; omega))
  have HL10 := Lib.hid (HL9.out.alloc HL9.out.size (.cells #[.bool false, .string ⟨#[]⟩, .bool false, .string ⟨#[]⟩] 25))
  have HB10 := Lib.hid (HB9.out.push (w5.heap.size) #[.bool false, .string ⟨#[]⟩, .bool false, .string ⟨#[]⟩] 25 (by first | rfl | simp))
  clear HL9 HB9
  go_wp2_with fail
  obtain ⟨Bw5, hB⟩ : ∃ B, w5.heap.size = B := ⟨_, rfl⟩
  rw [hB] at HB10 ⊢
  try rw [hB] at HO0
  try rw [hB] at HO1
  try rw [hB] at HO2
  try rw [hB] at HO3
  try rw [hB] at HO4
  try rw [hB] at HO5
  clear hB
  obtain ⟨W6, hW⟩ : ∃ W, (w5.alloc (.cells #[.bool false, .string ⟨#[]⟩, .bool false, .string ⟨#[]⟩] 25)) = W := ⟨_, rfl⟩
  rw [hW] at HB10 HL10 ⊢
  clear hW
  haveI := cls_some W6
  have fq1_0 : ∀ u : Cl W6, u.x.cell? ⟨w.heap.size + 1, 0, none⟩ = some (.bool nb) := fun u => ((HB10.out.bel u.h).2.2.2.2.1).at 0 (.bool nb) rfl
  have fq1_1 : ∀ u : Cl W6, u.x.cell? ⟨w.heap.size + 1, 1, none⟩ = some (.string sb) := fun u => ((HB10.out.bel u.h).2.2.2.2.1).at 1 (.string sb) rfl
  have fq1_2 : ∀ u : Cl W6, u.x.cell? ⟨w.heap.size + 1, 2, none⟩ = some (.bool mb) := fun u => ((HB10.out.bel u.h).2.2.2.2.1).at 2 (.bool mb) rfl
  have fq1_3 : ∀ u : Cl W6, u.x.cell? ⟨w.heap.size + 1, 3, none⟩ = some (.string tb) := fun u => ((HB10.out.bel u.h).2.2.2.2.1).at 3 (.string tb) rfl
  refine wp_region_cls (by kernel_rfl) ?_
  iterate 1 (go_big_quiet_step (fail))
  go_big_quiet_step ((go_at_call 18; exact quiet_cls H1.out _))
  go_big_quiet_step ((go_at_call 15; exact quiet_cls H23.out _))
  iterate 1 (go_big_quiet_step (fail))
  refine wpQuiet_nil ?_
  intro w7 hw9
  have hb : Below W6.heap.size W6 w7 := by obtain ⟨u, rfl⟩ := hw9; exact u.h
  clear hw9 this fq1_0 fq1_1 fq1_2 fq1_3
  have HL11 := Lib.hid (bstep HL10.out hb)
  have HB11 := Lib.hid (HB10.out.bel hb)
  clear hb
  clear HL10 HB10
  go_wp2_with fail
  refine (H24.out _).mono ?_
  rintro e w8 ⟨rfl, hb⟩
  have HL12 := Lib.hid (bstep HL11.out hb)
  have HB12 := Lib.hid (HB11.out.bel hb)
  clear hb
  clear HL11 HB11
  go_wp2
  go_ret
  exact ⟨rfl, HL12.out⟩
end Go.Proofs.Gv
