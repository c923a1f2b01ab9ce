/- Layer 02: functions of rational, walked over the results of what they call (printed by gen02q.py). -/
import Derived.Test.YtamempcabmlodaaDoorRatTabP
import Derived.Test.YtamempcabmlodaaDoorM2OrderP
import Derived.Test.YtamempcabmlodaaDoorRwcanon2P
import Derived.LoopN
import Derived.Maps.RangeWalk
set_option linter.unusedSimpArgs false
set_option linter.unusedVariables false
namespace Go.Proofs.Gv
open Go Go.RowKit

set_option maxRecDepth 100000 in
set_option maxHeartbeats 4000000 in
theorem canon_law {nr1 mr1 nr2 mr2 nr3 mr3 nr4 mr4 nz no nx ny : Bool} {sr1 tr1 sr2 tr2 sr3 tr3 sr4 tr4 sz so sx sy : ByteArray} (na ma : Bool) (sa ta : ByteArray) (nb mb : Bool) (sb tb : ByteArray) (hgz : ∀ x ∈ ([(na, sa, ma, ta), (nb, sb, mb, tb)] : List (Bool × ByteArray × Bool × ByteArray)), x.2.1.size ≤ maxLen ∧ x.2.2.2.size ≤ maxLen) (hgr : grQ 24 [(na, sa, ma, ta), (nb, sb, mb, tb)] = false) (nk : Bool) (sk : ByteArray) (hk : decide ((8 : Int) < sk.size) = false) (c1 : Int) (h1 : (c1 == 0) = false) (c2 : Int) (h2 : (c2 == 0) = false) (sp : ByteArray) (w : World)
    (H1 : ∀ W, Calls Tryd.prog 16 #[.agg #[.bool na, .string sa, .bool ma, .string ta], .agg #[.bool nb, .string sb, .bool mb, .string tb]] W fun e w' => e = .returned (.agg #[.bool nr1, .string sr1, .bool mr1, .string tr1]) ∧ Below W.heap.size W w')
    (H2 : ∀ W, Calls Tryd.prog 17 #[.agg #[.bool na, .string sa, .bool ma, .string ta], .agg #[.bool nb, .string sb, .bool mb, .string tb]] W fun e w' => e = .returned (.agg #[.bool nr2, .string sr2, .bool mr2, .string tr2]) ∧ Below W.heap.size W w')
    (H3 : ∀ W, Calls Tryd.prog 20 #[.agg #[.bool na, .string sa, .bool ma, .string ta]] W fun e w' => e = .returned (.agg #[.bool nr3, .string sr3, .bool mr3, .string tr3]) ∧ Below W.heap.size W w')
    (H4 : ∀ W, Calls Tryd.prog 22 #[.agg #[.bool nk, .string sk]] W fun e w' => e = .returned (.agg #[.bool nr4, .string sr4, .bool mr4, .string tr4]) ∧ Below W.heap.size W w')
    (H5 : ∀ W, Calls Tryd.prog 14 #[.agg #[.bool nr1, .string sr1, .bool mr1, .string tr1]] W fun e w' => e = .returned (.int .i64 0) ∧ Below W.heap.size W w')
    (H6 : ∀ W, Calls Tryd.prog 24 #[.int .i64 0] W fun e w' => e = .returned (.agg #[.bool nz, .string sz]) ∧ Below W.heap.size W w')
    (H7 : ∀ W, Calls Tryd.prog 23 #[.agg #[.bool mr1, .string tr1], .agg #[.bool nz, .string sz]] W fun e w' => e = .returned (.int .i64 1) ∧ Below W.heap.size W w')
    (H8 : ∀ W, Calls Tryd.prog 25 #[.agg #[.bool nr1, .string sr1], .agg #[.bool mr1, .string tr1]] W fun e w' => e = .returned (.agg #[.bool no, .string so]) ∧ Below W.heap.size W w')
    (H9 : ∀ W, Calls Tryd.prog 24 #[.int .i64 1] W fun e w' => e = .returned (.agg #[.bool no, .string so]) ∧ Below W.heap.size W w')
    (H10 : ∀ W, Calls Tryd.prog 14 #[.agg #[.bool nr2, .string sr2, .bool mr2, .string tr2]] W fun e w' => e = .returned (.int .i64 0) ∧ Below W.heap.size W w')
    (H11 : ∀ W, Calls Tryd.prog 23 #[.agg #[.bool mr2, .string tr2], .agg #[.bool nz, .string sz]] W fun e w' => e = .returned (.int .i64 1) ∧ Below W.heap.size W w')
    (H12 : ∀ W, Calls Tryd.prog 25 #[.agg #[.bool nr2, .string sr2], .agg #[.bool mr2, .string tr2]] W fun e w' => e = .returned (.agg #[.bool no, .string so]) ∧ Below W.heap.size W w')
    (H13 : ∀ W, Calls Tryd.prog 14 #[.agg #[.bool nr3, .string sr3, .bool mr3, .string tr3]] W fun e w' => e = .returned (.int .i64 0) ∧ Below W.heap.size W w')
    (H14 : ∀ W, Calls Tryd.prog 23 #[.agg #[.bool mr3, .string tr3], .agg #[.bool nz, .string sz]] W fun e w' => e = .returned (.int .i64 1) ∧ Below W.heap.size W w')
    (H15 : ∀ W, Calls Tryd.prog 25 #[.agg #[.bool nr3, .string sr3], .agg #[.bool mr3, .string tr3]] W fun e w' => e = .returned (.agg #[.bool no, .string so]) ∧ Below W.heap.size W w')
    (H16 : ∀ W, Calls Tryd.prog 14 #[.agg #[.bool nr4, .string sr4, .bool mr4, .string tr4]] W fun e w' => e = .returned (.int .i64 0) ∧ Below W.heap.size W w')
    (H17 : ∀ W, Calls Tryd.prog 23 #[.agg #[.bool mr4, .string tr4], .agg #[.bool nz, .string sz]] W fun e w' => e = .returned (.int .i64 1) ∧ Below W.heap.size W w')
    (H18 : ∀ W, Calls Tryd.prog 25 #[.agg #[.bool nr4, .string sr4], .agg #[.bool mr4, .string tr4]] W fun e w' => e = .returned (.agg #[.bool no, .string so]) ∧ Below W.heap.size W w')
    (H19 : ∀ W, Calls Tryd.prog 23 #[.agg #[.bool nk, .string sk], .agg #[.bool nz, .string sz]] W fun e w' => e = .returned (.int .i64 c1) ∧ Below W.heap.size W w')
    (H20 : ∀ W, Calls Tryd.prog 23 #[.agg #[.bool ma, .string ta], .agg #[.bool nz, .string sz]] W fun e w' => e = .returned (.int .i64 c2) ∧ Below W.heap.size W w')
    (H21 : ∀ W, Calls Tryd.prog 26 #[.agg #[.bool na, .string sa], .agg #[.bool nk, .string sk]] W fun e w' => e = .returned (.agg #[.bool nx, .string sx]) ∧ Below W.heap.size W w')
    (H22 : ∀ W, Calls Tryd.prog 26 #[.agg #[.bool ma, .string ta], .agg #[.bool nk, .string sk]] W fun e w' => e = .returned (.agg #[.bool ny, .string sy]) ∧ Below W.heap.size W w')
    (H23 : ∀ W, Calls Tryd.prog 16 #[.agg #[.bool nx, .string sx, .bool ny, .string sy], .agg #[.bool nb, .string sb, .bool mb, .string tb]] W fun e w' => e = .returned (.agg #[.bool nr1, .string sr1, .bool mr1, .string tr1]) ∧ Below W.heap.size W w')
    (H24 : ∀ W, Calls Tryd.prog 15 #[.agg #[.bool na, .string sa, .bool ma, .string ta], .agg #[.bool nx, .string sx, .bool ny, .string sy]] W fun e w' => e = .returned (.int .i64 0) ∧ Below W.heap.size W w')
    (H25 : ∀ W, Calls Tryd.prog 13 #[.agg #[.bool na, .string sa, .bool ma, .string ta]] W fun e w' => e = .returned (.string sp) ∧ Below W.heap.size W w')
    (H26 : ∀ W, Calls Tryd.prog 13 #[.agg #[.bool nx, .string sx, .bool ny, .string sy]] W fun e w' => e = .returned (.string sp) ∧ Below W.heap.size W w')
    (H27 : ∀ W, Calls Tryd.prog 11 #[] W fun e w' => e = .returned (.bool true) ∧ Below W.heap.size W w')
    : Calls Tryd.prog 6 #[.agg #[.bool na, .string sa, .bool ma, .string ta], .agg #[.bool nb, .string sb, .bool mb, .string tb], .agg #[.bool nk, .string sk]] w fun e w' => e = .returned (.bool true) ∧ Below w.heap.size w w' := by
  replace H1 := Lib.hid H1
  replace H2 := Lib.hid H2
  replace H3 := Lib.hid H3
  replace H4 := Lib.hid H4
  replace H5 := Lib.hid H5
  replace H6 := Lib.hid H6
  replace H7 := Lib.hid H7
  replace H8 := Lib.hid H8
  replace H9 := Lib.hid H9
  replace H10 := Lib.hid H10
  replace H11 := Lib.hid H11
  replace H12 := Lib.hid H12
  replace H13 := Lib.hid H13
  replace H14 := Lib.hid H14
  replace H15 := Lib.hid H15
  replace H16 := Lib.hid H16
  replace H17 := Lib.hid H17
  replace H18 := Lib.hid H18
  replace H19 := Lib.hid H19
  replace H20 := Lib.hid H20
  replace H21 := Lib.hid H21
  replace H22 := Lib.hid H22
  replace H23 := Lib.hid H23
  replace H24 := Lib.hid H24
  replace H25 := Lib.hid H25
  replace H26 := Lib.hid H26
  replace H27 := Lib.hid H27
  have HGZ := Lib.hid hgz
  clear hgz
  have qo : eqI no so no so = true := eqI_iff.2 ⟨rfl, rfl⟩
  have qr1 : eqQ nr1 sr1 mr1 tr1 nr1 sr1 mr1 tr1 = true := eqQ_iff.2 ⟨⟨rfl, rfl⟩, ⟨rfl, rfl⟩⟩
  go_enter Tryd.func6, Tryd.ntmps6
  have HL0 := Lib.hid (Below.refl w.heap.size w)
  have HB0 := Lib.hid (show Bs [] w from trivial)
  have HO0 := Lib.hid (show w.heap.size ≤ w.heap.size from by have := HL0.out.size; first | omega | (simp at this; omega))
  have HL1 := Lib.hid (HL0.out.alloc HL0.out.size (.cells #[.bool na, .string sa, .bool ma, .string ta] 25))
  have HB1 := Lib.hid (HB0.out.push (w.heap.size) #[.bool na, .string sa, .bool ma, .string ta] 25 (by first | rfl | simp))
  clear HL0 HB0
  have HO1 := Lib.hid (show w.heap.size < w.heap.size + 1 from by have := (HB1.out.1).lt; first | omega | (simp at this; omega))
  have HL2 := Lib.hid (HL1.out.alloc HL1.out.size (.cells #[.bool nb, .string sb, .bool mb, .string tb] 25))
  have HB2 := Lib.hid (HB1.out.push (w.heap.size + 1) #[.bool nb, .string sb, .bool mb, .string tb] 25 (by first | rfl | simp))
  clear HL1 HB1
  have HO2 := Lib.hid (show w.heap.size + 1 < w.heap.size + 1 + 1 from by have := (HB2.out.1).lt; first | omega | (simp at this; omega))
  have HL3 := Lib.hid (HL2.out.alloc HL2.out.size (.cells #[.bool nk, .string sk] 23))
  have HB3 := Lib.hid (HB2.out.push (w.heap.size + 1 + 1) #[.bool nk, .string sk] 23 (by first | rfl | simp))
  clear HL2 HB2
  have fx0_0_3 := (HB3.out.2.2.1).at 0 (.bool na) rfl
  have fx0_1_3 := (HB3.out.2.2.1).at 1 (.string sa) rfl
  have fx0_2_3 := (HB3.out.2.2.1).at 2 (.bool ma) rfl
  have fx0_3_3 := (HB3.out.2.2.1).at 3 (.string ta) rfl
  have fx1_0_3 := (HB3.out.2.1).at 0 (.bool nb) rfl
  have fx1_1_3 := (HB3.out.2.1).at 1 (.string sb) rfl
  have fx1_2_3 := (HB3.out.2.1).at 2 (.bool mb) rfl
  have fx1_3_3 := (HB3.out.2.1).at 3 (.string tb) rfl
  have HO3 := Lib.hid (show w.heap.size + 1 + 1 < w.heap.size + 1 + 1 + 1 from by have := (HB3.out.1).lt; first | omega | (simp at this; omega))
  have HL4 := Lib.hid (HL3.out.alloc HL3.out.size (.cells #[.bool na, .string sa, .bool ma, .string ta, .bool nb, .string sb, .bool mb, .string tb] 25))
  have HB4 := Lib.hid (HB3.out.push (w.heap.size + 1 + 1 + 1) #[.bool na, .string sa, .bool ma, .string ta, .bool nb, .string sb, .bool mb, .string tb] 25 (by first | rfl | simp))
  clear HL3 HB3
  go_wp2_with fail
  refine (greatQ_box [(na, sa, ma, ta), (nb, sb, mb, tb)] (HB4.out.1) (show 2 ≤ 1000 by decide) HGZ.out).mono ?_
  rintro e w1 ⟨rfl, hb⟩
  have HL5 := Lib.hid (bstep HL4.out hb)
  have HB5 := Lib.hid (HB4.out.bel hb)
  clear hb
  clear HL4 HB4 fx0_0_3 fx0_1_3 fx0_2_3 fx0_3_3 fx1_0_3 fx1_1_3 fx1_2_3 fx1_3_3
  have fx2_1_5 := (HB5.out.2.1).at 1 (.string sk) rfl
  go_wp2_with fail
  refine wp_region_front_free 10 zvQ (by kernel_rfl) shQ 33 (.int .i64 0) (by kernel_rfl) (by kernel_rfl) (by kernel_rfl) (by kernel_rfl) (fun _ _ _ h => h) (by kernel_rfl) (by kernel_rfl) (zvQ_alloc _ (by kernel_rfl)) (shQ_store _ (by kernel_rfl)) ?_
  intro mm BW hm1 hm2 hBW
  simp only [List.dropLast_cons_cons, List.dropLast_singleton]
  go_frame
  haveI := clm_some mm BW
  have fq0_0 : ∀ u : Clm mm BW, u.x.cell? ⟨w.heap.size, 0, none⟩ = some (.bool na) := fun u => ((HB5.out.bel (u.old hm1 hBW)).2.2.2.1).at 0 (.bool na) rfl
  have fq0_1 : ∀ u : Clm mm BW, u.x.cell? ⟨w.heap.size, 1, none⟩ = some (.string sa) := fun u => ((HB5.out.bel (u.old hm1 hBW)).2.2.2.1).at 1 (.string sa) rfl
  have fq0_2 : ∀ u : Clm mm BW, u.x.cell? ⟨w.heap.size, 2, none⟩ = some (.bool ma) := fun u => ((HB5.out.bel (u.old hm1 hBW)).2.2.2.1).at 2 (.bool ma) rfl
  have fq0_3 : ∀ u : Clm mm BW, u.x.cell? ⟨w.heap.size, 3, none⟩ = some (.string ta) := fun u => ((HB5.out.bel (u.old hm1 hBW)).2.2.2.1).at 3 (.string ta) rfl
  have fq1_0 : ∀ u : Clm mm BW, u.x.cell? ⟨w.heap.size + 1, 0, none⟩ = some (.bool nb) := fun u => ((HB5.out.bel (u.old hm1 hBW)).2.2.1).at 0 (.bool nb) rfl
  have fq1_1 : ∀ u : Clm mm BW, u.x.cell? ⟨w.heap.size + 1, 1, none⟩ = some (.string sb) := fun u => ((HB5.out.bel (u.old hm1 hBW)).2.2.1).at 1 (.string sb) rfl
  have fq1_2 : ∀ u : Clm mm BW, u.x.cell? ⟨w.heap.size + 1, 2, none⟩ = some (.bool mb) := fun u => ((HB5.out.bel (u.old hm1 hBW)).2.2.1).at 2 (.bool mb) rfl
  have fq1_3 : ∀ u : Clm mm BW, u.x.cell? ⟨w.heap.size + 1, 3, none⟩ = some (.string tb) := fun u => ((HB5.out.bel (u.old hm1 hBW)).2.2.1).at 3 (.string tb) rfl
  have fq2_0 : ∀ u : Clm mm BW, u.x.cell? ⟨w.heap.size + 1 + 1, 0, none⟩ = some (.bool nk) := fun u => ((HB5.out.bel (u.old hm1 hBW)).2.1).at 0 (.bool nk) rfl
  have fq2_1 : ∀ u : Clm mm BW, u.x.cell? ⟨w.heap.size + 1 + 1, 1, none⟩ = some (.string sk) := fun u => ((HB5.out.bel (u.old hm1 hBW)).2.1).at 1 (.string sk) rfl
  simp only [frontOf, unmade, List.take_succ_cons, List.take_zero, List.map_cons, List.map_nil]
  iterate 2 (go_big_quiet_step (fail))
  go_big_quiet_step ((go_at_call 16; exact quiet_clm hm2 H1.out _))
  iterate 2 (go_big_quiet_step (fail))
  go_big_quiet_step ((go_at_call 17; exact quiet_clm hm2 H2.out _))
  iterate 1 (go_big_quiet_step (fail))
  go_big_quiet_step ((go_at_call 20; exact quiet_clm hm2 H3.out _))
  iterate 1 (go_big_quiet_step (fail))
  go_big_quiet_step ((go_at_call 22; exact quiet_clm hm2 H4.out _))
  refine wpQuiet_nil ?_
  refine ⟨List.forall_mem_nil _, ?_⟩
  intro γ w2 hb hF
  clear hBW this hm1 hm2 fq0_0 fq0_1 fq0_2 fq0_3 fq1_0 fq1_1 fq1_2 fq1_3 fq2_0 fq2_1
  clear BW mm
  simp only [madesFrom, Facts, patch, List.take_succ_cons, List.take_zero, List.drop_succ_cons, List.drop_zero, Nat.zero_add, Nat.reduceAdd, List.mem_cons, List.not_mem_nil, or_false, forall_eq, forall_eq_or_imp, false_imp_iff, implies_true, and_true] at hF ⊢
  have HL6 := Lib.hid (bstep HL5.out hb)
  have HB6 := Lib.hid (HB5.out.bel hb)
  clear hb  hF
  clear HL5 HB5 fx2_1_5
  have HO4 := Lib.hid (show w.heap.size + 1 + 1 + 1 < w2.heap.size from by have := (HB6.out.1).lt; first | omega | (simp at this; omega))
  have HL7 := Lib.hid (HL6.out.alloc HL6.out.size (.cells #[.bool nr1, .string sr1, .bool mr1, .string tr1, .bool nr2, .string sr2, .bool mr2, .string tr2, .bool nr3, .string sr3, .bool mr3, .string tr3, .bool nr4, .string sr4, .bool mr4, .string tr4] 25))
  have HB7 := Lib.hid (HB6.out.push (w2.heap.size) #[.bool nr1, .string sr1, .bool mr1, .string tr1, .bool nr2, .string sr2, .bool mr2, .string tr2, .bool nr3, .string sr3, .bool mr3, .string tr3, .bool nr4, .string sr4, .bool mr4, .string tr4] 25 (by first | rfl | simp))
  clear HL6 HB6
  go_wp2_with fail
  refine wp_loop_rounds 5 ?_
  rw [rounds_succ]
  have fx4_0_7 := (HB7.out.1).at 0 (.bool nr1) rfl
  have fx4_1_7 := (HB7.out.1).at 1 (.string sr1) rfl
  have fx4_2_7 := (HB7.out.1).at 2 (.bool mr1) rfl
  have fx4_3_7 := (HB7.out.1).at 3 (.string tr1) rfl
  have HO5 := Lib.hid (show w2.heap.size < w2.heap.size + 1 from by have := (HB7.out.1).lt; first | omega | (simp at this; omega))
  have HL8 := Lib.hid (HL7.out.alloc HL7.out.size (.cells #[.bool nr1, .string sr1, .bool mr1, .string tr1] 25))
  have HB8 := Lib.hid (HB7.out.push (w2.heap.size + 1) #[.bool nr1, .string sr1, .bool mr1, .string tr1] 25 (by first | rfl | simp))
  clear HL7 HB7
  go_wp2_with fail
  obtain ⟨Bw2, hB⟩ : ∃ B, w2.heap.size = B := ⟨_, rfl⟩
  rw [hB] at HB8 ⊢
  try rw [hB] at HO0
  try rw [hB] at HO1
  try rw [hB] at HO2
  try rw [hB] at HO3
  try rw [hB] at HO4
  try rw [hB] at HO5
  clear hB
  obtain ⟨W3, hW⟩ : ∃ W, ((w2.alloc (.cells #[.bool nr1, .string sr1, .bool mr1, .string tr1, .bool nr2, .string sr2, .bool mr2, .string tr2, .bool nr3, .string sr3, .bool mr3, .string tr3, .bool nr4, .string sr4, .bool mr4, .string tr4] 25)).alloc (.cells #[.bool nr1, .string sr1, .bool mr1, .string tr1] 25)) = W := ⟨_, rfl⟩
  rw [hW] at HB8 HL8 ⊢
  clear hW fx4_0_7 fx4_1_7 fx4_2_7 fx4_3_7
  haveI := cls_some W3
  have fq5_0 : ∀ u : Cl W3, u.x.cell? ⟨Bw2 + 1, 0, none⟩ = some (.bool nr1) := fun u => ((HB8.out.bel u.h).1).at 0 (.bool nr1) rfl
  have fq5_1 : ∀ u : Cl W3, u.x.cell? ⟨Bw2 + 1, 1, none⟩ = some (.string sr1) := fun u => ((HB8.out.bel u.h).1).at 1 (.string sr1) rfl
  have fq5_2 : ∀ u : Cl W3, u.x.cell? ⟨Bw2 + 1, 2, none⟩ = some (.bool mr1) := fun u => ((HB8.out.bel u.h).1).at 2 (.bool mr1) rfl
  have fq5_3 : ∀ u : Cl W3, u.x.cell? ⟨Bw2 + 1, 3, none⟩ = some (.string tr1) := fun u => ((HB8.out.bel u.h).1).at 3 (.string tr1) rfl
  refine wp_region_cls (by kernel_rfl) ?_
  iterate 1 (go_big_quiet_step (fail))
  go_big_quiet_step ((go_at_call 14; exact quiet_cls H5.out _))
  iterate 4 (go_big_quiet_step (fail))
  go_big_quiet_step ((go_at_call 24; exact quiet_cls H6.out _))
  go_big_quiet_step ((go_at_call 23; exact quiet_cls H7.out _))
  iterate 7 (go_big_quiet_step (fail))
  go_big_quiet_step ((go_at_call 25; exact quiet_cls H8.out _))
  go_big_quiet_step ((go_at_call 24; exact quiet_cls H9.out _))
  iterate 2 (go_big_quiet_step (fail))
  refine wpQuiet_nil ?_
  intro w4 hw9
  have hb : Below W3.heap.size W3 w4 := by obtain ⟨u, rfl⟩ := hw9; exact u.h
  clear hw9 this fq5_0 fq5_1 fq5_2 fq5_3
  have HL9 := Lib.hid (bstep HL8.out hb)
  have HB9 := Lib.hid (HB8.out.bel hb)
  clear hb
  clear HL8 HB8
  go_wp2_with fail
  rw [rounds_succ]
  have fx4_4_9 := (HB9.out.2.1).at 4 (.bool nr2) rfl
  have fx4_5_9 := (HB9.out.2.1).at 5 (.string sr2) rfl
  have fx4_6_9 := (HB9.out.2.1).at 6 (.bool mr2) rfl
  have fx4_7_9 := (HB9.out.2.1).at 7 (.string tr2) rfl
  have HO6 := Lib.hid (show Bw2 + 1 < w4.heap.size from by have := (HB9.out.1).lt; first | omega | (simp at this; omega))
  have HL10 := Lib.hid (HL9.out.alloc HL9.out.size (.cells #[.bool nr2, .string sr2, .bool mr2, .string tr2] 25))
  have HB10 := Lib.hid (HB9.out.push (w4.heap.size) #[.bool nr2, .string sr2, .bool mr2, .string tr2] 25 (by first | rfl | simp))
  clear HL9 HB9
  go_wp2_with fail
  obtain ⟨Bw4, hB⟩ : ∃ B, w4.heap.size = B := ⟨_, rfl⟩
  rw [hB] at HB10 ⊢
  try rw [hB] at HO0
  try rw [hB] at HO1
  try rw [hB] at HO2
  try rw [hB] at HO3
  try rw [hB] at HO4
  try rw [hB] at HO5
  try rw [hB] at HO6
  clear hB
  obtain ⟨W5, hW⟩ : ∃ W, (w4.alloc (.cells #[.bool nr2, .string sr2, .bool mr2, .string tr2] 25)) = W := ⟨_, rfl⟩
  rw [hW] at HB10 HL10 ⊢
  clear hW fx4_4_9 fx4_5_9 fx4_6_9 fx4_7_9
  haveI := cls_some W5
  have fq6_0 : ∀ u : Cl W5, u.x.cell? ⟨Bw4, 0, none⟩ = some (.bool nr2) := fun u => ((HB10.out.bel u.h).1).at 0 (.bool nr2) rfl
  have fq6_1 : ∀ u : Cl W5, u.x.cell? ⟨Bw4, 1, none⟩ = some (.string sr2) := fun u => ((HB10.out.bel u.h).1).at 1 (.string sr2) rfl
  have fq6_2 : ∀ u : Cl W5, u.x.cell? ⟨Bw4, 2, none⟩ = some (.bool mr2) := fun u => ((HB10.out.bel u.h).1).at 2 (.bool mr2) rfl
  have fq6_3 : ∀ u : Cl W5, u.x.cell? ⟨Bw4, 3, none⟩ = some (.string tr2) := fun u => ((HB10.out.bel u.h).1).at 3 (.string tr2) rfl
  refine wp_region_cls (by kernel_rfl) ?_
  iterate 1 (go_big_quiet_step (fail))
  go_big_quiet_step ((go_at_call 14; exact quiet_cls H10.out _))
  iterate 4 (go_big_quiet_step (fail))
  go_big_quiet_step ((go_at_call 24; exact quiet_cls H6.out _))
  go_big_quiet_step ((go_at_call 23; exact quiet_cls H11.out _))
  iterate 7 (go_big_quiet_step (fail))
  go_big_quiet_step ((go_at_call 25; exact quiet_cls H12.out _))
  go_big_quiet_step ((go_at_call 24; exact quiet_cls H9.out _))
  iterate 2 (go_big_quiet_step (fail))
  refine wpQuiet_nil ?_
  intro w6 hw9
  have hb : Below W5.heap.size W5 w6 := by obtain ⟨u, rfl⟩ := hw9; exact u.h
  clear hw9 this fq6_0 fq6_1 fq6_2 fq6_3
  have HL11 := Lib.hid (bstep HL10.out hb)
  have HB11 := Lib.hid (HB10.out.bel hb)
  clear hb
  clear HL10 HB10
  go_wp2_with fail
  rw [rounds_succ]
  have fx4_8_11 := (HB11.out.2.2.1).at 8 (.bool nr3) rfl
  have fx4_9_11 := (HB11.out.2.2.1).at 9 (.string sr3) rfl
  have fx4_10_11 := (HB11.out.2.2.1).at 10 (.bool mr3) rfl
  have fx4_11_11 := (HB11.out.2.2.1).at 11 (.string tr3) rfl
  have HO7 := Lib.hid (show Bw4 < w6.heap.size from by have := (HB11.out.1).lt; first | omega | (simp at this; omega))
  have HL12 := Lib.hid (HL11.out.alloc HL11.out.size (.cells #[.bool nr3, .string sr3, .bool mr3, .string tr3] 25))
  have HB12 := Lib.hid (HB11.out.push (w6.heap.size) #[.bool nr3, .string sr3, .bool mr3, .string tr3] 25 (by first | rfl | simp))
  clear HL11 HB11
  go_wp2_with fail
  obtain ⟨Bw6, hB⟩ : ∃ B, w6.heap.size = B := ⟨_, rfl⟩
  rw [hB] at HB12 ⊢
  try rw [hB] at HO0
  try rw [hB] at HO1
  try rw [hB] at HO2
  try rw [hB] at HO3
  try rw [hB] at HO4
  try rw [hB] at HO5
  try rw [hB] at HO6
  try rw [hB] at HO7
  clear hB
  obtain ⟨W7, hW⟩ : ∃ W, (w6.alloc (.cells #[.bool nr3, .string sr3, .bool mr3, .string tr3] 25)) = W := ⟨_, rfl⟩
  rw [hW] at HB12 HL12 ⊢
  clear hW fx4_8_11 fx4_9_11 fx4_10_11 fx4_11_11
  haveI := cls_some W7
  have fq7_0 : ∀ u : Cl W7, u.x.cell? ⟨Bw6, 0, none⟩ = some (.bool nr3) := fun u => ((HB12.out.bel u.h).1).at 0 (.bool nr3) rfl
  have fq7_1 : ∀ u : Cl W7, u.x.cell? ⟨Bw6, 1, none⟩ = some (.string sr3) := fun u => ((HB12.out.bel u.h).1).at 1 (.string sr3) rfl
  have fq7_2 : ∀ u : Cl W7, u.x.cell? ⟨Bw6, 2, none⟩ = some (.bool mr3) := fun u => ((HB12.out.bel u.h).1).at 2 (.bool mr3) rfl
  have fq7_3 : ∀ u : Cl W7, u.x.cell? ⟨Bw6, 3, none⟩ = some (.string tr3) := fun u => ((HB12.out.bel u.h).1).at 3 (.string tr3) rfl
  refine wp_region_cls (by kernel_rfl) ?_
  iterate 1 (go_big_quiet_step (fail))
  go_big_quiet_step ((go_at_call 14; exact quiet_cls H13.out _))
  iterate 4 (go_big_quiet_step (fail))
  go_big_quiet_step ((go_at_call 24; exact quiet_cls H6.out _))
  go_big_quiet_step ((go_at_call 23; exact quiet_cls H14.out _))
  iterate 7 (go_big_quiet_step (fail))
  go_big_quiet_step ((go_at_call 25; exact quiet_cls H15.out _))
  go_big_quiet_step ((go_at_call 24; exact quiet_cls H9.out _))
  iterate 2 (go_big_quiet_step (fail))
  refine wpQuiet_nil ?_
  intro w8 hw9
  have hb : Below W7.heap.size W7 w8 := by obtain ⟨u, rfl⟩ := hw9; exact u.h
  clear hw9 this fq7_0 fq7_1 fq7_2 fq7_3
  have HL13 := Lib.hid (bstep HL12.out hb)
  have HB13 := Lib.hid (HB12.out.bel hb)
  clear hb
  clear HL12 HB12
  go_wp2_with fail
  rw [rounds_succ]
  have fx4_12_13 := (HB13.out.2.2.2.1).at 12 (.bool nr4) rfl
  have fx4_13_13 := (HB13.out.2.2.2.1).at 13 (.string sr4) rfl
  have fx4_14_13 := (HB13.out.2.2.2.1).at 14 (.bool mr4) rfl
  have fx4_15_13 := (HB13.out.2.2.2.1).at 15 (.string tr4) rfl
  have HO8 := Lib.hid (show Bw6 < w8.heap.size from by have := (HB13.out.1).lt; first | omega | (simp at this; omega))
  have HL14 := Lib.hid (HL13.out.alloc HL13.out.size (.cells #[.bool nr4, .string sr4, .bool mr4, .string tr4] 25))
  have HB14 := Lib.hid (HB13.out.push (w8.heap.size) #[.bool nr4, .string sr4, .bool mr4, .string tr4] 25 (by first | rfl | simp))
  clear HL13 HB13
  go_wp2_with fail
  obtain ⟨Bw8, hB⟩ : ∃ B, w8.heap.size = B := ⟨_, rfl⟩
  rw [hB] at HB14 ⊢
  try rw [hB] at HO0
  try rw [hB] at HO1
  try rw [hB] at HO2
  try rw [hB] at HO3
  try rw [hB] at HO4
  try rw [hB] at HO5
  try rw [hB] at HO6
  try rw [hB] at HO7
  try rw [hB] at HO8
  clear hB
  obtain ⟨W9, hW⟩ : ∃ W, (w8.alloc (.cells #[.bool nr4, .string sr4, .bool mr4, .string tr4] 25)) = W := ⟨_, rfl⟩
  rw [hW] at HB14 HL14 ⊢
  clear hW fx4_12_13 fx4_13_13 fx4_14_13 fx4_15_13
  haveI := cls_some W9
  have fq8_0 : ∀ u : Cl W9, u.x.cell? ⟨Bw8, 0, none⟩ = some (.bool nr4) := fun u => ((HB14.out.bel u.h).1).at 0 (.bool nr4) rfl
  have fq8_1 : ∀ u : Cl W9, u.x.cell? ⟨Bw8, 1, none⟩ = some (.string sr4) := fun u => ((HB14.out.bel u.h).1).at 1 (.string sr4) rfl
  have fq8_2 : ∀ u : Cl W9, u.x.cell? ⟨Bw8, 2, none⟩ = some (.bool mr4) := fun u => ((HB14.out.bel u.h).1).at 2 (.bool mr4) rfl
  have fq8_3 : ∀ u : Cl W9, u.x.cell? ⟨Bw8, 3, none⟩ = some (.string tr4) := fun u => ((HB14.out.bel u.h).1).at 3 (.string tr4) rfl
  refine wp_region_cls (by kernel_rfl) ?_
  iterate 1 (go_big_quiet_step (fail))
  go_big_quiet_step ((go_at_call 14; exact quiet_cls H16.out _))
  iterate 4 (go_big_quiet_step (fail))
  go_big_quiet_step ((go_at_call 24; exact quiet_cls H6.out _))
  go_big_quiet_step ((go_at_call 23; exact quiet_cls H17.out _))
  iterate 7 (go_big_quiet_step (fail))
  go_big_quiet_step ((go_at_call 25; exact quiet_cls H18.out _))
  go_big_quiet_step ((go_at_call 24; exact quiet_cls H9.out _))
  iterate 2 (go_big_quiet_step (fail))
  refine wpQuiet_nil ?_
  intro w10 hw9
  have hb : Below W9.heap.size W9 w10 := by obtain ⟨u, rfl⟩ := hw9; exact u.h
  clear hw9 this fq8_0 fq8_1 fq8_2 fq8_3
  have HL15 := Lib.hid (bstep HL14.out hb)
  have HB15 := Lib.hid (HB14.out.bel hb)
  clear hb
  clear HL14 HB14
  go_wp2_with fail
  rw [rounds_succ]
  go_wp2_with fail
  haveI := cls_some w10
  have fq2_0 : ∀ u : Cl w10, u.x.cell? ⟨w.heap.size + 1 + 1, 0, none⟩ = some (.bool nk) := fun u => ((HB15.out.bel u.h).2.2.2.2.2.2.1).at 0 (.bool nk) rfl
  have fq2_1 : ∀ u : Cl w10, u.x.cell? ⟨w.heap.size + 1 + 1, 1, none⟩ = some (.string sk) := fun u => ((HB15.out.bel u.h).2.2.2.2.2.2.1).at 1 (.string sk) rfl
  have fq0_2 : ∀ u : Cl w10, u.x.cell? ⟨w.heap.size, 2, none⟩ = some (.bool ma) := fun u => ((HB15.out.bel u.h).2.2.2.2.2.2.2.2.1).at 2 (.bool ma) rfl
  have fq0_3 : ∀ u : Cl w10, u.x.cell? ⟨w.heap.size, 3, none⟩ = some (.string ta) := fun u => ((HB15.out.bel u.h).2.2.2.2.2.2.2.2.1).at 3 (.string ta) rfl
  refine wp_region_cls (by kernel_rfl) ?_
  iterate 1 (go_big_quiet_step (fail))
  go_big_quiet_step ((go_at_call 24; exact quiet_cls H6.out _))
  go_big_quiet_step ((go_at_call 23; exact quiet_cls H19.out _))
  iterate 4 (go_big_quiet_step (fail))
  go_big_quiet_step ((go_at_call 24; exact quiet_cls H6.out _))
  go_big_quiet_step ((go_at_call 23; exact quiet_cls H20.out _))
  iterate 2 (go_big_quiet_step (fail))
  refine wpQuiet_nil ?_
  intro w11 hw9
  have hb : Below w10.heap.size w10 w11 := by obtain ⟨u, rfl⟩ := hw9; exact u.h
  clear hw9 this fq2_0 fq2_1 fq0_2 fq0_3
  have HL16 := Lib.hid (bstep HL15.out hb)
  have HB16 := Lib.hid (HB15.out.bel hb)
  clear hb
  clear HL15 HB15
  go_wp2_with fail
  refine wp_region_front 11 zvQ (by kernel_rfl) shQ (by kernel_rfl) (by kernel_rfl) (zvQ_alloc _ (by kernel_rfl)) (shQ_store _ (by kernel_rfl)) ?_
  intro mm BW hm1 hm2 hBW
  haveI := clm_some mm BW
  have fq0_0 : ∀ u : Clm mm BW, u.x.cell? ⟨w.heap.size, 0, none⟩ = some (.bool na) := fun u => ((HB16.out.bel (u.old hm1 hBW)).2.2.2.2.2.2.2.2.1).at 0 (.bool na) rfl
  have fq0_1 : ∀ u : Clm mm BW, u.x.cell? ⟨w.heap.size, 1, none⟩ = some (.string sa) := fun u => ((HB16.out.bel (u.old hm1 hBW)).2.2.2.2.2.2.2.2.1).at 1 (.string sa) rfl
  have fq2_0 : ∀ u : Clm mm BW, u.x.cell? ⟨w.heap.size + 1 + 1, 0, none⟩ = some (.bool nk) := fun u => ((HB16.out.bel (u.old hm1 hBW)).2.2.2.2.2.2.1).at 0 (.bool nk) rfl
  have fq2_1 : ∀ u : Clm mm BW, u.x.cell? ⟨w.heap.size + 1 + 1, 1, none⟩ = some (.string sk) := fun u => ((HB16.out.bel (u.old hm1 hBW)).2.2.2.2.2.2.1).at 1 (.string sk) rfl
  have fq0_2 : ∀ u : Clm mm BW, u.x.cell? ⟨w.heap.size, 2, none⟩ = some (.bool ma) := fun u => ((HB16.out.bel (u.old hm1 hBW)).2.2.2.2.2.2.2.2.1).at 2 (.bool ma) rfl
  have fq0_3 : ∀ u : Clm mm BW, u.x.cell? ⟨w.heap.size, 3, none⟩ = some (.string ta) := fun u => ((HB16.out.bel (u.old hm1 hBW)).2.2.2.2.2.2.2.2.1).at 3 (.string ta) rfl
  simp only [frontOf, unmade, List.take_succ_cons, List.take_zero, List.map_cons, List.map_nil]
  iterate 3 (go_big_quiet_step (fail))
  go_big_quiet_step ((go_at_call 26; exact quiet_clm hm2 H21.out _))
  iterate 3 (go_big_quiet_step (fail))
  go_big_quiet_step ((go_at_call 26; exact quiet_clm hm2 H22.out _))
  iterate 3 (go_big_quiet_step (fail))
  refine wpQuiet_nil ?_
  refine ⟨List.forall_mem_cons.2 ⟨by kernel_rfl, List.forall_mem_nil _⟩, ?_⟩
  intro γ w12 hb hF
  clear hBW this hm1 hm2 fq0_0 fq0_1 fq2_0 fq2_1 fq0_2 fq0_3
  clear BW mm
  simp only [madesFrom, Facts, patch, List.take_succ_cons, List.take_zero, List.drop_succ_cons, List.drop_zero, Nat.zero_add, Nat.reduceAdd, List.mem_cons, List.not_mem_nil, or_false, forall_eq, forall_eq_or_imp, false_imp_iff, implies_true, and_true] at hF ⊢
  obtain ⟨hp9, hl9, hk9⟩ := hF
  obtain ⟨B9_12, hG⟩ : ∃ B, γ 9 = B := ⟨_, rfl⟩
  rw [hG] at hp9 hl9 hk9 ⊢
  clear hG
  have HL17 := Lib.hid (bstep HL16.out hb)
  have HO9 := Lib.hid (show Bw8 < B9_12 from Nat.lt_of_lt_of_le (HB16.out.1).lt hp9)
  have HB17 := Lib.hid (Bs.cons (show BC _ B9_12 [.bool nx, .string sx, .bool ny, .string sy] from BC.of hk9) (HB16.out.bel hb))
  clear hb hp9 hl9 hk9
  clear HL16 HB16
  try go_frame
  go_wp2_with fail
  haveI := cls_some w12
  have fq9_0 : ∀ u : Cl w12, u.x.cell? ⟨B9_12, 0, none⟩ = some (.bool nx) := fun u => ((HB17.out.bel u.h).1).at 0 (.bool nx) rfl
  have fq9_1 : ∀ u : Cl w12, u.x.cell? ⟨B9_12, 1, none⟩ = some (.string sx) := fun u => ((HB17.out.bel u.h).1).at 1 (.string sx) rfl
  have fq9_2 : ∀ u : Cl w12, u.x.cell? ⟨B9_12, 2, none⟩ = some (.bool ny) := fun u => ((HB17.out.bel u.h).1).at 2 (.bool ny) rfl
  have fq9_3 : ∀ u : Cl w12, u.x.cell? ⟨B9_12, 3, none⟩ = some (.string sy) := fun u => ((HB17.out.bel u.h).1).at 3 (.string sy) rfl
  have fq1_0 : ∀ u : Cl w12, u.x.cell? ⟨w.heap.size + 1, 0, none⟩ = some (.bool nb) := fun u => ((HB17.out.bel u.h).2.2.2.2.2.2.2.2.1).at 0 (.bool nb) rfl
  have fq1_1 : ∀ u : Cl w12, u.x.cell? ⟨w.heap.size + 1, 1, none⟩ = some (.string sb) := fun u => ((HB17.out.bel u.h).2.2.2.2.2.2.2.2.1).at 1 (.string sb) rfl
  have fq1_2 : ∀ u : Cl w12, u.x.cell? ⟨w.heap.size + 1, 2, none⟩ = some (.bool mb) := fun u => ((HB17.out.bel u.h).2.2.2.2.2.2.2.2.1).at 2 (.bool mb) rfl
  have fq1_3 : ∀ u : Cl w12, u.x.cell? ⟨w.heap.size + 1, 3, none⟩ = some (.string tb) := fun u => ((HB17.out.bel u.h).2.2.2.2.2.2.2.2.1).at 3 (.string tb) rfl
  have fq0_0 : ∀ u : Cl w12, u.x.cell? ⟨w.heap.size, 0, none⟩ = some (.bool na) := fun u => ((HB17.out.bel u.h).2.2.2.2.2.2.2.2.2.1).at 0 (.bool na) rfl
  have fq0_1 : ∀ u : Cl w12, u.x.cell? ⟨w.heap.size, 1, none⟩ = some (.string sa) := fun u => ((HB17.out.bel u.h).2.2.2.2.2.2.2.2.2.1).at 1 (.string sa) rfl
  have fq0_2 : ∀ u : Cl w12, u.x.cell? ⟨w.heap.size, 2, none⟩ = some (.bool ma) := fun u => ((HB17.out.bel u.h).2.2.2.2.2.2.2.2.2.1).at 2 (.bool ma) rfl
  have fq0_3 : ∀ u : Cl w12, u.x.cell? ⟨w.heap.size, 3, none⟩ = some (.string ta) := fun u => ((HB17.out.bel u.h).2.2.2.2.2.2.2.2.2.1).at 3 (.string ta) rfl
  refine wp_region_cls (by kernel_rfl) ?_
  iterate 2 (go_big_quiet_step (fail))
  go_big_quiet_step ((go_at_call 16; exact quiet_cls H23.out _))
  iterate 2 (go_big_quiet_step (fail))
  go_big_quiet_step ((go_at_call 16; exact quiet_cls H1.out _))
  iterate 4 (go_big_quiet_step (fail))
  go_big_quiet_step ((go_at_call 15; exact quiet_cls H24.out _))
  iterate 4 (go_big_quiet_step (fail))
  go_big_quiet_step ((go_at_call 13; exact quiet_cls H25.out _))
  iterate 1 (go_big_quiet_step (fail))
  go_big_quiet_step ((go_at_call 13; exact quiet_cls H26.out _))
  iterate 3 (go_big_quiet_step (fail))
  go_big_quiet_step ((go_at_call 11; exact quiet_cls H27.out _))
  iterate 2 (go_big_quiet_step (fail))
  refine wpQuiet_nil ?_
  intro w13 hw9
  have hb : Below w12.heap.size w12 w13 := by obtain ⟨u, rfl⟩ := hw9; exact u.h
  clear hw9 this fq9_0 fq9_1 fq9_2 fq9_3 fq1_0 fq1_1 fq1_2 fq1_3 fq0_0 fq0_1 fq0_2 fq0_3
  have HL18 := Lib.hid (bstep HL17.out hb)
  have HB18 := Lib.hid (HB17.out.bel hb)
  clear hb
  clear HL17 HB17
  go_wp2
  go_ret
  exact ⟨rfl, HL18.out⟩
end Go.Proofs.Gv
