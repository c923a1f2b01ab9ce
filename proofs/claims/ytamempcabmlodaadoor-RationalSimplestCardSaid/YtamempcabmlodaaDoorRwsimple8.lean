/- Layer 02: functions of rational, walked over the results of what they call (printed by gen02u.py). -/
import Derived.Test.YtamempcabmlodaaDoorRatTabP
import Derived.Test.YtamempcabmlodaaDoorRwsimple1P
import Derived.LoopN
import Derived.Deep.LoopGhost
set_option linter.unusedSimpArgs false
set_option linter.unusedVariables false
namespace Go.Proofs.Gv
open Go Go.RowKit

set_option maxRecDepth 100000 in
set_option maxHeartbeats 4000000 in
theorem simple_s1_zt {nz mz ny my nn mn : Bool} {sz tz sy ty sn tn : ByteArray} (na ma : Bool) (sa ta : ByteArray) (nb mb : Bool) (sb tb : ByteArray) (hgz : ∀ x ∈ ([(na, sa, ma, ta), (nb, sb, mb, tb)] : List (Bool × ByteArray × Bool × ByteArray)), x.2.1.size ≤ maxLen ∧ x.2.2.2.size ≤ maxLen) (hgr : grQ 4 [(na, sa, ma, ta), (nb, sb, mb, tb)] = false) (h0 : Int) (hh : -32768 ≤ h0 ∧ h0 ≤ 32767) (c1 c2 : Int) (hc1 : decide ((0 : Int) < c1) = false) (hc2 : decide ((0 : Int) < c2) = false) (nr : Bool) (sr tr0 : ByteArray) (c3 c4 : Int) (hc3 : c3 ≤ 0) (hc4 : c4 ≤ 0) (w : World)
    (H1 : ∀ W, Calls Tryd.prog 15 #[.agg #[.bool na, .string sa, .bool ma, .string ta], .agg #[.bool nb, .string sb, .bool mb, .string tb]] W fun e w' => e = .returned (.int .i64 1) ∧ Below W.heap.size W w')
    (H2 : ∀ W, Calls Tryd.prog 28 #[.agg #[.bool nb, .string sb, .bool mb, .string tb], .agg #[.bool na, .string sa, .bool ma, .string ta]] W fun e w' => e = .returned (.tuple #[.agg #[.bool nr, .string sr, .bool false, .string tr0], .int .i64 0]) ∧ Below W.heap.size W w')
    (H3 : ∀ W, Calls Tryd.prog 15 #[.agg #[.bool nb, .string sb, .bool mb, .string tb], .agg #[.bool nr, .string sr, .bool false, .string tr0]] W fun e w' => e = .returned (.int .i64 c1) ∧ Below W.heap.size W w')
    (H4 : ∀ W, Calls Tryd.prog 15 #[.agg #[.bool nr, .string sr, .bool false, .string tr0], .agg #[.bool na, .string sa, .bool ma, .string ta]] W fun e w' => e = .returned (.int .i64 c2) ∧ Below W.heap.size W w')
    (H5 : ∀ W, Calls Tryd.prog 14 #[.agg #[.bool nr, .string sr, .bool false, .string tr0]] W fun e w' => e = .returned (.int .i64 0) ∧ Below W.heap.size W w')
    (H6 : ∀ W, Calls Tryd.prog 24 #[.int .i64 1] W fun e w' => e = .returned (.agg #[.bool false, .string tr0]) ∧ Below W.heap.size W w')
    (H7 : ∀ W, Calls Tryd.prog 23 #[.agg #[.bool false, .string tr0], .agg #[.bool false, .string tr0]] W fun e w' => e = .returned (.int .i64 0) ∧ Below W.heap.size W w')
    (H8 : ∀ W, Calls Tryd.prog 18 #[.int .i64 0, .int .i64 1] W fun e w' => e = .returned (.agg #[.bool nz, .string sz, .bool mz, .string tz]) ∧ Below W.heap.size W w')
    (H9 : ∀ W, Calls Tryd.prog 18 #[.int .i64 1, .int .i64 1] W fun e w' => e = .returned (.agg #[.bool ny, .string sy, .bool my, .string ty]) ∧ Below W.heap.size W w')
    (H10 : ∀ W, Calls Tryd.prog 19 #[.agg #[.bool nr, .string sr, .bool false, .string tr0], .agg #[.bool ny, .string sy, .bool my, .string ty]] W fun e w' => e = .returned (.agg #[.bool nn, .string sn, .bool mn, .string tn]) ∧ Below W.heap.size W w')
    (H11 : ∀ W, Calls Tryd.prog 15 #[.agg #[.bool nr, .string sr, .bool false, .string tr0], .agg #[.bool nz, .string sz, .bool mz, .string tz]] W fun e w' => e = .returned (.int .i64 0) ∧ Below W.heap.size W w')
    (H12 : ∀ W, Calls Tryd.prog 15 #[.agg #[.bool nb, .string sb, .bool mb, .string tb], .agg #[.bool nn, .string sn, .bool mn, .string tn]] W fun e w' => e = .returned (.int .i64 c3) ∧ Below W.heap.size W w')
    (H13 : ∀ W, Calls Tryd.prog 15 #[.agg #[.bool nn, .string sn, .bool mn, .string tn], .agg #[.bool na, .string sa, .bool ma, .string ta]] W fun e w' => e = .returned (.int .i64 c4) ∧ Below W.heap.size W w')
    (H14 : ∀ W, Calls Tryd.prog 11 #[] W fun e w' => e = .returned (.bool true) ∧ Below W.heap.size W w')
    : Calls Tryd.prog 7 #[.agg #[.bool na, .string sa, .bool ma, .string ta], .agg #[.bool nb, .string sb, .bool mb, .string tb], .int .i16 h0] w fun e w' => e = .returned (.bool true) ∧ Below w.heap.size w w' := by
  replace H1 := Lib.hid H1
  replace H2 := Lib.hid H2
  replace H3 := Lib.hid H3
  replace H4 := Lib.hid H4
  replace H5 := Lib.hid H5
  replace H6 := Lib.hid H6
  replace H7 := Lib.hid H7
  replace H8 := Lib.hid H8
  replace H9 := Lib.hid H9
  replace H10 := Lib.hid H10
  replace H11 := Lib.hid H11
  replace H12 := Lib.hid H12
  replace H13 := Lib.hid H13
  replace H14 := Lib.hid H14
  have HGZ := Lib.hid hgz
  clear hgz
  have qo : eqI false tr0 false tr0 = true := eqI_iff.2 ⟨rfl, rfl⟩
  go_enter Tryd.func7, Tryd.ntmps7
  have HL0 := Lib.hid (Below.refl w.heap.size w)
  have HB0 := Lib.hid (show Bs [] w from trivial)
  have HO0 := Lib.hid (show w.heap.size ≤ w.heap.size from by have := HL0.out.size; first | omega | (simp at this; omega))
  have HL1 := Lib.hid (HL0.out.alloc HL0.out.size (.cells #[.bool na, .string sa, .bool ma, .string ta] 25))
  have HB1 := Lib.hid (HB0.out.push (w.heap.size) #[.bool na, .string sa, .bool ma, .string ta] 25 (by first | rfl | simp))
  clear HL0 HB0
  have HO1 := Lib.hid (show w.heap.size < w.heap.size + 1 from by have := (HB1.out.1).lt; first | omega | (simp at this; omega))
  have HL2 := Lib.hid (HL1.out.alloc HL1.out.size (.cells #[.bool nb, .string sb, .bool mb, .string tb] 25))
  have HB2 := Lib.hid (HB1.out.push (w.heap.size + 1) #[.bool nb, .string sb, .bool mb, .string tb] 25 (by first | rfl | simp))
  clear HL1 HB1
  have fx0_0_2 := (HB2.out.2.1).at 0 (.bool na) rfl
  have fx0_1_2 := (HB2.out.2.1).at 1 (.string sa) rfl
  have fx0_2_2 := (HB2.out.2.1).at 2 (.bool ma) rfl
  have fx0_3_2 := (HB2.out.2.1).at 3 (.string ta) rfl
  have fx1_0_2 := (HB2.out.1).at 0 (.bool nb) rfl
  have fx1_1_2 := (HB2.out.1).at 1 (.string sb) rfl
  have fx1_2_2 := (HB2.out.1).at 2 (.bool mb) rfl
  have fx1_3_2 := (HB2.out.1).at 3 (.string tb) rfl
  have HO2 := Lib.hid (show w.heap.size + 1 < w.heap.size + 1 + 1 from by have := (HB2.out.1).lt; first | omega | (simp at this; omega))
  have HL3 := Lib.hid (HL2.out.alloc HL2.out.size (.cells #[.bool na, .string sa, .bool ma, .string ta, .bool nb, .string sb, .bool mb, .string tb] 25))
  have HB3 := Lib.hid (HB2.out.push (w.heap.size + 1 + 1) #[.bool na, .string sa, .bool ma, .string ta, .bool nb, .string sb, .bool mb, .string tb] 25 (by first | rfl | simp))
  clear HL2 HB2
  go_wp2_with fail
  refine (longQ_box [(na, sa, ma, ta), (nb, sb, mb, tb)] (HB3.out.1) (show 2 ≤ 1000 by decide) HGZ.out).mono ?_
  rintro e w1 ⟨rfl, hb⟩
  have HL4 := Lib.hid (bstep HL3.out hb)
  have HB4 := Lib.hid (HB3.out.bel hb)
  clear hb
  clear HL3 HB3 fx0_0_2 fx0_1_2 fx0_2_2 fx0_3_2 fx1_0_2 fx1_1_2 fx1_2_2 fx1_3_2
  have fx0_0_4 := (HB4.out.2.2.1).at 0 (.bool na) rfl
  have fx0_1_4 := (HB4.out.2.2.1).at 1 (.string sa) rfl
  have fx0_2_4 := (HB4.out.2.2.1).at 2 (.bool ma) rfl
  have fx0_3_4 := (HB4.out.2.2.1).at 3 (.string ta) rfl
  have fx1_0_4 := (HB4.out.2.1).at 0 (.bool nb) rfl
  have fx1_1_4 := (HB4.out.2.1).at 1 (.string sb) rfl
  have fx1_2_4 := (HB4.out.2.1).at 2 (.bool mb) rfl
  have fx1_3_4 := (HB4.out.2.1).at 3 (.string tb) rfl
  go_wp2_with fail
  refine (H1.out _).mono ?_
  rintro e w2 ⟨rfl, hb⟩
  have HL5 := Lib.hid (bstep HL4.out hb)
  have HB5 := Lib.hid (HB4.out.bel hb)
  clear hb
  clear HL4 HB4 fx0_0_4 fx0_1_4 fx0_2_4 fx0_3_4 fx1_0_4 fx1_1_4 fx1_2_4 fx1_3_4
  have fx1_0_5 := (HB5.out.2.1).at 0 (.bool nb) rfl
  have fx1_1_5 := (HB5.out.2.1).at 1 (.string sb) rfl
  have fx1_2_5 := (HB5.out.2.1).at 2 (.bool mb) rfl
  have fx1_3_5 := (HB5.out.2.1).at 3 (.string tb) rfl
  have fx0_0_5 := (HB5.out.2.2.1).at 0 (.bool na) rfl
  have fx0_1_5 := (HB5.out.2.2.1).at 1 (.string sa) rfl
  have fx0_2_5 := (HB5.out.2.2.1).at 2 (.bool ma) rfl
  have fx0_3_5 := (HB5.out.2.2.1).at 3 (.string ta) rfl
  have fz0_0_5 := (HB5.out.2.2.1).z 0 (show 0 < 4 by decide)
  have fz0_1_5 := (HB5.out.2.2.1).z 1 (show 1 < 4 by decide)
  have fz0_2_5 := (HB5.out.2.2.1).z 2 (show 2 < 4 by decide)
  have fz0_3_5 := (HB5.out.2.2.1).z 3 (show 3 < 4 by decide)
  have HL6 := Below.setCs (c := w.heap.size) (by have := HO0.out; have := HO1.out; have := HO2.out; omega) [.bool nb, .string sb, .bool mb, .string tb] _ 0 HL5.out
  have HB6 := Bs.store (c := w.heap.size) [.bool nb, .string sb, .bool mb, .string tb] 0 2 HB5.out (by simp only [Bs.ap, Bs.ap0, List.length_cons, List.length_nil, and_true, true_and]; have := HO0.out; have := HO1.out; have := HO2.out; omega)
  simp only [setCs, setL, Bs.put, List.set_cons_succ, List.set_cons_zero, Nat.zero_add, Nat.reduceAdd] at HL6 HB6
  replace HL6 := Lib.hid HL6
  replace HB6 := Lib.hid HB6
  clear HL5 HB5
  have fx1_0_6 := (HB6.out.2.1).at 0 (.bool nb) rfl
  have fz1_0_6 := (HB6.out.2.1).z 0 (show 0 < 4 by decide)
  have fx1_1_6 := (HB6.out.2.1).at 1 (.string sb) rfl
  have fz1_1_6 := (HB6.out.2.1).z 1 (show 1 < 4 by decide)
  have fx1_2_6 := (HB6.out.2.1).at 2 (.bool mb) rfl
  have fz1_2_6 := (HB6.out.2.1).z 2 (show 2 < 4 by decide)
  have fx1_3_6 := (HB6.out.2.1).at 3 (.string tb) rfl
  have fz1_3_6 := (HB6.out.2.1).z 3 (show 3 < 4 by decide)
  have HL7 := Below.setCs (c := w.heap.size + 1) (by have := HO0.out; have := HO1.out; have := HO2.out; omega) [.bool na, .string sa, .bool ma, .string ta] _ 0 HL6.out
  have HB7 := Bs.store (c := w.heap.size + 1) [.bool na, .string sa, .bool ma, .string ta] 0 1 HB6.out (by simp only [Bs.ap, Bs.ap0, List.length_cons, List.length_nil, and_true, true_and]; have := HO0.out; have := HO1.out; have := HO2.out; omega)
  simp only [setCs, setL, Bs.put, List.set_cons_succ, List.set_cons_zero, Nat.zero_add, Nat.reduceAdd] at HL7 HB7
  replace HL7 := Lib.hid HL7
  replace HB7 := Lib.hid HB7
  clear HL6 HB6
  have fx0_0_7 := (HB7.out.2.2.1).at 0 (.bool nb) rfl
  have fx0_1_7 := (HB7.out.2.2.1).at 1 (.string sb) rfl
  have fx0_2_7 := (HB7.out.2.2.1).at 2 (.bool mb) rfl
  have fx0_3_7 := (HB7.out.2.2.1).at 3 (.string tb) rfl
  have fx1_0_7 := (HB7.out.2.1).at 0 (.bool na) rfl
  have fx1_1_7 := (HB7.out.2.1).at 1 (.string sa) rfl
  have fx1_2_7 := (HB7.out.2.1).at 2 (.bool ma) rfl
  have fx1_3_7 := (HB7.out.2.1).at 3 (.string ta) rfl
  go_wp2_with fail
  refine (H2.out _).mono ?_
  rintro e w3 ⟨rfl, hb⟩
  have HL8 := Lib.hid (bstep HL7.out hb)
  have HB8 := Lib.hid (HB7.out.bel hb)
  clear hb
  clear HL7 HB7 fx1_0_5 fx1_1_5 fx1_2_5 fx1_3_5 fx0_0_5 fx0_1_5 fx0_2_5 fx0_3_5 fz0_0_5 fz0_1_5 fz0_2_5 fz0_3_5 fx1_0_6 fz1_0_6 fx1_1_6 fz1_1_6 fx1_2_6 fz1_2_6 fx1_3_6 fz1_3_6 fx0_0_7 fx0_1_7 fx0_2_7 fx0_3_7 fx1_0_7 fx1_1_7 fx1_2_7 fx1_3_7
  have HO3 := Lib.hid (show w.heap.size + 1 + 1 < w3.heap.size from by have := (HB8.out.1).lt; first | omega | (simp at this; omega))
  have HL9 := Lib.hid (HL8.out.alloc HL8.out.size (.cells #[.bool nr, .string sr, .bool false, .string tr0] 25))
  have HB9 := Lib.hid (HB8.out.push (w3.heap.size) #[.bool nr, .string sr, .bool false, .string tr0] 25 (by first | rfl | simp))
  clear HL8 HB8
  have fx0_0_9 := (HB9.out.2.2.2.1).at 0 (.bool nb) rfl
  have fx0_1_9 := (HB9.out.2.2.2.1).at 1 (.string sb) rfl
  have fx0_2_9 := (HB9.out.2.2.2.1).at 2 (.bool mb) rfl
  have fx0_3_9 := (HB9.out.2.2.2.1).at 3 (.string tb) rfl
  have fx3_0_9 := (HB9.out.1).at 0 (.bool nr) rfl
  have fx3_1_9 := (HB9.out.1).at 1 (.string sr) rfl
  have fx3_2_9 := (HB9.out.1).at 2 (.bool false) rfl
  have fx3_3_9 := (HB9.out.1).at 3 (.string tr0) rfl
  go_wp2_with fail
  refine (H3.out _).mono ?_
  rintro e w4 ⟨rfl, hb⟩
  have HL10 := Lib.hid (bstep HL9.out hb)
  have HB10 := Lib.hid (HB9.out.bel hb)
  clear hb
  clear HL9 HB9 fx0_0_9 fx0_1_9 fx0_2_9 fx0_3_9 fx3_0_9 fx3_1_9 fx3_2_9 fx3_3_9
  have fx3_0_10 := (HB10.out.1).at 0 (.bool nr) rfl
  have fx3_1_10 := (HB10.out.1).at 1 (.string sr) rfl
  have fx3_2_10 := (HB10.out.1).at 2 (.bool false) rfl
  have fx3_3_10 := (HB10.out.1).at 3 (.string tr0) rfl
  have fx1_0_10 := (HB10.out.2.2.1).at 0 (.bool na) rfl
  have fx1_1_10 := (HB10.out.2.2.1).at 1 (.string sa) rfl
  have fx1_2_10 := (HB10.out.2.2.1).at 2 (.bool ma) rfl
  have fx1_3_10 := (HB10.out.2.2.1).at 3 (.string ta) rfl
  go_wp2_with fail
  refine (H4.out _).mono ?_
  rintro e w5 ⟨rfl, hb⟩
  have HL11 := Lib.hid (bstep HL10.out hb)
  have HB11 := Lib.hid (HB10.out.bel hb)
  clear hb
  clear HL10 HB10 fx3_0_10 fx3_1_10 fx3_2_10 fx3_3_10 fx1_0_10 fx1_1_10 fx1_2_10 fx1_3_10
  have fx3_0_11 := (HB11.out.1).at 0 (.bool nr) rfl
  have fx3_1_11 := (HB11.out.1).at 1 (.string sr) rfl
  have fx3_2_11 := (HB11.out.1).at 2 (.bool false) rfl
  have fx3_3_11 := (HB11.out.1).at 3 (.string tr0) rfl
  go_wp2_with fail
  refine (H5.out _).mono ?_
  rintro e w6 ⟨rfl, hb⟩
  have HL12 := Lib.hid (bstep HL11.out hb)
  have HB12 := Lib.hid (HB11.out.bel hb)
  clear hb
  clear HL11 HB11 fx3_0_11 fx3_1_11 fx3_2_11 fx3_3_11
  go_wp2_with fail
  refine wp_loop_rounds 1 ?_
  rw [rounds_succ]
  go_wp2_with fail
  obtain ⟨Bw3, hB⟩ : ∃ B, w3.heap.size = B := ⟨_, rfl⟩
  rw [hB] at HB12 ⊢
  try rw [hB] at HO0
  try rw [hB] at HO1
  try rw [hB] at HO2
  try rw [hB] at HO3
  clear hB
  haveI := cls_some w6
  have fq3_2 : ∀ u : Cl w6, u.x.cell? ⟨Bw3, 2, none⟩ = some (.bool false) := fun u => ((HB12.out.bel u.h).1).at 2 (.bool false) rfl
  have fq3_3 : ∀ u : Cl w6, u.x.cell? ⟨Bw3, 3, none⟩ = some (.string tr0) := fun u => ((HB12.out.bel u.h).1).at 3 (.string tr0) rfl
  refine wp_region_cls (by kernel_rfl) ?_
  iterate 4 (go_big_quiet_step (fail))
  go_big_quiet_step ((go_at_call 24; exact quiet_cls H6.out _))
  iterate 2 (go_big_quiet_step (fail))
  go_big_quiet_step ((go_at_call 23; exact quiet_cls H7.out _))
  iterate 2 (go_big_quiet_step (fail))
  refine wpQuiet_nil ?_
  intro w7 hw9
  have hb : Below w6.heap.size w6 w7 := by obtain ⟨u, rfl⟩ := hw9; exact u.h
  clear hw9 this fq3_2 fq3_3
  have HL13 := Lib.hid (bstep HL12.out hb)
  have HB13 := Lib.hid (HB12.out.bel hb)
  clear hb
  clear HL12 HB12
  go_wp2_with fail
  haveI := cls_some w7
  have fq3_2 : ∀ u : Cl w7, u.x.cell? ⟨Bw3, 2, none⟩ = some (.bool false) := fun u => ((HB13.out.bel u.h).1).at 2 (.bool false) rfl
  have fq3_3 : ∀ u : Cl w7, u.x.cell? ⟨Bw3, 3, none⟩ = some (.string tr0) := fun u => ((HB13.out.bel u.h).1).at 3 (.string tr0) rfl
  refine wp_region_cls (by kernel_rfl) ?_
  iterate 2 (go_big_quiet_step (fail))
  go_big_quiet_step ((go_at_call 24; exact quiet_cls H6.out _))
  iterate 1 (go_big_quiet_step (fail))
  refine wpQuiet_nil ?_
  intro w8 hw9
  have hb : Below w7.heap.size w7 w8 := by obtain ⟨u, rfl⟩ := hw9; exact u.h
  clear hw9 this fq3_2 fq3_3
  have HL14 := Lib.hid (bstep HL13.out hb)
  have HB14 := Lib.hid (HB13.out.bel hb)
  clear hb
  clear HL13 HB13
  go_wp2_with fail
  refine (H8.out _).mono ?_
  rintro e w9 ⟨rfl, hb⟩
  have HL15 := Lib.hid (bstep HL14.out hb)
  have HB15 := Lib.hid (HB14.out.bel hb)
  clear hb
  clear HL14 HB14
  have HO4 := Lib.hid (show Bw3 < w9.heap.size from by have := (HB15.out.1).lt; first | omega | (simp at this; omega))
  have HL16 := Lib.hid (HL15.out.alloc HL15.out.size (.cells #[.bool nz, .string sz, .bool mz, .string tz] 25))
  have HB16 := Lib.hid (HB15.out.push (w9.heap.size) #[.bool nz, .string sz, .bool mz, .string tz] 25 (by first | rfl | simp))
  clear HL15 HB15
  go_wp2_with fail
  obtain ⟨Bw9, hB⟩ : ∃ B, w9.heap.size = B := ⟨_, rfl⟩
  rw [hB] at HB16 ⊢
  try rw [hB] at HO0
  try rw [hB] at HO1
  try rw [hB] at HO2
  try rw [hB] at HO3
  try rw [hB] at HO4
  clear hB
  obtain ⟨W10, hW⟩ : ∃ W, (w9.alloc (.cells #[.bool nz, .string sz, .bool mz, .string tz] 25)) = W := ⟨_, rfl⟩
  rw [hW] at HB16 HL16 ⊢
  clear hW
  refine wp_region_front 5 zvQ (by kernel_rfl) shQ (by kernel_rfl) (by kernel_rfl) (zvQ_alloc _ (by kernel_rfl)) (shQ_store _ (by kernel_rfl)) ?_
  intro mm BW hm1 hm2 hBW
  haveI := clm_some mm BW
  have fq3_0 : ∀ u : Clm mm BW, u.x.cell? ⟨Bw3, 0, none⟩ = some (.bool nr) := fun u => ((HB16.out.bel (u.old hm1 hBW)).2.1).at 0 (.bool nr) rfl
  have fq3_1 : ∀ u : Clm mm BW, u.x.cell? ⟨Bw3, 1, none⟩ = some (.string sr) := fun u => ((HB16.out.bel (u.old hm1 hBW)).2.1).at 1 (.string sr) rfl
  have fq3_2 : ∀ u : Clm mm BW, u.x.cell? ⟨Bw3, 2, none⟩ = some (.bool false) := fun u => ((HB16.out.bel (u.old hm1 hBW)).2.1).at 2 (.bool false) rfl
  have fq3_3 : ∀ u : Clm mm BW, u.x.cell? ⟨Bw3, 3, none⟩ = some (.string tr0) := fun u => ((HB16.out.bel (u.old hm1 hBW)).2.1).at 3 (.string tr0) rfl
  simp only [frontOf, unmade, List.take_succ_cons, List.take_zero, List.map_cons, List.map_nil]
  iterate 1 (go_big_quiet_step (fail))
  go_big_quiet_step ((go_at_call 18; exact quiet_clm hm2 H9.out _))
  go_big_quiet_step ((go_at_call 19; exact quiet_clm hm2 H10.out _))
  iterate 2 (go_big_quiet_step (fail))
  refine wpQuiet_nil ?_
  refine ⟨List.forall_mem_cons.2 ⟨by kernel_rfl, List.forall_mem_nil _⟩, ?_⟩
  intro γ w11 hb hF
  clear hBW this hm1 hm2 fq3_0 fq3_1 fq3_2 fq3_3
  clear BW mm
  simp only [madesFrom, Facts, patch, List.take_succ_cons, List.take_zero, List.drop_succ_cons, List.drop_zero, Nat.zero_add, Nat.reduceAdd, List.mem_cons, List.not_mem_nil, or_false, forall_eq, forall_eq_or_imp, false_imp_iff, implies_true, and_true] at hF ⊢
  obtain ⟨hp13, hl13, hk13⟩ := hF
  obtain ⟨B13_11, hG⟩ : ∃ B, γ 3 = B := ⟨_, rfl⟩
  rw [hG] at hp13 hl13 hk13 ⊢
  clear hG
  have HL17 := Lib.hid (bstep HL16.out hb)
  have HO5 := Lib.hid (show Bw9 < B13_11 from Nat.lt_of_lt_of_le (HB16.out.1).lt hp13)
  have HB17 := Lib.hid (Bs.cons (show BC _ B13_11 [.bool nn, .string sn, .bool mn, .string tn] from BC.of hk13) (HB16.out.bel hb))
  clear hb hp13 hl13 hk13
  clear HL16 HB16
  try go_frame
  have fx3_0_17 := (HB17.out.2.2.1).at 0 (.bool nr) rfl
  have fx3_1_17 := (HB17.out.2.2.1).at 1 (.string sr) rfl
  have fx3_2_17 := (HB17.out.2.2.1).at 2 (.bool false) rfl
  have fx3_3_17 := (HB17.out.2.2.1).at 3 (.string tr0) rfl
  have fx4_0_17 := (HB17.out.2.1).at 0 (.bool nz) rfl
  have fx4_1_17 := (HB17.out.2.1).at 1 (.string sz) rfl
  have fx4_2_17 := (HB17.out.2.1).at 2 (.bool mz) rfl
  have fx4_3_17 := (HB17.out.2.1).at 3 (.string tz) rfl
  go_wp2_with fail
  refine (H11.out _).mono ?_
  rintro e w12 ⟨rfl, hb⟩
  have HL18 := Lib.hid (bstep HL17.out hb)
  have HB18 := Lib.hid (HB17.out.bel hb)
  clear hb
  clear HL17 HB17 fx3_0_17 fx3_1_17 fx3_2_17 fx3_3_17 fx4_0_17 fx4_1_17 fx4_2_17 fx4_3_17
  have fx0_0_18 := (HB18.out.2.2.2.2.2.1).at 0 (.bool nb) rfl
  have fx0_1_18 := (HB18.out.2.2.2.2.2.1).at 1 (.string sb) rfl
  have fx0_2_18 := (HB18.out.2.2.2.2.2.1).at 2 (.bool mb) rfl
  have fx0_3_18 := (HB18.out.2.2.2.2.2.1).at 3 (.string tb) rfl
  have fx5_0_18 := (HB18.out.1).at 0 (.bool nn) rfl
  have fx5_1_18 := (HB18.out.1).at 1 (.string sn) rfl
  have fx5_2_18 := (HB18.out.1).at 2 (.bool mn) rfl
  have fx5_3_18 := (HB18.out.1).at 3 (.string tn) rfl
  go_wp2_with fail
  refine (H12.out _).mono ?_
  rintro e w13 ⟨rfl, hb⟩
  have HL19 := Lib.hid (bstep HL18.out hb)
  have HB19 := Lib.hid (HB18.out.bel hb)
  clear hb
  clear HL18 HB18 fx0_0_18 fx0_1_18 fx0_2_18 fx0_3_18 fx5_0_18 fx5_1_18 fx5_2_18 fx5_3_18
  have fx5_0_19 := (HB19.out.1).at 0 (.bool nn) rfl
  have fx5_1_19 := (HB19.out.1).at 1 (.string sn) rfl
  have fx5_2_19 := (HB19.out.1).at 2 (.bool mn) rfl
  have fx5_3_19 := (HB19.out.1).at 3 (.string tn) rfl
  have fx1_0_19 := (HB19.out.2.2.2.2.1).at 0 (.bool na) rfl
  have fx1_1_19 := (HB19.out.2.2.2.2.1).at 1 (.string sa) rfl
  have fx1_2_19 := (HB19.out.2.2.2.2.1).at 2 (.bool ma) rfl
  have fx1_3_19 := (HB19.out.2.2.2.2.1).at 3 (.string ta) rfl
  go_wp2_with fail
  refine (H13.out _).mono ?_
  rintro e w14 ⟨rfl, hb⟩
  have HL20 := Lib.hid (bstep HL19.out hb)
  have HB20 := Lib.hid (HB19.out.bel hb)
  clear hb
  clear HL19 HB19 fx5_0_19 fx5_1_19 fx5_2_19 fx5_3_19 fx1_0_19 fx1_1_19 fx1_2_19 fx1_3_19
  have fx3_0_20 := (HB20.out.2.2.1).at 0 (.bool nr) rfl
  have fx3_1_20 := (HB20.out.2.2.1).at 1 (.string sr) rfl
  have fx3_2_20 := (HB20.out.2.2.1).at 2 (.bool false) rfl
  have fx3_3_20 := (HB20.out.2.2.1).at 3 (.string tr0) rfl
  have fx4_0_20 := (HB20.out.2.1).at 0 (.bool nz) rfl
  have fx4_1_20 := (HB20.out.2.1).at 1 (.string sz) rfl
  have fx4_2_20 := (HB20.out.2.1).at 2 (.bool mz) rfl
  have fx4_3_20 := (HB20.out.2.1).at 3 (.string tz) rfl
  go_wp2_with fail
  refine (H11.out _).mono ?_
  rintro e w15 ⟨rfl, hb⟩
  have HL21 := Lib.hid (bstep HL20.out hb)
  have HB21 := Lib.hid (HB20.out.bel hb)
  clear hb
  clear HL20 HB20 fx3_0_20 fx3_1_20 fx3_2_20 fx3_3_20 fx4_0_20 fx4_1_20 fx4_2_20 fx4_3_20
  go_wp2_with fail
  refine (H14.out _).mono ?_
  rintro e w16 ⟨rfl, hb⟩
  have HL22 := Lib.hid (bstep HL21.out hb)
  have HB22 := Lib.hid (HB21.out.bel hb)
  clear hb
  clear HL21 HB21
  go_wp2
  go_ret
  exact ⟨rfl, HL22.out⟩
end Go.Proofs.Gv
