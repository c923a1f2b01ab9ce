/- Layer 02: functions of rational, walked over the results of what they call (printed by gen02k.py). -/
import Derived.Test.YtamempcabmlodaaDoorRatTabP
import Derived.Test.YtamempcabmlodaaDoorRatJ3P
import Derived.Test.YtamempcabmlodaaDoorBoxesP
import Derived.Test.YtamempcabmlodaaDoorRatCP
import Derived.LoopN
import Derived.Deep.LoopGhost
set_option linter.unusedSimpArgs false
set_option linter.unusedVariables false
namespace Go.Proofs.Gv
open Go Go.RowKit

set_option maxRecDepth 100000 in
set_option maxHeartbeats 4000000 in
theorem awake_w {np mp nq mq nr mr nu mu nv mv nz mz nh mh nf : Bool} {sp tp sq tq sr tr su tu sv tv sz tz sh th sf : ByteArray} (w : World)
    (H1 : ∀ W, Calls Tryd.prog 18 #[.int .i64 1, .int .i64 3] W fun e w' => e = .returned (.agg #[.bool np, .string sp, .bool mp, .string tp]) ∧ Below W.heap.size W w')
    (H2 : ∀ W, Calls Tryd.prog 18 #[.int .i64 2, .int .i64 5] W fun e w' => e = .returned (.agg #[.bool nq, .string sq, .bool mq, .string tq]) ∧ Below W.heap.size W w')
    (H3 : ∀ W, Calls Tryd.prog 28 #[.agg #[.bool np, .string sp, .bool mp, .string tp], .agg #[.bool nq, .string sq, .bool mq, .string tq]] W fun e w' => e = .returned (.tuple #[.agg #[.bool np, .string sp, .bool mp, .string tp], .int .i64 0]) ∧ Below W.heap.size W w')
    (H4 : ∀ W, Calls Tryd.prog 18 #[.int .i64 3, .int .i64 10] W fun e w' => e = .returned (.agg #[.bool nr, .string sr, .bool mr, .string tr]) ∧ Below W.heap.size W w')
    (H5 : ∀ W, Calls Tryd.prog 28 #[.agg #[.bool nr, .string sr, .bool mr, .string tr], .agg #[.bool nq, .string sq, .bool mq, .string tq]] W fun e w' => e = .returned (.tuple #[.agg #[.bool np, .string sp, .bool mp, .string tp], .int .i64 0]) ∧ Below W.heap.size W w')
    (H6 : ∀ W, Calls Tryd.prog 18 #[.int .i64 (-1), .int .i64 2] W fun e w' => e = .returned (.agg #[.bool nu, .string su, .bool mu, .string tu]) ∧ Below W.heap.size W w')
    (H7 : ∀ W, Calls Tryd.prog 18 #[.int .i64 5, .int .i64 1] W fun e w' => e = .returned (.agg #[.bool nv, .string sv, .bool mv, .string tv]) ∧ Below W.heap.size W w')
    (H8 : ∀ W, Calls Tryd.prog 28 #[.agg #[.bool nu, .string su, .bool mu, .string tu], .agg #[.bool nv, .string sv, .bool mv, .string tv]] W fun e w' => e = .returned (.tuple #[.agg #[.bool nz, .string sz, .bool mz, .string tz], .int .i64 0]) ∧ Below W.heap.size W w')
    (H9 : ∀ W, Calls Tryd.prog 12 #[.string ⟨#[45, 51, 47, 50]⟩] W fun e w' => e = .returned (.tuple #[.agg #[.bool nh, .string sh, .bool mh, .string th], .int .i64 0]) ∧ Below W.heap.size W w')
    (H10 : ∀ W, Calls Tryd.prog 12 #[.string ⟨#[54, 47, 52]⟩] W fun e w' => e = .returned (.tuple #[.agg #[.bool false, .string ⟨#[]⟩, .bool false, .string ⟨#[]⟩], .int .i64 3]) ∧ Below W.heap.size W w')
    (H11 : ∀ W, Calls Tryd.prog 18 #[.int .i64 0, .int .i64 1] W fun e w' => e = .returned (.agg #[.bool nz, .string sz, .bool mz, .string tz]) ∧ Below W.heap.size W w')
    (H12 : ∀ W, Calls Tryd.prog 18 #[.int .i64 6, .int .i64 (-4)] W fun e w' => e = .returned (.agg #[.bool nh, .string sh, .bool mh, .string th]) ∧ Below W.heap.size W w')
    (H13 : ∀ W, Calls Tryd.prog 30 #[.agg #[.bool nh, .string sh, .bool mh, .string th]] W fun e w' => e = .returned (.agg #[.bool nf, .string sf]) ∧ Below W.heap.size W w')
    (H14 : ∀ W, Calls Tryd.prog 24 #[.int .i64 (-2)] W fun e w' => e = .returned (.agg #[.bool nf, .string sf]) ∧ Below W.heap.size W w')
    (H15 : ∀ W, Calls Tryd.prog 13 #[.agg #[.bool nh, .string sh, .bool mh, .string th]] W fun e w' => e = .returned (.string ⟨#[45, 51, 47, 50]⟩) ∧ Below W.heap.size W w')
    (H16 : ∀ W, Calls Tryd.prog 14 #[.agg #[.bool nh, .string sh, .bool mh, .string th]] W fun e w' => e = .returned (.int .i64 0) ∧ Below W.heap.size W w')
    (H17 : ∀ W, Calls Tryd.prog 14 #[.agg #[.bool false, .string ⟨#[]⟩, .bool false, .string ⟨#[]⟩]] W fun e w' => e = .returned (.int .i64 1) ∧ Below W.heap.size W w')
    : Calls Tryd.prog 11 #[] w fun e w' => e = .returned (.bool true) ∧ Below w.heap.size w w' := by
  replace H1 := Lib.hid H1
  replace H2 := Lib.hid H2
  replace H3 := Lib.hid H3
  replace H4 := Lib.hid H4
  replace H5 := Lib.hid H5
  replace H6 := Lib.hid H6
  replace H7 := Lib.hid H7
  replace H8 := Lib.hid H8
  replace H9 := Lib.hid H9
  replace H10 := Lib.hid H10
  replace H11 := Lib.hid H11
  replace H12 := Lib.hid H12
  replace H13 := Lib.hid H13
  replace H14 := Lib.hid H14
  replace H15 := Lib.hid H15
  replace H16 := Lib.hid H16
  replace H17 := Lib.hid H17
  have qp : eqQ np sp mp tp np sp mp tp = true := eqQ_iff.2 ⟨⟨rfl, rfl⟩, ⟨rfl, rfl⟩⟩
  have qz : eqQ nz sz mz tz nz sz mz tz = true := eqQ_iff.2 ⟨⟨rfl, rfl⟩, ⟨rfl, rfl⟩⟩
  have qh : eqQ nh sh mh th nh sh mh th = true := eqQ_iff.2 ⟨⟨rfl, rfl⟩, ⟨rfl, rfl⟩⟩
  have qf : eqI nf sf nf sf = true := eqI_iff.2 ⟨rfl, rfl⟩
  go_enter Tryd.func11, Tryd.ntmps11
  have HL0 := Lib.hid (Below.refl w.heap.size w)
  have HB0 := Lib.hid (show Bs [] w from trivial)
  go_wp2_with fail
  refine (H1.out _).mono ?_
  rintro e w1 ⟨rfl, hb⟩
  have HL1 := Lib.hid (bstep HL0.out hb)
  have HB1 := Lib.hid (HB0.out.bel hb)
  clear hb
  clear HL0 HB0
  go_wp2_with fail
  refine (H2.out _).mono ?_
  rintro e w2 ⟨rfl, hb⟩
  have HL2 := Lib.hid (bstep HL1.out hb)
  have HB2 := Lib.hid (HB1.out.bel hb)
  clear hb
  clear HL1 HB1
  go_wp2_with fail
  refine (H3.out _).mono ?_
  rintro e w3 ⟨rfl, hb⟩
  have HL3 := Lib.hid (bstep HL2.out hb)
  have HB3 := Lib.hid (HB2.out.bel hb)
  clear hb
  clear HL2 HB2
  have HO0 := Lib.hid (show w.heap.size ≤ w3.heap.size from by have := HL3.out.size; first | omega | (simp at this; omega))
  have HL4 := Lib.hid (HL3.out.alloc HL3.out.size (.cells #[.bool np, .string sp, .bool mp, .string tp] 25))
  have HB4 := Lib.hid (HB3.out.push (w3.heap.size) #[.bool np, .string sp, .bool mp, .string tp] 25 (by first | rfl | simp))
  clear HL3 HB3
  go_wp2_with fail
  refine (H4.out _).mono ?_
  rintro e w4 ⟨rfl, hb⟩
  have HL5 := Lib.hid (bstep HL4.out hb)
  have HB5 := Lib.hid (HB4.out.bel hb)
  clear hb
  clear HL4 HB4
  go_wp2_with fail
  refine (H2.out _).mono ?_
  rintro e w5 ⟨rfl, hb⟩
  have HL6 := Lib.hid (bstep HL5.out hb)
  have HB6 := Lib.hid (HB5.out.bel hb)
  clear hb
  clear HL5 HB5
  go_wp2_with fail
  refine (H5.out _).mono ?_
  rintro e w6 ⟨rfl, hb⟩
  have HL7 := Lib.hid (bstep HL6.out hb)
  have HB7 := Lib.hid (HB6.out.bel hb)
  clear hb
  clear HL6 HB6
  have HO1 := Lib.hid (show w3.heap.size < w6.heap.size from by have := (HB7.out.1).lt; first | omega | (simp at this; omega))
  have HL8 := Lib.hid (HL7.out.alloc HL7.out.size (.cells #[.bool np, .string sp, .bool mp, .string tp] 25))
  have HB8 := Lib.hid (HB7.out.push (w6.heap.size) #[.bool np, .string sp, .bool mp, .string tp] 25 (by first | rfl | simp))
  clear HL7 HB7
  go_wp2_with fail
  refine (H6.out _).mono ?_
  rintro e w7 ⟨rfl, hb⟩
  have HL9 := Lib.hid (bstep HL8.out hb)
  have HB9 := Lib.hid (HB8.out.bel hb)
  clear hb
  clear HL8 HB8
  go_wp2_with fail
  refine (H7.out _).mono ?_
  rintro e w8 ⟨rfl, hb⟩
  have HL10 := Lib.hid (bstep HL9.out hb)
  have HB10 := Lib.hid (HB9.out.bel hb)
  clear hb
  clear HL9 HB9
  go_wp2_with fail
  refine (H8.out _).mono ?_
  rintro e w9 ⟨rfl, hb⟩
  have HL11 := Lib.hid (bstep HL10.out hb)
  have HB11 := Lib.hid (HB10.out.bel hb)
  clear hb
  clear HL10 HB10
  have HO2 := Lib.hid (show w6.heap.size < w9.heap.size from by have := (HB11.out.1).lt; first | omega | (simp at this; omega))
  have HL12 := Lib.hid (HL11.out.alloc HL11.out.size (.cells #[.bool nz, .string sz, .bool mz, .string tz] 25))
  have HB12 := Lib.hid (HB11.out.push (w9.heap.size) #[.bool nz, .string sz, .bool mz, .string tz] 25 (by first | rfl | simp))
  clear HL11 HB11
  go_wp2_with fail
  refine (H9.out _).mono ?_
  rintro e w10 ⟨rfl, hb⟩
  have HL13 := Lib.hid (bstep HL12.out hb)
  have HB13 := Lib.hid (HB12.out.bel hb)
  clear hb
  clear HL12 HB12
  have HO3 := Lib.hid (show w9.heap.size < w10.heap.size from by have := (HB13.out.1).lt; first | omega | (simp at this; omega))
  have HL14 := Lib.hid (HL13.out.alloc HL13.out.size (.cells #[.bool nh, .string sh, .bool mh, .string th] 25))
  have HB14 := Lib.hid (HB13.out.push (w10.heap.size) #[.bool nh, .string sh, .bool mh, .string th] 25 (by first | rfl | simp))
  clear HL13 HB13
  go_wp2_with fail
  refine (H10.out _).mono ?_
  rintro e w11 ⟨rfl, hb⟩
  have HL15 := Lib.hid (bstep HL14.out hb)
  have HB15 := Lib.hid (HB14.out.bel hb)
  clear hb
  clear HL14 HB14
  have HO4 := Lib.hid (show w10.heap.size < w11.heap.size from by have := (HB15.out.1).lt; first | omega | (simp at this; omega))
  have HL16 := Lib.hid (HL15.out.alloc HL15.out.size (.cells #[.bool false, .string ⟨#[]⟩, .bool false, .string ⟨#[]⟩] 25))
  have HB16 := Lib.hid (HB15.out.push (w11.heap.size) #[.bool false, .string ⟨#[]⟩, .bool false, .string ⟨#[]⟩] 25 (by first | rfl | simp))
  clear HL15 HB15
  go_wp2_with fail
  obtain ⟨Bw3, hB⟩ : ∃ B, w3.heap.size = B := ⟨_, rfl⟩
  rw [hB] at HB16 ⊢
  try rw [hB] at HO0
  try rw [hB] at HO1
  try rw [hB] at HO2
  try rw [hB] at HO3
  try rw [hB] at HO4
  clear hB
  obtain ⟨Bw6, hB⟩ : ∃ B, w6.heap.size = B := ⟨_, rfl⟩
  rw [hB] at HB16 ⊢
  try rw [hB] at HO0
  try rw [hB] at HO1
  try rw [hB] at HO2
  try rw [hB] at HO3
  try rw [hB] at HO4
  clear hB
  obtain ⟨Bw9, hB⟩ : ∃ B, w9.heap.size = B := ⟨_, rfl⟩
  rw [hB] at HB16 ⊢
  try rw [hB] at HO0
  try rw [hB] at HO1
  try rw [hB] at HO2
  try rw [hB] at HO3
  try rw [hB] at HO4
  clear hB
  obtain ⟨Bw10, hB⟩ : ∃ B, w10.heap.size = B := ⟨_, rfl⟩
  rw [hB] at HB16 ⊢
  try rw [hB] at HO0
  try rw [hB] at HO1
  try rw [hB] at HO2
  try rw [hB] at HO3
  try rw [hB] at HO4
  clear hB
  obtain ⟨Bw11, hB⟩ : ∃ B, w11.heap.size = B := ⟨_, rfl⟩
  rw [hB] at HB16 ⊢
  try rw [hB] at HO0
  try rw [hB] at HO1
  try rw [hB] at HO2
  try rw [hB] at HO3
  try rw [hB] at HO4
  clear hB
  obtain ⟨W12, hW⟩ : ∃ W, (w11.alloc (.cells #[.bool false, .string ⟨#[]⟩, .bool false, .string ⟨#[]⟩] 25)) = W := ⟨_, rfl⟩
  rw [hW] at HB16 HL16 ⊢
  clear hW
  haveI := cls_some W12
  have fq0_0 : ∀ u : Cl W12, u.x.cell? ⟨Bw3, 0, none⟩ = some (.bool np) := fun u => ((HB16.out.bel u.h).2.2.2.2.1).at 0 (.bool np) rfl
  have fq0_1 : ∀ u : Cl W12, u.x.cell? ⟨Bw3, 1, none⟩ = some (.string sp) := fun u => ((HB16.out.bel u.h).2.2.2.2.1).at 1 (.string sp) rfl
  have fq0_2 : ∀ u : Cl W12, u.x.cell? ⟨Bw3, 2, none⟩ = some (.bool mp) := fun u => ((HB16.out.bel u.h).2.2.2.2.1).at 2 (.bool mp) rfl
  have fq0_3 : ∀ u : Cl W12, u.x.cell? ⟨Bw3, 3, none⟩ = some (.string tp) := fun u => ((HB16.out.bel u.h).2.2.2.2.1).at 3 (.string tp) rfl
  have fq1_0 : ∀ u : Cl W12, u.x.cell? ⟨Bw6, 0, none⟩ = some (.bool np) := fun u => ((HB16.out.bel u.h).2.2.2.1).at 0 (.bool np) rfl
  have fq1_1 : ∀ u : Cl W12, u.x.cell? ⟨Bw6, 1, none⟩ = some (.string sp) := fun u => ((HB16.out.bel u.h).2.2.2.1).at 1 (.string sp) rfl
  have fq1_2 : ∀ u : Cl W12, u.x.cell? ⟨Bw6, 2, none⟩ = some (.bool mp) := fun u => ((HB16.out.bel u.h).2.2.2.1).at 2 (.bool mp) rfl
  have fq1_3 : ∀ u : Cl W12, u.x.cell? ⟨Bw6, 3, none⟩ = some (.string tp) := fun u => ((HB16.out.bel u.h).2.2.2.1).at 3 (.string tp) rfl
  have fq2_0 : ∀ u : Cl W12, u.x.cell? ⟨Bw9, 0, none⟩ = some (.bool nz) := fun u => ((HB16.out.bel u.h).2.2.1).at 0 (.bool nz) rfl
  have fq2_1 : ∀ u : Cl W12, u.x.cell? ⟨Bw9, 1, none⟩ = some (.string sz) := fun u => ((HB16.out.bel u.h).2.2.1).at 1 (.string sz) rfl
  have fq2_2 : ∀ u : Cl W12, u.x.cell? ⟨Bw9, 2, none⟩ = some (.bool mz) := fun u => ((HB16.out.bel u.h).2.2.1).at 2 (.bool mz) rfl
  have fq2_3 : ∀ u : Cl W12, u.x.cell? ⟨Bw9, 3, none⟩ = some (.string tz) := fun u => ((HB16.out.bel u.h).2.2.1).at 3 (.string tz) rfl
  have fq3_0 : ∀ u : Cl W12, u.x.cell? ⟨Bw10, 0, none⟩ = some (.bool nh) := fun u => ((HB16.out.bel u.h).2.1).at 0 (.bool nh) rfl
  have fq3_1 : ∀ u : Cl W12, u.x.cell? ⟨Bw10, 1, none⟩ = some (.string sh) := fun u => ((HB16.out.bel u.h).2.1).at 1 (.string sh) rfl
  have fq3_2 : ∀ u : Cl W12, u.x.cell? ⟨Bw10, 2, none⟩ = some (.bool mh) := fun u => ((HB16.out.bel u.h).2.1).at 2 (.bool mh) rfl
  have fq3_3 : ∀ u : Cl W12, u.x.cell? ⟨Bw10, 3, none⟩ = some (.string th) := fun u => ((HB16.out.bel u.h).2.1).at 3 (.string th) rfl
  refine wp_region_cls (by kernel_rfl) ?_
  iterate 20 (go_big_quiet_step (fail))
  go_big_quiet_step ((go_at_call 18; exact quiet_cls H1.out _))
  iterate 9 (go_big_quiet_step (fail))
  go_big_quiet_step ((go_at_call 18; exact quiet_cls H11.out _))
  iterate 4 (go_big_quiet_step (fail))
  go_big_quiet_step ((go_at_call 18; exact quiet_cls H12.out _))
  iterate 4 (go_big_quiet_step (fail))
  go_big_quiet_step ((go_at_call 30; exact quiet_cls H13.out _))
  go_big_quiet_step ((go_at_call 24; exact quiet_cls H14.out _))
  iterate 4 (go_big_quiet_step (fail))
  go_big_quiet_step ((go_at_call 13; exact quiet_cls H15.out _))
  iterate 4 (go_big_quiet_step (fail))
  go_big_quiet_step ((go_at_call 14; exact quiet_cls H16.out _))
  iterate 4 (go_big_quiet_step (fail))
  go_big_quiet_step ((go_at_call 14; exact quiet_cls H17.out _))
  iterate 3 (go_big_quiet_step (fail))
  refine wpQuiet_nil ?_
  intro w13 hw9
  have hb : Below W12.heap.size W12 w13 := by obtain ⟨u, rfl⟩ := hw9; exact u.h
  clear hw9 this fq0_0 fq0_1 fq0_2 fq0_3 fq1_0 fq1_1 fq1_2 fq1_3 fq2_0 fq2_1 fq2_2 fq2_3 fq3_0 fq3_1 fq3_2 fq3_3
  have HL17 := Lib.hid (bstep HL16.out hb)
  have HB17 := Lib.hid (HB16.out.bel hb)
  clear hb
  clear HL16 HB16
  go_wp2
  go_ret
  exact ⟨rfl, HL17.out⟩
end Go.Proofs.Gv

namespace Go.Proofs.Gv
open Go Go.RowKit

theorem ratP_ex1 : ratP [45, 51, 47, 50] = some (Rat.divInt (-3) 2) := by decide +kernel
theorem ratP_ex2 : ratP [54, 47, 52] = none := by decide +kernel
theorem q10 : Qb 10 (Rat.divInt 1 3) ∧ Qb 10 (Rat.divInt 2 5) ∧ Qb 10 (Rat.divInt 3 10) ∧ Qb 10 (Rat.divInt (-1) 2) ∧ Qb 10 (Rat.divInt 5 1) ∧ Qb 10 (Rat.divInt (-3) 2) :=
  ⟨⟨by decide +kernel, by decide +kernel⟩, ⟨by decide +kernel, by decide +kernel⟩, ⟨by decide +kernel, by decide +kernel⟩, ⟨by decide +kernel, by decide +kernel⟩, ⟨by decide +kernel, by decide +kernel⟩, ⟨by decide +kernel, by decide +kernel⟩⟩
theorem cAwake02 (W : World) : Calls Tryd.prog 11 #[] W fun e w' => e = .returned (.bool true) ∧ Below W.heap.size W w' := by
  obtain ⟨Q1, Q2, Q3, Q4, Q5, Q6⟩ := q10
  have r1 := cRatio (x := 1) (y := 3) (by decide) (by decide) (by decide) (by decide) (by decide)
  have r2 := cRatio (x := 2) (y := 5) (by decide) (by decide) (by decide) (by decide) (by decide)
  have r3 := cRatio (x := 3) (y := 10) (by decide) (by decide) (by decide) (by decide) (by decide)
  have r4 := cRatio (x := -1) (y := 2) (by decide) (by decide) (by decide) (by decide) (by decide)
  have r5 := cRatio (x := 5) (y := 1) (by decide) (by decide) (by decide) (by decide) (by decide)
  have r6 := cRatio (x := 0) (y := 1) (by decide) (by decide) (by decide) (by decide) (by decide)
  have r7 := cRatio (x := 6) (y := -4) (by decide) (by decide) (by decide) (by decide) (by decide)
  rw [Rat.zero_divInt] at r6
  rw [rat_aw4] at r7
  have s1 := fun W => cQSim (Q1.rq (by decide)) (Q2.rq (by decide)) Q1 Q2 (by decide) (by decide +kernel) W
  have s2 := fun W => cQSim (Q3.rq (by decide)) (Q2.rq (by decide)) Q3 Q2 (by decide) (by decide +kernel) W
  have s3 := fun W => cQSim (Q4.rq (by decide)) (Q5.rq (by decide)) Q4 Q5 (by decide) (by decide +kernel) W
  rw [rat_aw1] at s1
  rw [rat_aw2] at s2
  rw [rat_aw3] at s3
  have p1 := fun W => cQParse (s := ⟨#[45, 51, 47, 50]⟩) (by decide) W
  have p2 := fun W => cQParse (s := ⟨#[54, 47, 52]⟩) (by decide) W
  rw [show (⟨#[45, 51, 47, 50]⟩ : ByteArray).data.toList = [45, 51, 47, 50] from rfl, ratP_ex1] at p1
  rw [show (⟨#[54, 47, 52]⟩ : ByteArray).data.toList = [54, 47, 52] from rfl, ratP_ex2] at p2
  have f1 := fun W => cQFloor (Q6.rq (by decide)) W
  rw [rat_aw5] at f1
  have o1 := cOf (-2) (by decide) (by decide)
  have t1 := fun W => cQPrint (Q6.rq (by decide)) W
  rw [ratT_P ratP_ex1] at t1
  have c1 := cQCheckV Q6 (by decide)
  have c2 := fun W => cQCheck (na := false) (ma := false) (sa := ⟨#[]⟩) (ta := ⟨#[]⟩) (a := 0) ⟨by rw [show iv false ⟨#[]⟩ = 0 from Rp.zero.val, Rat.divInt_zero], by decide, by decide⟩ W
  have hne : ¬ eqQ (sgn (0 : Rat).num) (mg (0 : Rat).num.natAbs) false (mg (0 : Rat).den) false ⟨#[]⟩ false ⟨#[]⟩ = true := fun h => by
    have h2 := (eqQ_iff.1 h).2.2
    have h3 := congrArg ByteArray.size h2
    exact absurd h3 (by decide +kernel)
  rw [if_neg hne] at c2
  exact awake_w W r1 r2 s1 r3 s2 r4 r5 s3 p1 p2 r6 r7 f1 o1 t1 c1 c2
end Go.Proofs.Gv

namespace Go.Proofs.Gv
open Go Go.RowKit

/-- The rows of numbers that Great is handed. -/
def grQ (k : Nat) (L : List (Bool × ByteArray × Bool × ByteArray)) : Bool := L.any fun x => decide (k < x.2.1.size) || decide (k < x.2.2.2.size)
def cellsQ (L : List (Bool × ByteArray × Bool × ByteArray)) : List Value := L.flatMap fun x => [.bool x.1, .string x.2.1, .bool x.2.2.1, .string x.2.2.2]

theorem cellsQ_at : ∀ (L : List (Bool × ByteArray × Bool × ByteArray)) (i n s m t), L[i]? = some (n, s, m, t) → ((cellsQ L)[i * 4]? = some (.bool n) ∧ (cellsQ L)[i * 4 + 1]? = some (.string s)) ∧ (cellsQ L)[i * 4 + 2]? = some (.bool m) ∧ (cellsQ L)[i * 4 + 3]? = some (.string t)
  | [], i, n, s, m, t, h => by simp at h
  | x :: L, 0, n, s, m, t, h => by
    obtain rfl : x = (n, s, m, t) := by simpa using h
    exact ⟨⟨rfl, rfl⟩, rfl, rfl⟩
  | x :: L, i + 1, n, s, m, t, h => by
    have := cellsQ_at L i n s m t (by simpa using h)
    rw [show (i + 1) * 4 = i * 4 + 4 by omega]
    simp only [cellsQ, List.flatMap_cons] at this ⊢
    exact this
theorem grQ_false {k : Nat} {L : List (Bool × ByteArray × Bool × ByteArray)} (h : grQ k L = false) : ∀ x ∈ L, x.2.1.size ≤ k ∧ x.2.2.2.size ≤ k := by
  intro x hx
  unfold grQ at h
  rw [List.any_eq_false] at h
  have := h x hx
  simp at this
  omega
end Go.Proofs.Gv

namespace Go.Proofs.Gv
open Go Go.RowKit

/-- A number of few bytes. -/
theorem rq_small {n m : Bool} {s t : ByteArray} (k : Nat) (hk : k ≤ 1000) (h1 : s.size ≤ k) (h2 : t.size ≤ k) : ∃ a N, Rq n s m t a ∧ Qb N a ∧ N ≤ 8 * k + 8 := by
  have h : Rq n s m t (Rat.divInt (iv n s) (iv m t)) := ⟨rfl, by omega, by omega⟩
  exact ⟨_, 8 * (k + 1), h, h.qb (by omega) (by omega) (by omega), by omega⟩
theorem cR01 (W : World) : Calls Tryd.prog 18 #[.int .i64 0, .int .i64 1] W (RetQ W 0) := by
  have := cRatio (x := 0) (y := 1) (by decide) (by decide) (by decide) (by decide) (by decide) W
  rwa [Rat.zero_divInt] at this
theorem cR11 (W : World) : Calls Tryd.prog 18 #[.int .i64 1, .int .i64 1] W (RetQ W 1) := by
  have := cRatio (x := 1) (y := 1) (by decide) (by decide) (by decide) (by decide) (by decide) W
  rwa [divInt_1, Rat.intCast_one] at this
end Go.Proofs.Gv

namespace Go.Proofs.Gv
open Go Go.RowKit

theorem hz1' {na ma : Bool} {sa ta : ByteArray} (hs : sa.size ≤ maxLen) (ht : ta.size ≤ maxLen) : ∀ x ∈ ([(na, sa, ma, ta)] : List (Bool × ByteArray × Bool × ByteArray)), x.2.1.size ≤ maxLen ∧ x.2.2.2.size ≤ maxLen := fun x hx => by
  obtain rfl : x = (na, sa, ma, ta) := by simpa using hx
  exact ⟨hs, ht⟩
theorem hz_cons {na ma : Bool} {sa ta : ByteArray} {L : List (Bool × ByteArray × Bool × ByteArray)} (hs : sa.size ≤ maxLen) (ht : ta.size ≤ maxLen) (h : ∀ x ∈ L, x.2.1.size ≤ maxLen ∧ x.2.2.2.size ≤ maxLen) : ∀ x ∈ (na, sa, ma, ta) :: L, x.2.1.size ≤ maxLen ∧ x.2.2.2.size ≤ maxLen := fun x hx => by
  rcases List.mem_cons.1 hx with rfl | hx
  · exact ⟨hs, ht⟩
  · exact h x hx
theorem cmpQ_cases' (a b : Rat) : (cmpQ a b = 1 ∧ b < a) ∨ (cmpQ a b = 0 ∧ a = b) ∨ (cmpQ a b = -1 ∧ a < b) := by
  rcases cmpQ_cases a b with ⟨h, e, _⟩ | ⟨h, e, _⟩ | ⟨h, e, _⟩
  · exact .inr (.inr ⟨e, h⟩)
  · exact .inr (.inl ⟨e, h⟩)
  · exact .inl ⟨e, h⟩
end Go.Proofs.Gv

namespace Go.Proofs.Gv
open Go Go.RowKit

set_option maxRecDepth 100000 in
set_option maxHeartbeats 1600000 in
theorem longQ_any (g : Nat) (L : List (Bool × ByteArray × Bool × ByteArray)) (w : World) (hL : L.length ≤ 1000) (hz : ∀ x ∈ L, x.2.1.size ≤ maxLen ∧ x.2.2.2.size ≤ maxLen) (hg : g < w.heap.size)
    (hc : ∀ i n s m t, L[i]? = some (n, s, m, t) → (w.cell? ⟨g, i * 4, none⟩ = some (.bool n) ∧ w.cell? ⟨g, i * 4 + 1, none⟩ = some (.string s)) ∧ w.cell? ⟨g, i * 4 + 2, none⟩ = some (.bool m) ∧ w.cell? ⟨g, i * 4 + 3, none⟩ = some (.string t)) :
    Calls Tryd.prog 27 #[.slice (some ⟨g, 0, none⟩) L.length L.length] w fun e w' => e = .returned (.bool (grQ 4 L)) ∧ Below w.heap.size w w' := by
  have HZ := Lib.hid hz
  have HC := Lib.hid hc
  clear hz hc
  go_enter Tryd.func27, Tryd.ntmps27
  go_wp2_with fail
  go_loopg [3] (L.length + 1) (fun gg v3 wr => ∃ (k : Nat), v3 = .int .i64 k ∧ k ≤ L.length ∧ L.length + 1 - k ≤ gg ∧ grQ 4 L = grQ 4 (L.drop k) ∧ Below w.heap.size w wr)
  case atStart => exact ⟨0, rfl, by omega, by omega, rfl, Below.refl _ _⟩
  case round =>
    obtain ⟨k, rfl, hk, hm, hgr, hb⟩ := hrel
    have HG := Lib.hid hgr
    have HB := Lib.hid hb
    clear hgr hb
    by_cases hkl : k < L.length
    · have hkI : (k : Int) < L.length := by omega
      obtain ⟨⟨n, s, m, t⟩, hx⟩ : ∃ x, L[k]? = some x := ⟨L[k], List.getElem?_eq_getElem hkl⟩
      have hs := HZ.out _ (List.mem_of_getElem? hx)
      obtain ⟨⟨c0, c1⟩, c2, c3⟩ := HC.out k n s m t hx
      have d0 := (HB.out.cell (p := ⟨g, k * 4, none⟩) hg).trans c0
      have d1 := (HB.out.cell (p := ⟨g, k * 4 + 1, none⟩) hg).trans c1
      have hdrop : grQ 4 (L.drop k) = ((decide (4 < s.size) || decide (4 < t.size)) || grQ 4 (L.drop (k + 1))) := by
        obtain ⟨hj, e⟩ := List.getElem?_eq_some_iff.1 hx
        rw [List.drop_eq_getElem_cons hj, e]
        rfl
      have HD := Lib.hid hdrop
      clear c0 c1 hx hdrop
      have HS := Lib.hid hs
      have HC2 := Lib.hid c2
      have HC3 := Lib.hid c3
      clear hs c2 c3
      have d3 := (HB.out.cell (p := ⟨g, k * 4 + 3, none⟩) hg).trans HC3.out
      have hs1 : s.size ≤ 9223372036854775807 := by have := HS.out.1; unfold maxLen at this; omega
      have ht1 : t.size ≤ 9223372036854775807 := by have := HS.out.2; unfold maxLen at this; omega
      by_cases hc : 4 < s.size
      · have HR := Lib.hid (show grQ 4 L = true by rw [HG.out, HD.out, decide_eq_true hc]; rfl)
        have hcd : (4 : Int) < s.size := by omega
        clear hc
        go_wp2
        go_ret
        exact ⟨by rw [HR.out]; rfl, HB.out⟩
      · have hcd : decide ((4 : Int) < s.size) = false := by simp; omega
        by_cases hc2 : 4 < t.size
        · have HR := Lib.hid (show grQ 4 L = true by rw [HG.out, HD.out, decide_eq_true hc2, Bool.or_true]; rfl)
          have hcd2 : (4 : Int) < t.size := by omega
          clear hc hc2
          go_wp2
          go_ret
          exact ⟨by rw [HR.out]; rfl, HB.out⟩
        · have hcd2 : decide ((4 : Int) < t.size) = false := by simp; omega
          have HR := Lib.hid (show grQ 4 L = grQ 4 (L.drop (k + 1)) by rw [HG.out, HD.out, decide_eq_false hc, decide_eq_false hc2]; rfl)
          clear hc hc2
          go_wp2
          go_roundg (L.length - k)
          case rel => exact ⟨k + 1, by go_num, by omega, by omega, HR.out, HB.out⟩
          case measure => omega
    · have hkB : decide ((k : Int) < L.length) = false := by simp; omega
      have hkB2 : decide (k < L.length) = false := by simp; omega
      have HR := Lib.hid (show grQ 4 L = false by rw [HG.out, List.drop_eq_nil_of_le (by omega)]; rfl)
      clear hkl
      go_wp2
      go_ret
      exact ⟨by rw [HR.out]; rfl, HB.out⟩
theorem longQ_box {g : Nat} (L : List (Bool × ByteArray × Bool × ByteArray)) {w : World} (h : BC w g (cellsQ L)) (hL : L.length ≤ 1000) (hz : ∀ x ∈ L, x.2.1.size ≤ maxLen ∧ x.2.2.2.size ≤ maxLen) :
    Calls Tryd.prog 27 #[.slice (some ⟨g, 0, none⟩) L.length L.length] w fun e w' => e = .returned (.bool (grQ 4 L)) ∧ Below w.heap.size w w' :=
  longQ_any g L w hL hz h.lt fun i n s m t hi => by
    obtain ⟨⟨h0, h1⟩, h2, h3⟩ := cellsQ_at L i n s m t hi
    exact ⟨⟨h.cell _ _ h0, h.cell _ _ h1⟩, h.cell _ _ h2, h.cell _ _ h3⟩
end Go.Proofs.Gv

namespace Go.Proofs.Gv
open Go Go.RowKit

set_option maxRecDepth 100000 in
set_option maxHeartbeats 4000000 in
theorem simple_great (na ma : Bool) (sa ta : ByteArray) (nb mb : Bool) (sb tb : ByteArray) (hgz : ∀ x ∈ ([(na, sa, ma, ta), (nb, sb, mb, tb)] : List (Bool × ByteArray × Bool × ByteArray)), x.2.1.size ≤ maxLen ∧ x.2.2.2.size ≤ maxLen) (hgr : grQ 4 [(na, sa, ma, ta), (nb, sb, mb, tb)] = true) (h0 : Int) (hh : -32768 ≤ h0 ∧ h0 ≤ 32767) (w : World)
    (H1 : ∀ W, Calls Tryd.prog 11 #[] W fun e w' => e = .returned (.bool true) ∧ Below W.heap.size W w')
    : Calls Tryd.prog 7 #[.agg #[.bool na, .string sa, .bool ma, .string ta], .agg #[.bool nb, .string sb, .bool mb, .string tb], .int .i16 h0] w fun e w' => e = .returned (.bool true) ∧ Below w.heap.size w w' := by
  replace H1 := Lib.hid H1
  have HGZ := Lib.hid hgz
  clear hgz
  go_enter Tryd.func7, Tryd.ntmps7
  have HL0 := Lib.hid (Below.refl w.heap.size w)
  have HB0 := Lib.hid (show Bs [] w from trivial)
  have HO0 := Lib.hid (show w.heap.size ≤ w.heap.size from by have := HL0.out.size; first | omega | (simp at this; omega))
  have HL1 := Lib.hid (HL0.out.alloc HL0.out.size (.cells #[.bool na, .string sa, .bool ma, .string ta] 25))
  have HB1 := Lib.hid (HB0.out.push (w.heap.size) #[.bool na, .string sa, .bool ma, .string ta] 25 (by first | rfl | simp))
  clear HL0 HB0
  have HO1 := Lib.hid (show w.heap.size < w.heap.size + 1 from by have := (HB1.out.1).lt; first | omega | (simp at this; omega))
  have HL2 := Lib.hid (HL1.out.alloc HL1.out.size (.cells #[.bool nb, .string sb, .bool mb, .string tb] 25))
  have HB2 := Lib.hid (HB1.out.push (w.heap.size + 1) #[.bool nb, .string sb, .bool mb, .string tb] 25 (by first | rfl | simp))
  clear HL1 HB1
  have fx0_0_2 := (HB2.out.2.1).at 0 (.bool na) rfl
  have fx0_1_2 := (HB2.out.2.1).at 1 (.string sa) rfl
  have fx0_2_2 := (HB2.out.2.1).at 2 (.bool ma) rfl
  have fx0_3_2 := (HB2.out.2.1).at 3 (.string ta) rfl
  have fx1_0_2 := (HB2.out.1).at 0 (.bool nb) rfl
  have fx1_1_2 := (HB2.out.1).at 1 (.string sb) rfl
  have fx1_2_2 := (HB2.out.1).at 2 (.bool mb) rfl
  have fx1_3_2 := (HB2.out.1).at 3 (.string tb) rfl
  have HO2 := Lib.hid (show w.heap.size + 1 < w.heap.size + 1 + 1 from by have := (HB2.out.1).lt; first | omega | (simp at this; omega))
  have HL3 := Lib.hid (HL2.out.alloc HL2.out.size (.cells #[.bool na, .string sa, .bool ma, .string ta, .bool nb, .string sb, .bool mb, .string tb] 25))
  have HB3 := Lib.hid (HB2.out.push (w.heap.size + 1 + 1) #[.bool na, .string sa, .bool ma, .string ta, .bool nb, .string sb, .bool mb, .string tb] 25 (by first | rfl | simp))
  clear HL2 HB2
  go_wp2_with fail
  refine (longQ_box [(na, sa, ma, ta), (nb, sb, mb, tb)] (HB3.out.1) (show 2 ≤ 1000 by decide) HGZ.out).mono ?_
  rintro e w1 ⟨rfl, hb⟩
  have HL4 := Lib.hid (bstep HL3.out hb)
  have HB4 := Lib.hid (HB3.out.bel hb)
  clear hb
  clear HL3 HB3 fx0_0_2 fx0_1_2 fx0_2_2 fx0_3_2 fx1_0_2 fx1_1_2 fx1_2_2 fx1_3_2
  go_wp2_with fail
  refine (H1.out _).mono ?_
  rintro e w2 ⟨rfl, hb⟩
  have HL5 := Lib.hid (bstep HL4.out hb)
  have HB5 := Lib.hid (HB4.out.bel hb)
  clear hb
  clear HL4 HB4
  go_wp2
  go_ret
  exact ⟨rfl, HL5.out⟩
end Go.Proofs.Gv
