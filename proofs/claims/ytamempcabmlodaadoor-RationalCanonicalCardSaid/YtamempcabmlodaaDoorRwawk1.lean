/- Layer 02: functions of rational, walked over the results of what they call (printed by gen02k.py). -/
import Derived.Test.YtamempcabmlodaaDoorRatTabP
set_option linter.unusedSimpArgs false
set_option linter.unusedVariables false
namespace Go.Proofs.Gv
open Go Go.RowKit

set_option maxRecDepth 100000 in
set_option maxHeartbeats 4000000 in
theorem awake_w {np mp nq mq nr mr nu mu nv mv nz mz nh mh nf : Bool} {sp tp sq tq sr tr su tu sv tv sz tz sh th sf : ByteArray} (w : World)
    (H1 : ∀ W, Calls Tryd.prog 18 #[.int .i64 1, .int .i64 3] W fun e w' => e = .returned (.agg #[.bool np, .string sp, .bool mp, .string tp]) ∧ Below W.heap.size W w')
    (H2 : ∀ W, Calls Tryd.prog 18 #[.int .i64 2, .int .i64 5] W fun e w' => e = .returned (.agg #[.bool nq, .string sq, .bool mq, .string tq]) ∧ Below W.heap.size W w')
    (H3 : ∀ W, Calls Tryd.prog 28 #[.agg #[.bool np, .string sp, .bool mp, .string tp], .agg #[.bool nq, .string sq, .bool mq, .string tq]] W fun e w' => e = .returned (.tuple #[.agg #[.bool np, .string sp, .bool mp, .string tp], .int .i64 0]) ∧ Below W.heap.size W w')
    (H4 : ∀ W, Calls Tryd.prog 18 #[.int .i64 3, .int .i64 10] W fun e w' => e = .returned (.agg #[.bool nr, .string sr, .bool mr, .string tr]) ∧ Below W.heap.size W w')
    (H5 : ∀ W, Calls Tryd.prog 28 #[.agg #[.bool nr, .string sr, .bool mr, .string tr], .agg #[.bool nq, .string sq, .bool mq, .string tq]] W fun e w' => e = .returned (.tuple #[.agg #[.bool np, .string sp, .bool mp, .string tp], .int .i64 0]) ∧ Below W.heap.size W w')
    (H6 : ∀ W, Calls Tryd.prog 18 #[.int .i64 (-1), .int .i64 2] W fun e w' => e = .returned (.agg #[.bool nu, .string su, .bool mu, .string tu]) ∧ Below W.heap.size W w')
    (H7 : ∀ W, Calls Tryd.prog 18 #[.int .i64 5, .int .i64 1] W fun e w' => e = .returned (.agg #[.bool nv, .string sv, .bool mv, .string tv]) ∧ Below W.heap.size W w')
    (H8 : ∀ W, Calls Tryd.prog 28 #[.agg #[.bool nu, .string su, .bool mu, .string tu], .agg #[.bool nv, .string sv, .bool mv, .string tv]] W fun e w' => e = .returned (.tuple #[.agg #[.bool nz, .string sz, .bool mz, .string tz], .int .i64 0]) ∧ Below W.heap.size W w')
    (H9 : ∀ W, Calls Tryd.prog 12 #[.string ⟨#[45, 51, 47, 50]⟩] W fun e w' => e = .returned (.tuple #[.agg #[.bool nh, .string sh, .bool mh, .string th], .int .i64 0]) ∧ Below W.heap.size W w')
    (H10 : ∀ W, Calls Tryd.prog 12 #[.string ⟨#[54, 47, 52]⟩] W fun e w' => e = .returned (.tuple #[.agg #[.bool false, .string ⟨#[]⟩, .bool false, .string ⟨#[]⟩], .int .i64 3]) ∧ Below W.heap.size W w')
    (H11 : ∀ W, Calls Tryd.prog 18 #[.int .i64 0, .int .i64 1] W fun e w' => e = .returned (.agg #[.bool nz, .string sz, .bool mz, .string tz]) ∧ Below W.heap.size W w')
    (H12 : ∀ W, Calls Tryd.prog 18 #[.int .i64 6, .int .i64 (-4)] W fun e w' => e = .returned (.agg #[.bool nh, .string sh, .bool mh, .string th]) ∧ Below W.heap.size W w')
    (H13 : ∀ W, Calls Tryd.prog 30 #[.agg #[.bool nh, .string sh, .bool mh, .string th]] W fun e w' => e = .returned (.agg #[.bool nf, .string sf]) ∧ Below W.heap.size W w')
    (H14 : ∀ W, Calls Tryd.prog 24 #[.int .i64 (-2)] W fun e w' => e = .returned (.agg #[.bool nf, .string sf]) ∧ Below W.heap.size W w')
    (H15 : ∀ W, Calls Tryd.prog 13 #[.agg #[.bool nh, .string sh, .bool mh, .string th]] W fun e w' => e = .returned (.string ⟨#[45, 51, 47, 50]⟩) ∧ Below W.heap.size W w')
    (H16 : ∀ W, Calls Tryd.prog 14 #[.agg #[.bool nh, .string sh, .bool mh, .string th]] W fun e w' => e = .returned (.int .i64 0) ∧ Below W.heap.size W w')
    (H17 : ∀ W, Calls Tryd.prog 14 #[.agg #[.bool false, .string ⟨#[]⟩, .bool false, .string ⟨#[]⟩]] W fun e w' => e = .returned (.int .i64 1) ∧ Below W.heap.size W w')
    : Calls Tryd.prog 11 #[] w fun e w' => e = .returned (.bool true) ∧ Below w.heap.size w w' := by
  replace H1 := Lib.hid H1
  replace H2 := Lib.hid H2
  replace H3 := Lib.hid H3
  replace H4 := Lib.hid H4
  replace H5 := Lib.hid H5
  replace H6 := Lib.hid H6
  replace H7 := Lib.hid H7
  replace H8 := Lib.hid H8
  replace H9 := Lib.hid H9
  replace H10 := Lib.hid H10
  replace H11 := Lib.hid H11
  replace H12 := Lib.hid H12
  replace H13 := Lib.hid H13
  replace H14 := Lib.hid H14
  replace H15 := Lib.hid H15
  replace H16 := Lib.hid H16
  replace H17 := Lib.hid H17
  have qp : eqQ np sp mp tp np sp mp tp = true := eqQ_iff.2 ⟨⟨rfl, rfl⟩, ⟨rfl, rfl⟩⟩
  have qz : eqQ nz sz mz tz nz sz mz tz = true := eqQ_iff.2 ⟨⟨rfl, rfl⟩, ⟨rfl, rfl⟩⟩
  have qh : eqQ nh sh mh th nh sh mh th = true := eqQ_iff.2 ⟨⟨rfl, rfl⟩, ⟨rfl, rfl⟩⟩
  have qf : eqI nf sf nf sf = true := eqI_iff.2 ⟨rfl, rfl⟩
  go_enter Tryd.func11, Tryd.ntmps11
  have HL0 := Lib.hid (Below.refl w.heap.size w)
  have HB0 := Lib.hid (show Bs [] w from trivial)
  go_wp2_with fail
  refine (H1.out _).mono ?_
  rintro e w1 ⟨rfl, hb⟩
  have HL1 := Lib.hid (bstep HL0.out hb)
  have HB1 := Lib.hid (HB0.out.bel hb)
  clear hb
  clear HL0 HB0
  go_wp2_with fail
  refine (H2.out _).mono ?_
  rintro e w2 ⟨rfl, hb⟩
  have HL2 := Lib.hid (bstep HL1.out hb)
  have HB2 := Lib.hid (HB1.out.bel hb)
  clear hb
  clear HL1 HB1
  go_wp2_with fail
  refine (H3.out _).mono ?_
  rintro e w3 ⟨rfl, hb⟩
  have HL3 := Lib.hid (bstep HL2.out hb)
  have HB3 := Lib.hid (HB2.out.bel hb)
  clear hb
  clear HL2 HB2
  have HO0 := Lib.hid (show w.heap.size ≤ w3.heap.size from by have := HL3.out.size; first | omega | (simp at this; omega))
  have HL4 := Lib.hid (HL3.out.alloc HL3.out.size (.cells #[.bool np, .string sp, .bool mp, .string tp] 25))
  have HB4 := Lib.hid (HB3.out.push (w3.heap.size) #[.bool np, .string sp, .bool mp, .string tp] 25 (by first | rfl | simp))
  clear HL3 HB3
  go_wp2_with fail
  refine (H4.out _).mono ?_
  rintro e w4 ⟨rfl, hb⟩
  have HL5 := Lib.hid (bstep HL4.out hb)
  have HB5 := Lib.hid (HB4.out.bel hb)
  clear hb
  clear HL4 HB4
  go_wp2_with fail
  refine (H2.out _).mono ?_
  rintro e w5 ⟨rfl, hb⟩
  have HL6 := Lib.hid (bstep HL5.out hb)
  have HB6 := Lib.hid (HB5.out.bel hb)
  clear hb
  clear HL5 HB5
  go_wp2_with fail
  refine (H5.out _).mono ?_
  rintro e w6 ⟨rfl, hb⟩
  have HL7 := Lib.hid (bstep HL6.out hb)
  have HB7 := Lib.hid (HB6.out.bel hb)
  clear hb
  clear HL6 HB6
  have HO1 := Lib.hid (show w3.heap.size < w6.heap.size from by have := (HB7.out.1).lt; first | omega | (simp at this; omega))
  have HL8 := Lib.hid (HL7.out.alloc HL7.out.size (.cells #[.bool np, .string sp, .bool mp, .string tp] 25))
  have HB8 := Lib.hid (HB7.out.push (w6.heap.size) #[.bool np, .string sp, .bool mp, .string tp] 25 (by first | rfl | simp))
  clear HL7 HB7
  go_wp2_with fail
  refine (H6.out _).mono ?_
  rintro e w7 ⟨rfl, hb⟩
  have HL9 := Lib.hid (bstep HL8.out hb)
  have HB9 := Lib.hid (HB8.out.bel hb)
  clear hb
  clear HL8 HB8
  go_wp2_with fail
  refine (H7.out _).mono ?_
  rintro e w8 ⟨rfl, hb⟩
  have HL10 := Lib.hid (bstep HL9.out hb)
  have HB10 := Lib.hid (HB9.out.bel hb)
  clear hb
  clear HL9 HB9
  go_wp2_with fail
  refine (H8.out _).mono ?_
  rintro e w9 ⟨rfl, hb⟩
  have HL11 := Lib.hid (bstep HL10.out hb)
  have HB11 := Lib.hid (HB10.out.bel hb)
  clear hb
  clear HL10 HB10
  have HO2 := Lib.hid (show w6.heap.size < w9.heap.size from by have := (HB11.out.1).lt; first | omega | (simp at this; omega))
  have HL12 := Lib.hid (HL11.out.alloc HL11.out.size (.cells #[.bool nz, .string sz, .bool mz, .string tz] 25))
  have HB12 := Lib.hid (HB11.out.push (w9.heap.size) #[.bool nz, .string sz, .bool mz, .string tz] 25 (by first | rfl | simp))
  clear HL11 HB11
  go_wp2_with fail
  refine (H9.out _).mono ?_
  rintro e w10 ⟨rfl, hb⟩
  have HL13 := Lib.hid (bstep HL12.out hb)
  have HB13 := Lib.hid (HB12.out.bel hb)
  clear hb
  clear HL12 HB12
  have HO3 := Lib.hid (show w9.heap.size < w10.heap.size from by have := (HB13.out.1).lt; first | omega | (simp at this; omega))
  have HL14 := Lib.hid (HL13.out.alloc HL13.out.size (.cells #[.bool nh, .string sh, .bool mh, .string th] 25))
  have HB14 := Lib.hid (HB13.out.push (w10.heap.size) #[.bool nh, .string sh, .bool mh, .string th] 25 (by first | rfl | simp))
  clear HL13 HB13
  go_wp2_with fail
  refine (H10.out _).mono ?_
  rintro e w11 ⟨rfl, hb⟩
  have HL15 := Lib.hid (bstep HL14.out hb)
  have HB15 := Lib.hid (HB14.out.bel hb)
  clear hb
  clear HL14 HB14
  have HO4 := Lib.hid (show w10.heap.size < w11.heap.size from by have := (HB15.out.1).lt; first | omega | (simp at this; omega))
  have HL16 := Lib.hid (HL15.out.alloc HL15.out.size (.cells #[.bool false, .string ⟨#[]⟩, .bool false, .string ⟨#[]⟩] 25))
  have HB16 := Lib.hid (HB15.out.push (w11.heap.size) #[.bool false, .string ⟨#[]⟩, .bool false, .string ⟨#[]⟩] 25 (by first | rfl | simp))
  clear HL15 HB15
  go_wp2_with fail
  obtain ⟨Bw3, hB⟩ : ∃ B, w3.heap.size = B := ⟨_, rfl⟩
  rw [hB] at HB16 ⊢
  try rw [hB] at HO0
  try rw [hB] at HO1
  try rw [hB] at HO2
  try rw [hB] at HO3
  try rw [hB] at HO4
  clear hB
  obtain ⟨Bw6, hB⟩ : ∃ B, w6.heap.size = B := ⟨_, rfl⟩
  rw [hB] at HB16 ⊢
  try rw [hB] at HO0
  try rw [hB] at HO1
  try rw [hB] at HO2
  try rw [hB] at HO3
  try rw [hB] at HO4
  clear hB
  obtain ⟨Bw9, hB⟩ : ∃ B, w9.heap.size = B := ⟨_, rfl⟩
  rw [hB] at HB16 ⊢
  try rw [hB] at HO0
  try rw [hB] at HO1
  try rw [hB] at HO2
  try rw [hB] at HO3
  try rw [hB] at HO4
  clear hB
  obtain ⟨Bw10, hB⟩ : ∃ B, w10.heap.size = B := ⟨_, rfl⟩
  rw [hB] at HB16 ⊢
  try rw [hB] at HO0
  try rw [hB] at HO1
  try rw [hB] at HO2
  try rw [hB] at HO3
  try rw [hB] at HO4
  clear hB
  obtain ⟨Bw11, hB⟩ : ∃ B, w11.heap.size = B := ⟨_, rfl⟩
  rw [hB] at HB16 ⊢
  try rw [hB] at HO0
  try rw [hB] at HO1
  try rw [hB] at HO2
  try rw [hB] at HO3
  try rw [hB] at HO4
  clear hB
  obtain ⟨W12, hW⟩ : ∃ W, (w11.alloc (.cells #[.bool false, .string ⟨#[]⟩, .bool false, .string ⟨#[]⟩] 25)) = W := ⟨_, rfl⟩
  rw [hW] at HB16 HL16 ⊢
  clear hW
  haveI := cls_some W12
  have fq0_0 : ∀ u : Cl W12, u.x.cell? ⟨Bw3, 0, none⟩ = some (.bool np) := fun u => ((HB16.out.bel u.h).2.2.2.2.1).at 0 (.bool np) rfl
  have fq0_1 : ∀ u : Cl W12, u.x.cell? ⟨Bw3, 1, none⟩ = some (.string sp) := fun u => ((HB16.out.bel u.h).2.2.2.2.1).at 1 (.string sp) rfl
  have fq0_2 : ∀ u : Cl W12, u.x.cell? ⟨Bw3, 2, none⟩ = some (.bool mp) := fun u => ((HB16.out.bel u.h).2.2.2.2.1).at 2 (.bool mp) rfl
  have fq0_3 : ∀ u : Cl W12, u.x.cell? ⟨Bw3, 3, none⟩ = some (.string tp) := fun u => ((HB16.out.bel u.h).2.2.2.2.1).at 3 (.string tp) rfl
  have fq1_0 : ∀ u : Cl W12, u.x.cell? ⟨Bw6, 0, none⟩ = some (.bool np) := fun u => ((HB16.out.bel u.h).2.2.2.1).at 0 (.bool np) rfl
  have fq1_1 : ∀ u : Cl W12, u.x.cell? ⟨Bw6, 1, none⟩ = some (.string sp) := fun u => ((HB16.out.bel u.h).2.2.2.1).at 1 (.string sp) rfl
  have fq1_2 : ∀ u : Cl W12, u.x.cell? ⟨Bw6, 2, none⟩ = some (.bool mp) := fun u => ((HB16.out.bel u.h).2.2.2.1).at 2 (.bool mp) rfl
  have fq1_3 : ∀ u : Cl W12, u.x.cell? ⟨Bw6, 3, none⟩ = some (.string tp) := fun u => ((HB16.out.bel u.h).2.2.2.1).at 3 (.string tp) rfl
  have fq2_0 : ∀ u : Cl W12, u.x.cell? ⟨Bw9, 0, none⟩ = some (.bool nz) := fun u => ((HB16.out.bel u.h).2.2.1).at 0 (.bool nz) rfl
  have fq2_1 : ∀ u : Cl W12, u.x.cell? ⟨Bw9, 1, none⟩ = some (.string sz) := fun u => ((HB16.out.bel u.h).2.2.1).at 1 (.string sz) rfl
  have fq2_2 : ∀ u : Cl W12, u.x.cell? ⟨Bw9, 2, none⟩ = some (.bool mz) := fun u => ((HB16.out.bel u.h).2.2.1).at 2 (.bool mz) rfl
  have fq2_3 : ∀ u : Cl W12, u.x.cell? ⟨Bw9, 3, none⟩ = some (.string tz) := fun u => ((HB16.out.bel u.h).2.2.1).at 3 (.string tz) rfl
  have fq3_0 : ∀ u : Cl W12, u.x.cell? ⟨Bw10, 0, none⟩ = some (.bool nh) := fun u => ((HB16.out.bel u.h).2.1).at 0 (.bool nh) rfl
  have fq3_1 : ∀ u : Cl W12, u.x.cell? ⟨Bw10, 1, none⟩ = some (.string sh) := fun u => ((HB16.out.bel u.h).2.1).at 1 (.string sh) rfl
  have fq3_2 : ∀ u : Cl W12, u.x.cell? ⟨Bw10, 2, none⟩ = some (.bool mh) := fun u => ((HB16.out.bel u.h).2.1).at 2 (.bool mh) rfl
  have fq3_3 : ∀ u : Cl W12, u.x.cell? ⟨Bw10, 3, none⟩ = some (.string th) := fun u => ((HB16.out.bel u.h).2.1).at 3 (.string th) rfl
  refine wp_region_cls (by kernel_rfl) ?_
  iterate 20 (go_big_quiet_step (fail))
  go_big_quiet_step ((go_at_call 18; exact quiet_cls H1.out _))
  iterate 9 (go_big_quiet_step (fail))
  go_big_quiet_step ((go_at_call 18; exact quiet_cls H11.out _))
  iterate 4 (go_big_quiet_step (fail))
  go_big_quiet_step ((go_at_call 18; exact quiet_cls H12.out _))
  iterate 4 (go_big_quiet_step (fail))
  go_big_quiet_step ((go_at_call 30; exact quiet_cls H13.out _))
  go_big_quiet_step ((go_at_call 24; exact quiet_cls H14.out _))
  iterate 4 (go_big_quiet_step (fail))
  go_big_quiet_step ((go_at_call 13; exact quiet_cls H15.out _))
  iterate 4 (go_big_quiet_step (fail))
  go_big_quiet_step ((go_at_call 14; exact quiet_cls H16.out _))
  iterate 4 (go_big_quiet_step (fail))
  go_big_quiet_step ((go_at_call 14; exact quiet_cls H17.out _))
  iterate 3 (go_big_quiet_step (fail))
  refine wpQuiet_nil ?_
  intro w13 hw9
  have hb : Below W12.heap.size W12 w13 := by obtain ⟨u, rfl⟩ := hw9; exact u.h
  clear hw9 this fq0_0 fq0_1 fq0_2 fq0_3 fq1_0 fq1_1 fq1_2 fq1_3 fq2_0 fq2_1 fq2_2 fq2_3 fq3_0 fq3_1 fq3_2 fq3_3
  have HL17 := Lib.hid (bstep HL16.out hb)
  have HB17 := Lib.hid (HB16.out.bel hb)
  clear hb
  clear HL16 HB16
  go_wp2
  go_ret
  exact ⟨rfl, HL17.out⟩
end Go.Proofs.Gv
