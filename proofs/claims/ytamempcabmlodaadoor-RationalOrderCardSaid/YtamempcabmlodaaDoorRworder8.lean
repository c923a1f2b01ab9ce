/- Layer 02: functions of rational, walked over the results of what they call (printed by gen02f.py). -/
import Derived.Test.YtamempcabmlodaaDoorRatTabP
import Derived.Test.YtamempcabmlodaaDoorRworder1P
set_option linter.unusedSimpArgs false
set_option linter.unusedVariables false
namespace Go.Proofs.Gv
open Go Go.RowKit

set_option maxRecDepth 100000 in
set_option maxHeartbeats 4000000 in
theorem order_zz1 {nz mz nu mu nv mv np mp nq mq : Bool} {sz tz su tu sv tv sp tp sq tq : ByteArray} (na ma : Bool) (sa ta : ByteArray) (nb mb : Bool) (sb tb : ByteArray) (nc mc : Bool) (sc tc : ByteArray) (hgz : ∀ x ∈ ([(na, sa, ma, ta), (nb, sb, mb, tb), (nc, sc, mc, tc)] : List (Bool × ByteArray × Bool × ByteArray)), x.2.1.size ≤ maxLen ∧ x.2.2.2.size ≤ maxLen) (hgr : grQ 24 [(na, sa, ma, ta), (nb, sb, mb, tb), (nc, sc, mc, tc)] = false) (m1 : Int) (hm : m1 ≤ 0) (l1 : Int) (hl : decide ((0 : Int) < l1) = false) (w : World)
    (H1 : ∀ W, Calls Tryd.prog 15 #[.agg #[.bool na, .string sa, .bool ma, .string ta], .agg #[.bool nb, .string sb, .bool mb, .string tb]] W fun e w' => e = .returned (.int .i64 0) ∧ Below W.heap.size W w')
    (H2 : ∀ W, Calls Tryd.prog 18 #[.int .i64 0, .int .i64 1] W fun e w' => e = .returned (.agg #[.bool nz, .string sz, .bool mz, .string tz]) ∧ Below W.heap.size W w')
    (H3 : ∀ W, Calls Tryd.prog 15 #[.agg #[.bool nb, .string sb, .bool mb, .string tb], .agg #[.bool na, .string sa, .bool ma, .string ta]] W fun e w' => e = .returned (.int .i64 0) ∧ Below W.heap.size W w')
    (H4 : ∀ W, Calls Tryd.prog 19 #[.agg #[.bool na, .string sa, .bool ma, .string ta], .agg #[.bool nb, .string sb, .bool mb, .string tb]] W fun e w' => e = .returned (.agg #[.bool nz, .string sz, .bool mz, .string tz]) ∧ Below W.heap.size W w')
    (H5 : ∀ W, Calls Tryd.prog 15 #[.agg #[.bool nb, .string sb, .bool mb, .string tb], .agg #[.bool nc, .string sc, .bool mc, .string tc]] W fun e w' => e = .returned (.int .i64 m1) ∧ Below W.heap.size W w')
    (H6 : ∀ W, Calls Tryd.prog 15 #[.agg #[.bool na, .string sa, .bool ma, .string ta], .agg #[.bool nc, .string sc, .bool mc, .string tc]] W fun e w' => e = .returned (.int .i64 l1) ∧ Below W.heap.size W w')
    (H7 : ∀ W, Calls Tryd.prog 15 #[.agg #[.bool nc, .string sc, .bool mc, .string tc], .agg #[.bool nz, .string sz, .bool mz, .string tz]] W fun e w' => e = .returned (.int .i64 0) ∧ Below W.heap.size W w')
    (H8 : ∀ W, Calls Tryd.prog 16 #[.agg #[.bool na, .string sa, .bool ma, .string ta], .agg #[.bool nc, .string sc, .bool mc, .string tc]] W fun e w' => e = .returned (.agg #[.bool nu, .string su, .bool mu, .string tu]) ∧ Below W.heap.size W w')
    (H9 : ∀ W, Calls Tryd.prog 16 #[.agg #[.bool nb, .string sb, .bool mb, .string tb], .agg #[.bool nc, .string sc, .bool mc, .string tc]] W fun e w' => e = .returned (.agg #[.bool nv, .string sv, .bool mv, .string tv]) ∧ Below W.heap.size W w')
    (H10 : ∀ W, Calls Tryd.prog 15 #[.agg #[.bool nu, .string su, .bool mu, .string tu], .agg #[.bool nv, .string sv, .bool mv, .string tv]] W fun e w' => e = .returned (.int .i64 0) ∧ Below W.heap.size W w')
    (H11 : ∀ W, Calls Tryd.prog 17 #[.agg #[.bool na, .string sa, .bool ma, .string ta], .agg #[.bool nc, .string sc, .bool mc, .string tc]] W fun e w' => e = .returned (.agg #[.bool np, .string sp, .bool mp, .string tp]) ∧ Below W.heap.size W w')
    (H12 : ∀ W, Calls Tryd.prog 17 #[.agg #[.bool nb, .string sb, .bool mb, .string tb], .agg #[.bool nc, .string sc, .bool mc, .string tc]] W fun e w' => e = .returned (.agg #[.bool nq, .string sq, .bool mq, .string tq]) ∧ Below W.heap.size W w')
    (H13 : ∀ W, Calls Tryd.prog 15 #[.agg #[.bool np, .string sp, .bool mp, .string tp], .agg #[.bool nq, .string sq, .bool mq, .string tq]] W fun e w' => e = .returned (.int .i64 0) ∧ Below W.heap.size W w')
    (H14 : ∀ W, Calls Tryd.prog 11 #[] W fun e w' => e = .returned (.bool true) ∧ Below W.heap.size W w')
    : Calls Tryd.prog 5 #[.agg #[.bool na, .string sa, .bool ma, .string ta], .agg #[.bool nb, .string sb, .bool mb, .string tb], .agg #[.bool nc, .string sc, .bool mc, .string tc]] w fun e w' => e = .returned (.bool true) ∧ Below w.heap.size w w' := by
  replace H1 := Lib.hid H1
  replace H2 := Lib.hid H2
  replace H3 := Lib.hid H3
  replace H4 := Lib.hid H4
  replace H5 := Lib.hid H5
  replace H6 := Lib.hid H6
  replace H7 := Lib.hid H7
  replace H8 := Lib.hid H8
  replace H9 := Lib.hid H9
  replace H10 := Lib.hid H10
  replace H11 := Lib.hid H11
  replace H12 := Lib.hid H12
  replace H13 := Lib.hid H13
  replace H14 := Lib.hid H14
  have HGZ := Lib.hid hgz
  clear hgz
  have qz : eqQ nz sz mz tz nz sz mz tz = true := eqQ_iff.2 ⟨⟨rfl, rfl⟩, ⟨rfl, rfl⟩⟩
  go_enter Tryd.func5, Tryd.ntmps5
  have HL0 := Lib.hid (Below.refl w.heap.size w)
  have HB0 := Lib.hid (show Bs [] w from trivial)
  have HO0 := Lib.hid (show w.heap.size ≤ w.heap.size from by have := HL0.out.size; first | omega | (simp at this; omega))
  have HL1 := Lib.hid (HL0.out.alloc HL0.out.size (.cells #[.bool na, .string sa, .bool ma, .string ta] 25))
  have HB1 := Lib.hid (HB0.out.push (w.heap.size) #[.bool na, .string sa, .bool ma, .string ta] 25 (by first | rfl | simp))
  clear HL0 HB0
  have HO1 := Lib.hid (show w.heap.size < w.heap.size + 1 from by have := (HB1.out.1).lt; first | omega | (simp at this; omega))
  have HL2 := Lib.hid (HL1.out.alloc HL1.out.size (.cells #[.bool nb, .string sb, .bool mb, .string tb] 25))
  have HB2 := Lib.hid (HB1.out.push (w.heap.size + 1) #[.bool nb, .string sb, .bool mb, .string tb] 25 (by first | rfl | simp))
  clear HL1 HB1
  have HO2 := Lib.hid (show w.heap.size + 1 < w.heap.size + 1 + 1 from by have := (HB2.out.1).lt; first | omega | (simp at this; omega))
  have HL3 := Lib.hid (HL2.out.alloc HL2.out.size (.cells #[.bool nc, .string sc, .bool mc, .string tc] 25))
  have HB3 := Lib.hid (HB2.out.push (w.heap.size + 1 + 1) #[.bool nc, .string sc, .bool mc, .string tc] 25 (by first | rfl | simp))
  clear HL2 HB2
  have fx0_0_3 := (HB3.out.2.2.1).at 0 (.bool na) rfl
  have fx0_1_3 := (HB3.out.2.2.1).at 1 (.string sa) rfl
  have fx0_2_3 := (HB3.out.2.2.1).at 2 (.bool ma) rfl
  have fx0_3_3 := (HB3.out.2.2.1).at 3 (.string ta) rfl
  have fx1_0_3 := (HB3.out.2.1).at 0 (.bool nb) rfl
  have fx1_1_3 := (HB3.out.2.1).at 1 (.string sb) rfl
  have fx1_2_3 := (HB3.out.2.1).at 2 (.bool mb) rfl
  have fx1_3_3 := (HB3.out.2.1).at 3 (.string tb) rfl
  have fx2_0_3 := (HB3.out.1).at 0 (.bool nc) rfl
  have fx2_1_3 := (HB3.out.1).at 1 (.string sc) rfl
  have fx2_2_3 := (HB3.out.1).at 2 (.bool mc) rfl
  have fx2_3_3 := (HB3.out.1).at 3 (.string tc) rfl
  have HO3 := Lib.hid (show w.heap.size + 1 + 1 < w.heap.size + 1 + 1 + 1 from by have := (HB3.out.1).lt; first | omega | (simp at this; omega))
  have HL4 := Lib.hid (HL3.out.alloc HL3.out.size (.cells #[.bool na, .string sa, .bool ma, .string ta, .bool nb, .string sb, .bool mb, .string tb, .bool nc, .string sc, .bool mc, .string tc] 25))
  have HB4 := Lib.hid (HB3.out.push (w.heap.size + 1 + 1 + 1) #[.bool na, .string sa, .bool ma, .string ta, .bool nb, .string sb, .bool mb, .string tb, .bool nc, .string sc, .bool mc, .string tc] 25 (by first | rfl | simp))
  clear HL3 HB3
  go_wp2_with fail
  refine (greatQ_box [(na, sa, ma, ta), (nb, sb, mb, tb), (nc, sc, mc, tc)] (HB4.out.1) (show 3 ≤ 1000 by decide) HGZ.out).mono ?_
  rintro e w1 ⟨rfl, hb⟩
  have HL5 := Lib.hid (bstep HL4.out hb)
  have HB5 := Lib.hid (HB4.out.bel hb)
  clear hb
  clear HL4 HB4 fx0_0_3 fx0_1_3 fx0_2_3 fx0_3_3 fx1_0_3 fx1_1_3 fx1_2_3 fx1_3_3 fx2_0_3 fx2_1_3 fx2_2_3 fx2_3_3
  have fx0_0_5 := (HB5.out.2.2.2.1).at 0 (.bool na) rfl
  have fx0_1_5 := (HB5.out.2.2.2.1).at 1 (.string sa) rfl
  have fx0_2_5 := (HB5.out.2.2.2.1).at 2 (.bool ma) rfl
  have fx0_3_5 := (HB5.out.2.2.2.1).at 3 (.string ta) rfl
  have fx1_0_5 := (HB5.out.2.2.1).at 0 (.bool nb) rfl
  have fx1_1_5 := (HB5.out.2.2.1).at 1 (.string sb) rfl
  have fx1_2_5 := (HB5.out.2.2.1).at 2 (.bool mb) rfl
  have fx1_3_5 := (HB5.out.2.2.1).at 3 (.string tb) rfl
  go_wp2_with fail
  refine (H1.out _).mono ?_
  rintro e w2 ⟨rfl, hb⟩
  have HL6 := Lib.hid (bstep HL5.out hb)
  have HB6 := Lib.hid (HB5.out.bel hb)
  clear hb
  clear HL5 HB5 fx0_0_5 fx0_1_5 fx0_2_5 fx0_3_5 fx1_0_5 fx1_1_5 fx1_2_5 fx1_3_5
  go_wp2_with fail
  refine (H2.out _).mono ?_
  rintro e w3 ⟨rfl, hb⟩
  have HL7 := Lib.hid (bstep HL6.out hb)
  have HB7 := Lib.hid (HB6.out.bel hb)
  clear hb
  clear HL6 HB6
  have HO4 := Lib.hid (show w.heap.size + 1 + 1 + 1 < w3.heap.size from by have := (HB7.out.1).lt; first | omega | (simp at this; omega))
  have HL8 := Lib.hid (HL7.out.alloc HL7.out.size (.cells #[.bool nz, .string sz, .bool mz, .string tz] 25))
  have HB8 := Lib.hid (HB7.out.push (w3.heap.size) #[.bool nz, .string sz, .bool mz, .string tz] 25 (by first | rfl | simp))
  clear HL7 HB7
  go_wp2_with fail
  obtain ⟨Bw3, hB⟩ : ∃ B, w3.heap.size = B := ⟨_, rfl⟩
  rw [hB] at HB8 ⊢
  try rw [hB] at HO0
  try rw [hB] at HO1
  try rw [hB] at HO2
  try rw [hB] at HO3
  try rw [hB] at HO4
  clear hB
  obtain ⟨W4, hW⟩ : ∃ W, (w3.alloc (.cells #[.bool nz, .string sz, .bool mz, .string tz] 25)) = W := ⟨_, rfl⟩
  rw [hW] at HB8 HL8 ⊢
  clear hW
  haveI := cls_some W4
  have fq1_0 : ∀ u : Cl W4, u.x.cell? ⟨w.heap.size + 1, 0, none⟩ = some (.bool nb) := fun u => ((HB8.out.bel u.h).2.2.2.1).at 0 (.bool nb) rfl
  have fq1_1 : ∀ u : Cl W4, u.x.cell? ⟨w.heap.size + 1, 1, none⟩ = some (.string sb) := fun u => ((HB8.out.bel u.h).2.2.2.1).at 1 (.string sb) rfl
  have fq1_2 : ∀ u : Cl W4, u.x.cell? ⟨w.heap.size + 1, 2, none⟩ = some (.bool mb) := fun u => ((HB8.out.bel u.h).2.2.2.1).at 2 (.bool mb) rfl
  have fq1_3 : ∀ u : Cl W4, u.x.cell? ⟨w.heap.size + 1, 3, none⟩ = some (.string tb) := fun u => ((HB8.out.bel u.h).2.2.2.1).at 3 (.string tb) rfl
  have fq0_0 : ∀ u : Cl W4, u.x.cell? ⟨w.heap.size, 0, none⟩ = some (.bool na) := fun u => ((HB8.out.bel u.h).2.2.2.2.1).at 0 (.bool na) rfl
  have fq0_1 : ∀ u : Cl W4, u.x.cell? ⟨w.heap.size, 1, none⟩ = some (.string sa) := fun u => ((HB8.out.bel u.h).2.2.2.2.1).at 1 (.string sa) rfl
  have fq0_2 : ∀ u : Cl W4, u.x.cell? ⟨w.heap.size, 2, none⟩ = some (.bool ma) := fun u => ((HB8.out.bel u.h).2.2.2.2.1).at 2 (.bool ma) rfl
  have fq0_3 : ∀ u : Cl W4, u.x.cell? ⟨w.heap.size, 3, none⟩ = some (.string ta) := fun u => ((HB8.out.bel u.h).2.2.2.2.1).at 3 (.string ta) rfl
  have fq4_0 : ∀ u : Cl W4, u.x.cell? ⟨Bw3, 0, none⟩ = some (.bool nz) := fun u => ((HB8.out.bel u.h).1).at 0 (.bool nz) rfl
  have fq4_1 : ∀ u : Cl W4, u.x.cell? ⟨Bw3, 1, none⟩ = some (.string sz) := fun u => ((HB8.out.bel u.h).1).at 1 (.string sz) rfl
  have fq4_2 : ∀ u : Cl W4, u.x.cell? ⟨Bw3, 2, none⟩ = some (.bool mz) := fun u => ((HB8.out.bel u.h).1).at 2 (.bool mz) rfl
  have fq4_3 : ∀ u : Cl W4, u.x.cell? ⟨Bw3, 3, none⟩ = some (.string tz) := fun u => ((HB8.out.bel u.h).1).at 3 (.string tz) rfl
  refine wp_region_cls (by kernel_rfl) ?_
  iterate 10 (go_big_quiet_step (fail))
  go_big_quiet_step ((go_at_call 15; exact quiet_cls H3.out _))
  iterate 8 (go_big_quiet_step (fail))
  go_big_quiet_step ((go_at_call 19; exact quiet_cls H4.out _))
  iterate 4 (go_big_quiet_step (fail))
  refine wpQuiet_nil ?_
  intro w5 hw9
  have hb : Below W4.heap.size W4 w5 := by obtain ⟨u, rfl⟩ := hw9; exact u.h
  clear hw9 this fq1_0 fq1_1 fq1_2 fq1_3 fq0_0 fq0_1 fq0_2 fq0_3 fq4_0 fq4_1 fq4_2 fq4_3
  have HL9 := Lib.hid (bstep HL8.out hb)
  have HB9 := Lib.hid (HB8.out.bel hb)
  clear hb
  clear HL8 HB8
  have fx1_0_9 := (HB9.out.2.2.2.1).at 0 (.bool nb) rfl
  have fx1_1_9 := (HB9.out.2.2.2.1).at 1 (.string sb) rfl
  have fx1_2_9 := (HB9.out.2.2.2.1).at 2 (.bool mb) rfl
  have fx1_3_9 := (HB9.out.2.2.2.1).at 3 (.string tb) rfl
  have fx2_0_9 := (HB9.out.2.2.1).at 0 (.bool nc) rfl
  have fx2_1_9 := (HB9.out.2.2.1).at 1 (.string sc) rfl
  have fx2_2_9 := (HB9.out.2.2.1).at 2 (.bool mc) rfl
  have fx2_3_9 := (HB9.out.2.2.1).at 3 (.string tc) rfl
  go_wp2_with fail
  refine (H5.out _).mono ?_
  rintro e w6 ⟨rfl, hb⟩
  have HL10 := Lib.hid (bstep HL9.out hb)
  have HB10 := Lib.hid (HB9.out.bel hb)
  clear hb
  clear HL9 HB9 fx1_0_9 fx1_1_9 fx1_2_9 fx1_3_9 fx2_0_9 fx2_1_9 fx2_2_9 fx2_3_9
  have fx0_0_10 := (HB10.out.2.2.2.2.1).at 0 (.bool na) rfl
  have fx0_1_10 := (HB10.out.2.2.2.2.1).at 1 (.string sa) rfl
  have fx0_2_10 := (HB10.out.2.2.2.2.1).at 2 (.bool ma) rfl
  have fx0_3_10 := (HB10.out.2.2.2.2.1).at 3 (.string ta) rfl
  have fx2_0_10 := (HB10.out.2.2.1).at 0 (.bool nc) rfl
  have fx2_1_10 := (HB10.out.2.2.1).at 1 (.string sc) rfl
  have fx2_2_10 := (HB10.out.2.2.1).at 2 (.bool mc) rfl
  have fx2_3_10 := (HB10.out.2.2.1).at 3 (.string tc) rfl
  go_wp2_with fail
  refine (H6.out _).mono ?_
  rintro e w7 ⟨rfl, hb⟩
  have HL11 := Lib.hid (bstep HL10.out hb)
  have HB11 := Lib.hid (HB10.out.bel hb)
  clear hb
  clear HL10 HB10 fx0_0_10 fx0_1_10 fx0_2_10 fx0_3_10 fx2_0_10 fx2_1_10 fx2_2_10 fx2_3_10
  have fx2_0_11 := (HB11.out.2.2.1).at 0 (.bool nc) rfl
  have fx2_1_11 := (HB11.out.2.2.1).at 1 (.string sc) rfl
  have fx2_2_11 := (HB11.out.2.2.1).at 2 (.bool mc) rfl
  have fx2_3_11 := (HB11.out.2.2.1).at 3 (.string tc) rfl
  have fx4_0_11 := (HB11.out.1).at 0 (.bool nz) rfl
  have fx4_1_11 := (HB11.out.1).at 1 (.string sz) rfl
  have fx4_2_11 := (HB11.out.1).at 2 (.bool mz) rfl
  have fx4_3_11 := (HB11.out.1).at 3 (.string tz) rfl
  go_wp2_with fail
  refine (H7.out _).mono ?_
  rintro e w8 ⟨rfl, hb⟩
  have HL12 := Lib.hid (bstep HL11.out hb)
  have HB12 := Lib.hid (HB11.out.bel hb)
  clear hb
  clear HL11 HB11 fx2_0_11 fx2_1_11 fx2_2_11 fx2_3_11 fx4_0_11 fx4_1_11 fx4_2_11 fx4_3_11
  go_wp2_with fail
  haveI := cls_some w8
  have fq0_0 : ∀ u : Cl w8, u.x.cell? ⟨w.heap.size, 0, none⟩ = some (.bool na) := fun u => ((HB12.out.bel u.h).2.2.2.2.1).at 0 (.bool na) rfl
  have fq0_1 : ∀ u : Cl w8, u.x.cell? ⟨w.heap.size, 1, none⟩ = some (.string sa) := fun u => ((HB12.out.bel u.h).2.2.2.2.1).at 1 (.string sa) rfl
  have fq0_2 : ∀ u : Cl w8, u.x.cell? ⟨w.heap.size, 2, none⟩ = some (.bool ma) := fun u => ((HB12.out.bel u.h).2.2.2.2.1).at 2 (.bool ma) rfl
  have fq0_3 : ∀ u : Cl w8, u.x.cell? ⟨w.heap.size, 3, none⟩ = some (.string ta) := fun u => ((HB12.out.bel u.h).2.2.2.2.1).at 3 (.string ta) rfl
  have fq2_0 : ∀ u : Cl w8, u.x.cell? ⟨w.heap.size + 1 + 1, 0, none⟩ = some (.bool nc) := fun u => ((HB12.out.bel u.h).2.2.1).at 0 (.bool nc) rfl
  have fq2_1 : ∀ u : Cl w8, u.x.cell? ⟨w.heap.size + 1 + 1, 1, none⟩ = some (.string sc) := fun u => ((HB12.out.bel u.h).2.2.1).at 1 (.string sc) rfl
  have fq2_2 : ∀ u : Cl w8, u.x.cell? ⟨w.heap.size + 1 + 1, 2, none⟩ = some (.bool mc) := fun u => ((HB12.out.bel u.h).2.2.1).at 2 (.bool mc) rfl
  have fq2_3 : ∀ u : Cl w8, u.x.cell? ⟨w.heap.size + 1 + 1, 3, none⟩ = some (.string tc) := fun u => ((HB12.out.bel u.h).2.2.1).at 3 (.string tc) rfl
  have fq1_0 : ∀ u : Cl w8, u.x.cell? ⟨w.heap.size + 1, 0, none⟩ = some (.bool nb) := fun u => ((HB12.out.bel u.h).2.2.2.1).at 0 (.bool nb) rfl
  have fq1_1 : ∀ u : Cl w8, u.x.cell? ⟨w.heap.size + 1, 1, none⟩ = some (.string sb) := fun u => ((HB12.out.bel u.h).2.2.2.1).at 1 (.string sb) rfl
  have fq1_2 : ∀ u : Cl w8, u.x.cell? ⟨w.heap.size + 1, 2, none⟩ = some (.bool mb) := fun u => ((HB12.out.bel u.h).2.2.2.1).at 2 (.bool mb) rfl
  have fq1_3 : ∀ u : Cl w8, u.x.cell? ⟨w.heap.size + 1, 3, none⟩ = some (.string tb) := fun u => ((HB12.out.bel u.h).2.2.2.1).at 3 (.string tb) rfl
  refine wp_region_cls (by kernel_rfl) ?_
  iterate 2 (go_big_quiet_step (fail))
  go_big_quiet_step ((go_at_call 16; exact quiet_cls H8.out _))
  iterate 2 (go_big_quiet_step (fail))
  go_big_quiet_step ((go_at_call 16; exact quiet_cls H9.out _))
  go_big_quiet_step ((go_at_call 15; exact quiet_cls H10.out _))
  iterate 5 (go_big_quiet_step (fail))
  go_big_quiet_step ((go_at_call 17; exact quiet_cls H11.out _))
  iterate 2 (go_big_quiet_step (fail))
  go_big_quiet_step ((go_at_call 17; exact quiet_cls H12.out _))
  go_big_quiet_step ((go_at_call 15; exact quiet_cls H13.out _))
  iterate 6 (go_big_quiet_step (fail))
  go_big_quiet_step ((go_at_call 11; exact quiet_cls H14.out _))
  iterate 2 (go_big_quiet_step (fail))
  refine wpQuiet_nil ?_
  intro w9 hw9
  have hb : Below w8.heap.size w8 w9 := by obtain ⟨u, rfl⟩ := hw9; exact u.h
  clear hw9 this fq0_0 fq0_1 fq0_2 fq0_3 fq2_0 fq2_1 fq2_2 fq2_3 fq1_0 fq1_1 fq1_2 fq1_3
  have HL13 := Lib.hid (bstep HL12.out hb)
  have HB13 := Lib.hid (HB12.out.bel hb)
  clear hb
  clear HL12 HB12
  go_wp2
  go_ret
  exact ⟨rfl, HL13.out⟩
end Go.Proofs.Gv
