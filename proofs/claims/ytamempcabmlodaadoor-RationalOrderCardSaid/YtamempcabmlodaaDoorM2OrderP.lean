/- Layer 02: functions of rational, walked over the results of what they call (printed by gen02f.py). -/
import Derived.Test.YtamempcabmlodaaDoorRatTabP
import Derived.Test.YtamempcabmlodaaDoorRworder1P
import Derived.Test.YtamempcabmlodaaDoorRworder3P
import Derived.Test.YtamempcabmlodaaDoorRworder4
import Derived.Test.YtamempcabmlodaaDoorRworder5
import Derived.Test.YtamempcabmlodaaDoorRworder6
import Derived.Test.YtamempcabmlodaaDoorRworder7
import Derived.Test.YtamempcabmlodaaDoorRworder8
import Derived.Test.YtamempcabmlodaaDoorRworder9
import Derived.Test.YtamempcabmlodaaDoorRworder10
import Derived.Test.YtamempcabmlodaaDoorRworder11
import Derived.Test.YtamempcabmlodaaDoorRworder12
import Derived.Test.YtamempcabmlodaaDoorRworder13
import Derived.Test.YtamempcabmlodaaDoorRworder14
import Derived.Test.YtamempcabmlodaaDoorRworder15
set_option linter.unusedSimpArgs false
set_option linter.unusedVariables false
namespace Go.Proofs.Gv
open Go Go.RowKit

set_option maxRecDepth 100000 in
set_option maxHeartbeats 4000000 in
theorem order_mm1 {nu mu nv mv np mp nq mq : Bool} {su tu sv tv sp tp sq tq : ByteArray} (na ma : Bool) (sa ta : ByteArray) (nb mb : Bool) (sb tb : ByteArray) (nc mc : Bool) (sc tc : ByteArray) (hgz : ∀ x ∈ ([(na, sa, ma, ta), (nb, sb, mb, tb), (nc, sc, mc, tc)] : List (Bool × ByteArray × Bool × ByteArray)), x.2.1.size ≤ maxLen ∧ x.2.2.2.size ≤ maxLen) (hgr : grQ 24 [(na, sa, ma, ta), (nb, sb, mb, tb), (nc, sc, mc, tc)] = false) (nd md nz mz : Bool) (sd td sz tz : ByteArray) (hq : eqQ nd sd md td nz sz mz tz = false) (m1 : Int) (hm : m1 ≤ 0) (l1 : Int) (hl : decide ((0 : Int) < l1) = false) (w : World)
    (H1 : ∀ W, Calls Tryd.prog 15 #[.agg #[.bool na, .string sa, .bool ma, .string ta], .agg #[.bool nb, .string sb, .bool mb, .string tb]] W fun e w' => e = .returned (.int .i64 (-1)) ∧ Below W.heap.size W w')
    (H2 : ∀ W, Calls Tryd.prog 18 #[.int .i64 0, .int .i64 1] W fun e w' => e = .returned (.agg #[.bool nz, .string sz, .bool mz, .string tz]) ∧ Below W.heap.size W w')
    (H3 : ∀ W, Calls Tryd.prog 15 #[.agg #[.bool nb, .string sb, .bool mb, .string tb], .agg #[.bool na, .string sa, .bool ma, .string ta]] W fun e w' => e = .returned (.int .i64 1) ∧ Below W.heap.size W w')
    (H4 : ∀ W, Calls Tryd.prog 19 #[.agg #[.bool na, .string sa, .bool ma, .string ta], .agg #[.bool nb, .string sb, .bool mb, .string tb]] W fun e w' => e = .returned (.agg #[.bool nd, .string sd, .bool md, .string td]) ∧ Below W.heap.size W w')
    (H5 : ∀ W, Calls Tryd.prog 15 #[.agg #[.bool nb, .string sb, .bool mb, .string tb], .agg #[.bool nc, .string sc, .bool mc, .string tc]] W fun e w' => e = .returned (.int .i64 m1) ∧ Below W.heap.size W w')
    (H6 : ∀ W, Calls Tryd.prog 15 #[.agg #[.bool na, .string sa, .bool ma, .string ta], .agg #[.bool nc, .string sc, .bool mc, .string tc]] W fun e w' => e = .returned (.int .i64 l1) ∧ Below W.heap.size W w')
    (H7 : ∀ W, Calls Tryd.prog 15 #[.agg #[.bool nc, .string sc, .bool mc, .string tc], .agg #[.bool nz, .string sz, .bool mz, .string tz]] W fun e w' => e = .returned (.int .i64 (-1)) ∧ Below W.heap.size W w')
    (H8 : ∀ W, Calls Tryd.prog 16 #[.agg #[.bool na, .string sa, .bool ma, .string ta], .agg #[.bool nc, .string sc, .bool mc, .string tc]] W fun e w' => e = .returned (.agg #[.bool nu, .string su, .bool mu, .string tu]) ∧ Below W.heap.size W w')
    (H9 : ∀ W, Calls Tryd.prog 16 #[.agg #[.bool nb, .string sb, .bool mb, .string tb], .agg #[.bool nc, .string sc, .bool mc, .string tc]] W fun e w' => e = .returned (.agg #[.bool nv, .string sv, .bool mv, .string tv]) ∧ Below W.heap.size W w')
    (H10 : ∀ W, Calls Tryd.prog 15 #[.agg #[.bool nu, .string su, .bool mu, .string tu], .agg #[.bool nv, .string sv, .bool mv, .string tv]] W fun e w' => e = .returned (.int .i64 (-1)) ∧ Below W.heap.size W w')
    (H11 : ∀ W, Calls Tryd.prog 17 #[.agg #[.bool na, .string sa, .bool ma, .string ta], .agg #[.bool nc, .string sc, .bool mc, .string tc]] W fun e w' => e = .returned (.agg #[.bool np, .string sp, .bool mp, .string tp]) ∧ Below W.heap.size W w')
    (H12 : ∀ W, Calls Tryd.prog 17 #[.agg #[.bool nb, .string sb, .bool mb, .string tb], .agg #[.bool nc, .string sc, .bool mc, .string tc]] W fun e w' => e = .returned (.agg #[.bool nq, .string sq, .bool mq, .string tq]) ∧ Below W.heap.size W w')
    (H13 : ∀ W, Calls Tryd.prog 15 #[.agg #[.bool np, .string sp, .bool mp, .string tp], .agg #[.bool nq, .string sq, .bool mq, .string tq]] W fun e w' => e = .returned (.int .i64 1) ∧ Below W.heap.size W w')
    (H14 : ∀ W, Calls Tryd.prog 11 #[] W fun e w' => e = .returned (.bool true) ∧ Below W.heap.size W w')
    : Calls Tryd.prog 5 #[.agg #[.bool na, .string sa, .bool ma, .string ta], .agg #[.bool nb, .string sb, .bool mb, .string tb], .agg #[.bool nc, .string sc, .bool mc, .string tc]] w fun e w' => e = .returned (.bool true) ∧ Below w.heap.size w w' := by
  replace H1 := Lib.hid H1
  replace H2 := Lib.hid H2
  replace H3 := Lib.hid H3
  replace H4 := Lib.hid H4
  replace H5 := Lib.hid H5
  replace H6 := Lib.hid H6
  replace H7 := Lib.hid H7
  replace H8 := Lib.hid H8
  replace H9 := Lib.hid H9
  replace H10 := Lib.hid H10
  replace H11 := Lib.hid H11
  replace H12 := Lib.hid H12
  replace H13 := Lib.hid H13
  replace H14 := Lib.hid H14
  have HGZ := Lib.hid hgz
  clear hgz
  go_enter Tryd.func5, Tryd.ntmps5
  have HL0 := Lib.hid (Below.refl w.heap.size w)
  have HB0 := Lib.hid (show Bs [] w from trivial)
  have HO0 := Lib.hid (show w.heap.size ≤ w.heap.size from by have := HL0.out.size; first | omega | (simp at this; omega))
  have HL1 := Lib.hid (HL0.out.alloc HL0.out.size (.cells #[.bool na, .string sa, .bool ma, .string ta] 25))
  have HB1 := Lib.hid (HB0.out.push (w.heap.size) #[.bool na, .string sa, .bool ma, .string ta] 25 (by first | rfl | simp))
  clear HL0 HB0
  have HO1 := Lib.hid (show w.heap.size < w.heap.size + 1 from by have := (HB1.out.1).lt; first | omega | (simp at this; omega))
  have HL2 := Lib.hid (HL1.out.alloc HL1.out.size (.cells #[.bool nb, .string sb, .bool mb, .string tb] 25))
  have HB2 := Lib.hid (HB1.out.push (w.heap.size + 1) #[.bool nb, .string sb, .bool mb, .string tb] 25 (by first | rfl | simp))
  clear HL1 HB1
  have HO2 := Lib.hid (show w.heap.size + 1 < w.heap.size + 1 + 1 from by have := (HB2.out.1).lt; first | omega | (simp at this; omega))
  have HL3 := Lib.hid (HL2.out.alloc HL2.out.size (.cells #[.bool nc, .string sc, .bool mc, .string tc] 25))
  have HB3 := Lib.hid (HB2.out.push (w.heap.size + 1 + 1) #[.bool nc, .string sc, .bool mc, .string tc] 25 (by first | rfl | simp))
  clear HL2 HB2
  have fx0_0_3 := (HB3.out.2.2.1).at 0 (.bool na) rfl
  have fx0_1_3 := (HB3.out.2.2.1).at 1 (.string sa) rfl
  have fx0_2_3 := (HB3.out.2.2.1).at 2 (.bool ma) rfl
  have fx0_3_3 := (HB3.out.2.2.1).at 3 (.string ta) rfl
  have fx1_0_3 := (HB3.out.2.1).at 0 (.bool nb) rfl
  have fx1_1_3 := (HB3.out.2.1).at 1 (.string sb) rfl
  have fx1_2_3 := (HB3.out.2.1).at 2 (.bool mb) rfl
  have fx1_3_3 := (HB3.out.2.1).at 3 (.string tb) rfl
  have fx2_0_3 := (HB3.out.1).at 0 (.bool nc) rfl
  have fx2_1_3 := (HB3.out.1).at 1 (.string sc) rfl
  have fx2_2_3 := (HB3.out.1).at 2 (.bool mc) rfl
  have fx2_3_3 := (HB3.out.1).at 3 (.string tc) rfl
  have HO3 := Lib.hid (show w.heap.size + 1 + 1 < w.heap.size + 1 + 1 + 1 from by have := (HB3.out.1).lt; first | omega | (simp at this; omega))
  have HL4 := Lib.hid (HL3.out.alloc HL3.out.size (.cells #[.bool na, .string sa, .bool ma, .string ta, .bool nb, .string sb, .bool mb, .string tb, .bool nc, .string sc, .bool mc, .string tc] 25))
  have HB4 := Lib.hid (HB3.out.push (w.heap.size + 1 + 1 + 1) #[.bool na, .string sa, .bool ma, .string ta, .bool nb, .string sb, .bool mb, .string tb, .bool nc, .string sc, .bool mc, .string tc] 25 (by first | rfl | simp))
  clear HL3 HB3
  go_wp2_with fail
  refine (greatQ_box [(na, sa, ma, ta), (nb, sb, mb, tb), (nc, sc, mc, tc)] (HB4.out.1) (show 3 ≤ 1000 by decide) HGZ.out).mono ?_
  rintro e w1 ⟨rfl, hb⟩
  have HL5 := Lib.hid (bstep HL4.out hb)
  have HB5 := Lib.hid (HB4.out.bel hb)
  clear hb
  clear HL4 HB4 fx0_0_3 fx0_1_3 fx0_2_3 fx0_3_3 fx1_0_3 fx1_1_3 fx1_2_3 fx1_3_3 fx2_0_3 fx2_1_3 fx2_2_3 fx2_3_3
  have fx0_0_5 := (HB5.out.2.2.2.1).at 0 (.bool na) rfl
  have fx0_1_5 := (HB5.out.2.2.2.1).at 1 (.string sa) rfl
  have fx0_2_5 := (HB5.out.2.2.2.1).at 2 (.bool ma) rfl
  have fx0_3_5 := (HB5.out.2.2.2.1).at 3 (.string ta) rfl
  have fx1_0_5 := (HB5.out.2.2.1).at 0 (.bool nb) rfl
  have fx1_1_5 := (HB5.out.2.2.1).at 1 (.string sb) rfl
  have fx1_2_5 := (HB5.out.2.2.1).at 2 (.bool mb) rfl
  have fx1_3_5 := (HB5.out.2.2.1).at 3 (.string tb) rfl
  go_wp2_with fail
  refine (H1.out _).mono ?_
  rintro e w2 ⟨rfl, hb⟩
  have HL6 := Lib.hid (bstep HL5.out hb)
  have HB6 := Lib.hid (HB5.out.bel hb)
  clear hb
  clear HL5 HB5 fx0_0_5 fx0_1_5 fx0_2_5 fx0_3_5 fx1_0_5 fx1_1_5 fx1_2_5 fx1_3_5
  go_wp2_with fail
  refine (H2.out _).mono ?_
  rintro e w3 ⟨rfl, hb⟩
  have HL7 := Lib.hid (bstep HL6.out hb)
  have HB7 := Lib.hid (HB6.out.bel hb)
  clear hb
  clear HL6 HB6
  have HO4 := Lib.hid (show w.heap.size + 1 + 1 + 1 < w3.heap.size from by have := (HB7.out.1).lt; first | omega | (simp at this; omega))
  have HL8 := Lib.hid (HL7.out.alloc HL7.out.size (.cells #[.bool nz, .string sz, .bool mz, .string tz] 25))
  have HB8 := Lib.hid (HB7.out.push (w3.heap.size) #[.bool nz, .string sz, .bool mz, .string tz] 25 (by first | rfl | simp))
  clear HL7 HB7
  go_wp2_with fail
  obtain ⟨Bw3, hB⟩ : ∃ B, w3.heap.size = B := ⟨_, rfl⟩
  rw [hB] at HB8 ⊢
  try rw [hB] at HO0
  try rw [hB] at HO1
  try rw [hB] at HO2
  try rw [hB] at HO3
  try rw [hB] at HO4
  clear hB
  obtain ⟨W4, hW⟩ : ∃ W, (w3.alloc (.cells #[.bool nz, .string sz, .bool mz, .string tz] 25)) = W := ⟨_, rfl⟩
  rw [hW] at HB8 HL8 ⊢
  clear hW
  haveI := cls_some W4
  have fq1_0 : ∀ u : Cl W4, u.x.cell? ⟨w.heap.size + 1, 0, none⟩ = some (.bool nb) := fun u => ((HB8.out.bel u.h).2.2.2.1).at 0 (.bool nb) rfl
  have fq1_1 : ∀ u : Cl W4, u.x.cell? ⟨w.heap.size + 1, 1, none⟩ = some (.string sb) := fun u => ((HB8.out.bel u.h).2.2.2.1).at 1 (.string sb) rfl
  have fq1_2 : ∀ u : Cl W4, u.x.cell? ⟨w.heap.size + 1, 2, none⟩ = some (.bool mb) := fun u => ((HB8.out.bel u.h).2.2.2.1).at 2 (.bool mb) rfl
  have fq1_3 : ∀ u : Cl W4, u.x.cell? ⟨w.heap.size + 1, 3, none⟩ = some (.string tb) := fun u => ((HB8.out.bel u.h).2.2.2.1).at 3 (.string tb) rfl
  have fq0_0 : ∀ u : Cl W4, u.x.cell? ⟨w.heap.size, 0, none⟩ = some (.bool na) := fun u => ((HB8.out.bel u.h).2.2.2.2.1).at 0 (.bool na) rfl
  have fq0_1 : ∀ u : Cl W4, u.x.cell? ⟨w.heap.size, 1, none⟩ = some (.string sa) := fun u => ((HB8.out.bel u.h).2.2.2.2.1).at 1 (.string sa) rfl
  have fq0_2 : ∀ u : Cl W4, u.x.cell? ⟨w.heap.size, 2, none⟩ = some (.bool ma) := fun u => ((HB8.out.bel u.h).2.2.2.2.1).at 2 (.bool ma) rfl
  have fq0_3 : ∀ u : Cl W4, u.x.cell? ⟨w.heap.size, 3, none⟩ = some (.string ta) := fun u => ((HB8.out.bel u.h).2.2.2.2.1).at 3 (.string ta) rfl
  have fq4_0 : ∀ u : Cl W4, u.x.cell? ⟨Bw3, 0, none⟩ = some (.bool nz) := fun u => ((HB8.out.bel u.h).1).at 0 (.bool nz) rfl
  have fq4_1 : ∀ u : Cl W4, u.x.cell? ⟨Bw3, 1, none⟩ = some (.string sz) := fun u => ((HB8.out.bel u.h).1).at 1 (.string sz) rfl
  have fq4_2 : ∀ u : Cl W4, u.x.cell? ⟨Bw3, 2, none⟩ = some (.bool mz) := fun u => ((HB8.out.bel u.h).1).at 2 (.bool mz) rfl
  have fq4_3 : ∀ u : Cl W4, u.x.cell? ⟨Bw3, 3, none⟩ = some (.string tz) := fun u => ((HB8.out.bel u.h).1).at 3 (.string tz) rfl
  refine wp_region_cls (by kernel_rfl) ?_
  iterate 10 (go_big_quiet_step (fail))
  go_big_quiet_step ((go_at_call 15; exact quiet_cls H3.out _))
  iterate 8 (go_big_quiet_step (fail))
  go_big_quiet_step ((go_at_call 19; exact quiet_cls H4.out _))
  iterate 4 (go_big_quiet_step (fail))
  refine wpQuiet_nil ?_
  intro w5 hw9
  have hb : Below W4.heap.size W4 w5 := by obtain ⟨u, rfl⟩ := hw9; exact u.h
  clear hw9 this fq1_0 fq1_1 fq1_2 fq1_3 fq0_0 fq0_1 fq0_2 fq0_3 fq4_0 fq4_1 fq4_2 fq4_3
  have HL9 := Lib.hid (bstep HL8.out hb)
  have HB9 := Lib.hid (HB8.out.bel hb)
  clear hb
  clear HL8 HB8
  have fx1_0_9 := (HB9.out.2.2.2.1).at 0 (.bool nb) rfl
  have fx1_1_9 := (HB9.out.2.2.2.1).at 1 (.string sb) rfl
  have fx1_2_9 := (HB9.out.2.2.2.1).at 2 (.bool mb) rfl
  have fx1_3_9 := (HB9.out.2.2.2.1).at 3 (.string tb) rfl
  have fx2_0_9 := (HB9.out.2.2.1).at 0 (.bool nc) rfl
  have fx2_1_9 := (HB9.out.2.2.1).at 1 (.string sc) rfl
  have fx2_2_9 := (HB9.out.2.2.1).at 2 (.bool mc) rfl
  have fx2_3_9 := (HB9.out.2.2.1).at 3 (.string tc) rfl
  go_wp2_with fail
  refine (H5.out _).mono ?_
  rintro e w6 ⟨rfl, hb⟩
  have HL10 := Lib.hid (bstep HL9.out hb)
  have HB10 := Lib.hid (HB9.out.bel hb)
  clear hb
  clear HL9 HB9 fx1_0_9 fx1_1_9 fx1_2_9 fx1_3_9 fx2_0_9 fx2_1_9 fx2_2_9 fx2_3_9
  have fx0_0_10 := (HB10.out.2.2.2.2.1).at 0 (.bool na) rfl
  have fx0_1_10 := (HB10.out.2.2.2.2.1).at 1 (.string sa) rfl
  have fx0_2_10 := (HB10.out.2.2.2.2.1).at 2 (.bool ma) rfl
  have fx0_3_10 := (HB10.out.2.2.2.2.1).at 3 (.string ta) rfl
  have fx2_0_10 := (HB10.out.2.2.1).at 0 (.bool nc) rfl
  have fx2_1_10 := (HB10.out.2.2.1).at 1 (.string sc) rfl
  have fx2_2_10 := (HB10.out.2.2.1).at 2 (.bool mc) rfl
  have fx2_3_10 := (HB10.out.2.2.1).at 3 (.string tc) rfl
  go_wp2_with fail
  refine (H6.out _).mono ?_
  rintro e w7 ⟨rfl, hb⟩
  have HL11 := Lib.hid (bstep HL10.out hb)
  have HB11 := Lib.hid (HB10.out.bel hb)
  clear hb
  clear HL10 HB10 fx0_0_10 fx0_1_10 fx0_2_10 fx0_3_10 fx2_0_10 fx2_1_10 fx2_2_10 fx2_3_10
  have fx2_0_11 := (HB11.out.2.2.1).at 0 (.bool nc) rfl
  have fx2_1_11 := (HB11.out.2.2.1).at 1 (.string sc) rfl
  have fx2_2_11 := (HB11.out.2.2.1).at 2 (.bool mc) rfl
  have fx2_3_11 := (HB11.out.2.2.1).at 3 (.string tc) rfl
  have fx4_0_11 := (HB11.out.1).at 0 (.bool nz) rfl
  have fx4_1_11 := (HB11.out.1).at 1 (.string sz) rfl
  have fx4_2_11 := (HB11.out.1).at 2 (.bool mz) rfl
  have fx4_3_11 := (HB11.out.1).at 3 (.string tz) rfl
  go_wp2_with fail
  refine (H7.out _).mono ?_
  rintro e w8 ⟨rfl, hb⟩
  have HL12 := Lib.hid (bstep HL11.out hb)
  have HB12 := Lib.hid (HB11.out.bel hb)
  clear hb
  clear HL11 HB11 fx2_0_11 fx2_1_11 fx2_2_11 fx2_3_11 fx4_0_11 fx4_1_11 fx4_2_11 fx4_3_11
  go_wp2_with fail
  haveI := cls_some w8
  have fq0_0 : ∀ u : Cl w8, u.x.cell? ⟨w.heap.size, 0, none⟩ = some (.bool na) := fun u => ((HB12.out.bel u.h).2.2.2.2.1).at 0 (.bool na) rfl
  have fq0_1 : ∀ u : Cl w8, u.x.cell? ⟨w.heap.size, 1, none⟩ = some (.string sa) := fun u => ((HB12.out.bel u.h).2.2.2.2.1).at 1 (.string sa) rfl
  have fq0_2 : ∀ u : Cl w8, u.x.cell? ⟨w.heap.size, 2, none⟩ = some (.bool ma) := fun u => ((HB12.out.bel u.h).2.2.2.2.1).at 2 (.bool ma) rfl
  have fq0_3 : ∀ u : Cl w8, u.x.cell? ⟨w.heap.size, 3, none⟩ = some (.string ta) := fun u => ((HB12.out.bel u.h).2.2.2.2.1).at 3 (.string ta) rfl
  have fq2_0 : ∀ u : Cl w8, u.x.cell? ⟨w.heap.size + 1 + 1, 0, none⟩ = some (.bool nc) := fun u => ((HB12.out.bel u.h).2.2.1).at 0 (.bool nc) rfl
  have fq2_1 : ∀ u : Cl w8, u.x.cell? ⟨w.heap.size + 1 + 1, 1, none⟩ = some (.string sc) := fun u => ((HB12.out.bel u.h).2.2.1).at 1 (.string sc) rfl
  have fq2_2 : ∀ u : Cl w8, u.x.cell? ⟨w.heap.size + 1 + 1, 2, none⟩ = some (.bool mc) := fun u => ((HB12.out.bel u.h).2.2.1).at 2 (.bool mc) rfl
  have fq2_3 : ∀ u : Cl w8, u.x.cell? ⟨w.heap.size + 1 + 1, 3, none⟩ = some (.string tc) := fun u => ((HB12.out.bel u.h).2.2.1).at 3 (.string tc) rfl
  have fq1_0 : ∀ u : Cl w8, u.x.cell? ⟨w.heap.size + 1, 0, none⟩ = some (.bool nb) := fun u => ((HB12.out.bel u.h).2.2.2.1).at 0 (.bool nb) rfl
  have fq1_1 : ∀ u : Cl w8, u.x.cell? ⟨w.heap.size + 1, 1, none⟩ = some (.string sb) := fun u => ((HB12.out.bel u.h).2.2.2.1).at 1 (.string sb) rfl
  have fq1_2 : ∀ u : Cl w8, u.x.cell? ⟨w.heap.size + 1, 2, none⟩ = some (.bool mb) := fun u => ((HB12.out.bel u.h).2.2.2.1).at 2 (.bool mb) rfl
  have fq1_3 : ∀ u : Cl w8, u.x.cell? ⟨w.heap.size + 1, 3, none⟩ = some (.string tb) := fun u => ((HB12.out.bel u.h).2.2.2.1).at 3 (.string tb) rfl
  refine wp_region_cls (by kernel_rfl) ?_
  iterate 2 (go_big_quiet_step (fail))
  go_big_quiet_step ((go_at_call 16; exact quiet_cls H8.out _))
  iterate 2 (go_big_quiet_step (fail))
  go_big_quiet_step ((go_at_call 16; exact quiet_cls H9.out _))
  go_big_quiet_step ((go_at_call 15; exact quiet_cls H10.out _))
  iterate 5 (go_big_quiet_step (fail))
  go_big_quiet_step ((go_at_call 17; exact quiet_cls H11.out _))
  iterate 2 (go_big_quiet_step (fail))
  go_big_quiet_step ((go_at_call 17; exact quiet_cls H12.out _))
  go_big_quiet_step ((go_at_call 15; exact quiet_cls H13.out _))
  iterate 6 (go_big_quiet_step (fail))
  go_big_quiet_step ((go_at_call 11; exact quiet_cls H14.out _))
  iterate 2 (go_big_quiet_step (fail))
  refine wpQuiet_nil ?_
  intro w9 hw9
  have hb : Below w8.heap.size w8 w9 := by obtain ⟨u, rfl⟩ := hw9; exact u.h
  clear hw9 this fq0_0 fq0_1 fq0_2 fq0_3 fq2_0 fq2_1 fq2_2 fq2_3 fq1_0 fq1_1 fq1_2 fq1_3
  have HL13 := Lib.hid (bstep HL12.out hb)
  have HB13 := Lib.hid (HB12.out.bel hb)
  clear hb
  clear HL12 HB12
  go_wp2
  go_ret
  exact ⟨rfl, HL13.out⟩
end Go.Proofs.Gv

namespace Go.Proofs.Gv
open Go Go.RowKit

theorem hz1' {na ma : Bool} {sa ta : ByteArray} (hs : sa.size ≤ maxLen) (ht : ta.size ≤ maxLen) : ∀ x ∈ ([(na, sa, ma, ta)] : List (Bool × ByteArray × Bool × ByteArray)), x.2.1.size ≤ maxLen ∧ x.2.2.2.size ≤ maxLen := fun x hx => by
  obtain rfl : x = (na, sa, ma, ta) := by simpa using hx
  exact ⟨hs, ht⟩
theorem hz_cons {na ma : Bool} {sa ta : ByteArray} {L : List (Bool × ByteArray × Bool × ByteArray)} (hs : sa.size ≤ maxLen) (ht : ta.size ≤ maxLen) (h : ∀ x ∈ L, x.2.1.size ≤ maxLen ∧ x.2.2.2.size ≤ maxLen) : ∀ x ∈ (na, sa, ma, ta) :: L, x.2.1.size ≤ maxLen ∧ x.2.2.2.size ≤ maxLen := fun x hx => by
  rcases List.mem_cons.1 hx with rfl | hx
  · exact ⟨hs, ht⟩
  · exact h x hx
theorem eqQ_ne {x y : Rat} (h : x ≠ y) : eqQ (sgn x.num) (mg x.num.natAbs) false (mg x.den) (sgn y.num) (mg y.num.natAbs) false (mg y.den) = false := by rw [eqQ_V]; exact decide_eq_false h
theorem cmpQ_cases' (a b : Rat) : (cmpQ a b = 1 ∧ b < a) ∨ (cmpQ a b = 0 ∧ a = b) ∨ (cmpQ a b = -1 ∧ a < b) := by
  rcases cmpQ_cases a b with ⟨h, e, _⟩ | ⟨h, e, _⟩ | ⟨h, e, _⟩
  · exact .inr (.inr ⟨e, h⟩)
  · exact .inr (.inl ⟨e, h⟩)
  · exact .inl ⟨e, h⟩
theorem law_order (na ma : Bool) (sa ta : ByteArray) (nb mb : Bool) (sb tb : ByteArray) (nc mc : Bool) (sc tc : ByteArray) (w : World) (hs : sa.size ≤ maxLen) (ht : ta.size ≤ maxLen) (hs' : sb.size ≤ maxLen) (ht' : tb.size ≤ maxLen) (hs'' : sc.size ≤ maxLen) (ht'' : tc.size ≤ maxLen) :
    Calls Tryd.prog 5 #[.agg #[.bool na, .string sa, .bool ma, .string ta], .agg #[.bool nb, .string sb, .bool mb, .string tb], .agg #[.bool nc, .string sc, .bool mc, .string tc]] w fun e w' => e = .returned (.bool true) ∧ Below w.heap.size w w' := by
  have hz := hz_cons (na := na) (ma := ma) hs ht (hz_cons (na := nb) (ma := mb) hs' ht' (hz1' (na := nc) (ma := mc) hs'' ht''))
  cases hgr : grQ 24 [(na, sa, ma, ta), (nb, sb, mb, tb), (nc, sc, mc, tc)] with
  | true => exact order_great na ma sa ta nb mb sb tb nc mc sc tc hz hgr w cAwake02
  | false =>
    obtain ⟨h1, h2⟩ := grQ_false hgr (na, sa, ma, ta) (by simp)
    obtain ⟨h3, h4⟩ := grQ_false hgr (nb, sb, mb, tb) (by simp)
    obtain ⟨h5, h6⟩ := grQ_false hgr (nc, sc, mc, tc) (by simp)
    obtain ⟨a, N, RA, A, hN⟩ := rq_small (n := na) (m := ma) 24 (by decide) h1 h2
    obtain ⟨b, M, RB, B, hM⟩ := rq_small (n := nb) (m := mb) 24 (by decide) h3 h4
    obtain ⟨c, K, RC, C, hK⟩ := rq_small (n := nc) (m := mc) 24 (by decide) h5 h6
    have RZ := Qb.zero.rq (by decide)
    have C1 := fun W => cQCmp RA RB W
    have C2 := fun W => cQCmp RB RA W
    rw [cmpQ_flip a b] at C2
    have S := cQSub RA RB
    have CM := fun W => cQCmp RB RC W
    have CL := fun W => cQCmp RA RC W
    have CS := fun W => cQCmp RC RZ W
    have U := cQAdd RA RC
    have V := cQAdd RB RC
    have P := cQMul RA RC
    have Q := cQMul RB RC
    have CU := fun W => cQCmp ((A.add C).rq (by omega)) ((B.add C).rq (by omega)) W
    have CP := fun W => cQCmp ((A.mul C).rq (by omega)) ((B.mul C).rq (by omega)) W
    rw [cmpQ_add] at CU
    rw [cmpQ_mul] at CP
    have hm : cmpQ b c ≤ 0 ∨ decide (cmpQ b c ≤ 0) = false := by
      by_cases h : cmpQ b c ≤ 0
      · exact .inl h
      · exact .inr (decide_eq_false h)
    have hl : ¬ b < a → cmpQ b c ≤ 0 → decide ((0 : Int) < cmpQ a c) = false := fun hab hbc => by
      rw [cmpQ_gt0]
      refine decide_eq_false fun h => ?_
      rcases cmpQ_cases' b c with ⟨e, _⟩ | ⟨_, e⟩ | ⟨_, e⟩
      · rw [e] at hbc; exact absurd hbc (by decide)
      · grind
      · grind
    rcases cmpQ_cases' a b with ⟨e, hab⟩ | ⟨e, hab⟩ | ⟨e, hab⟩ <;> rw [e] at C1 C2 CU CP <;> rcases cmpQ_cases' c 0 with ⟨e2, _⟩ | ⟨e2, _⟩ | ⟨e2, _⟩ <;> rw [e2] at CS CP
    all_goals (first | have hd : a - b ≠ 0 := by grind | have hd : a - b = 0 := by grind)
    · exact order_pp0 na ma sa ta nb mb sb tb nc mc sc tc hz hgr _ _ _ _ _ _ _ _ (eqQ_ne hd) w C1 cR01 C2 S CS U V CU P Q CP cAwake02
    · exact order_pz0 na ma sa ta nb mb sb tb nc mc sc tc hz hgr _ _ _ _ _ _ _ _ (eqQ_ne hd) w C1 cR01 C2 S CS U V CU P Q CP cAwake02
    · exact order_pm0 na ma sa ta nb mb sb tb nc mc sc tc hz hgr _ _ _ _ _ _ _ _ (eqQ_ne hd) w C1 cR01 C2 S CS U V CU P Q CP cAwake02
    · rw [hd] at S
      rcases hm with hm | hm
      · exact order_zp1 na ma sa ta nb mb sb tb nc mc sc tc hz hgr _ hm _ (hl (by grind) hm) w C1 cR01 C2 S CM CL CS U V CU P Q CP cAwake02
      · exact order_zp0 na ma sa ta nb mb sb tb nc mc sc tc hz hgr _ hm w C1 cR01 C2 S CM CS U V CU P Q CP cAwake02
    · rw [hd] at S
      rcases hm with hm | hm
      · exact order_zz1 na ma sa ta nb mb sb tb nc mc sc tc hz hgr _ hm _ (hl (by grind) hm) w C1 cR01 C2 S CM CL CS U V CU P Q CP cAwake02
      · exact order_zz0 na ma sa ta nb mb sb tb nc mc sc tc hz hgr _ hm w C1 cR01 C2 S CM CS U V CU P Q CP cAwake02
    · rw [hd] at S
      rcases hm with hm | hm
      · exact order_zm1 na ma sa ta nb mb sb tb nc mc sc tc hz hgr _ hm _ (hl (by grind) hm) w C1 cR01 C2 S CM CL CS U V CU P Q CP cAwake02
      · exact order_zm0 na ma sa ta nb mb sb tb nc mc sc tc hz hgr _ hm w C1 cR01 C2 S CM CS U V CU P Q CP cAwake02
    · rcases hm with hm | hm
      · exact order_mp1 na ma sa ta nb mb sb tb nc mc sc tc hz hgr _ _ _ _ _ _ _ _ (eqQ_ne hd) _ hm _ (hl (by grind) hm) w C1 cR01 C2 S CM CL CS U V CU P Q CP cAwake02
      · exact order_mp0 na ma sa ta nb mb sb tb nc mc sc tc hz hgr _ _ _ _ _ _ _ _ (eqQ_ne hd) _ hm w C1 cR01 C2 S CM CS U V CU P Q CP cAwake02
    · rcases hm with hm | hm
      · exact order_mz1 na ma sa ta nb mb sb tb nc mc sc tc hz hgr _ _ _ _ _ _ _ _ (eqQ_ne hd) _ hm _ (hl (by grind) hm) w C1 cR01 C2 S CM CL CS U V CU P Q CP cAwake02
      · exact order_mz0 na ma sa ta nb mb sb tb nc mc sc tc hz hgr _ _ _ _ _ _ _ _ (eqQ_ne hd) _ hm w C1 cR01 C2 S CM CS U V CU P Q CP cAwake02
    · rcases hm with hm | hm
      · exact order_mm1 na ma sa ta nb mb sb tb nc mc sc tc hz hgr _ _ _ _ _ _ _ _ (eqQ_ne hd) _ hm _ (hl (by grind) hm) w C1 cR01 C2 S CM CL CS U V CU P Q CP cAwake02
      · exact order_mm0 na ma sa ta nb mb sb tb nc mc sc tc hz hgr _ _ _ _ _ _ _ _ (eqQ_ne hd) _ hm w C1 cR01 C2 S CM CS U V CU P Q CP cAwake02
end Go.Proofs.Gv
