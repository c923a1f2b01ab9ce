/- Layer 02: functions of rational, walked over the results of what they call (printed by gen02p.py). -/
import Derived.Test.YtamempcabmlodaaDoorRatTabP
import Derived.Test.YtamempcabmlodaaDoorBoxesP
import Derived.Test.YtamempcabmlodaaDoorLawKitP
import Derived.LoopN
set_option linter.unusedSimpArgs false
set_option linter.unusedVariables false
namespace Go.Proofs.Gv
open Go Go.RowKit

set_option maxRecDepth 100000 in
set_option maxHeartbeats 4000000 in
theorem powers_law {nx mx ny my nz mz nu mu nd md nv mv : Bool} {sx tx sy ty sz tz su tu sd td sv tv : ByteArray} (na ma : Bool) (sa ta : ByteArray) (nb mb : Bool) (sb tb : ByteArray) (n0 m0 : Int) (hn0 : 0 ≤ n0 ∧ n0 ≤ 255) (hm0 : 0 ≤ m0 ∧ m0 ≤ 255) (h0 : decide ((8 : Int) < sa.size) = false) (h1 : decide ((8 : Int) < ta.size) = false) (h2 : decide ((8 : Int) < sb.size) = false) (h3 : decide ((8 : Int) < tb.size) = false) (w : World)
    (H1 : ∀ W, Calls Tryd.prog 32 #[.agg #[.bool na, .string sa, .bool ma, .string ta], .int .i64 (n0 % 21)] W fun e w' => e = .returned (.tuple #[.agg #[.bool nx, .string sx, .bool mx, .string tx], .int .i64 0]) ∧ Below W.heap.size W w')
    (H2 : ∀ W, Calls Tryd.prog 32 #[.agg #[.bool na, .string sa, .bool ma, .string ta], .int .i64 (m0 % 21)] W fun e w' => e = .returned (.tuple #[.agg #[.bool ny, .string sy, .bool my, .string ty], .int .i64 0]) ∧ Below W.heap.size W w')
    (H3 : ∀ W, Calls Tryd.prog 32 #[.agg #[.bool na, .string sa, .bool ma, .string ta], .int .i64 ((n0 % 21) + (m0 % 21))] W fun e w' => e = .returned (.tuple #[.agg #[.bool nz, .string sz, .bool mz, .string tz], .int .i64 0]) ∧ Below W.heap.size W w')
    (H4 : ∀ W, Calls Tryd.prog 32 #[.agg #[.bool nb, .string sb, .bool mb, .string tb], .int .i64 (n0 % 21)] W fun e w' => e = .returned (.tuple #[.agg #[.bool nu, .string su, .bool mu, .string tu], .int .i64 0]) ∧ Below W.heap.size W w')
    (H5 : ∀ W, Calls Tryd.prog 17 #[.agg #[.bool na, .string sa, .bool ma, .string ta], .agg #[.bool nb, .string sb, .bool mb, .string tb]] W fun e w' => e = .returned (.agg #[.bool nd, .string sd, .bool md, .string td]) ∧ Below W.heap.size W w')
    (H6 : ∀ W, Calls Tryd.prog 32 #[.agg #[.bool nd, .string sd, .bool md, .string td], .int .i64 (n0 % 21)] W fun e w' => e = .returned (.tuple #[.agg #[.bool nv, .string sv, .bool mv, .string tv], .int .i64 0]) ∧ Below W.heap.size W w')
    (H7 : ∀ W, Calls Tryd.prog 17 #[.agg #[.bool nx, .string sx, .bool mx, .string tx], .agg #[.bool ny, .string sy, .bool my, .string ty]] W fun e w' => e = .returned (.agg #[.bool nz, .string sz, .bool mz, .string tz]) ∧ Below W.heap.size W w')
    (H8 : ∀ W, Calls Tryd.prog 17 #[.agg #[.bool nx, .string sx, .bool mx, .string tx], .agg #[.bool nu, .string su, .bool mu, .string tu]] W fun e w' => e = .returned (.agg #[.bool nv, .string sv, .bool mv, .string tv]) ∧ Below W.heap.size W w')
    (H9 : ∀ W, Calls Tryd.prog 11 #[] W fun e w' => e = .returned (.bool true) ∧ Below W.heap.size W w')
    : Calls Tryd.prog 9 #[.agg #[.bool na, .string sa, .bool ma, .string ta], .agg #[.bool nb, .string sb, .bool mb, .string tb], .int .u8 n0, .int .u8 m0] w fun e w' => e = .returned (.bool true) ∧ Below w.heap.size w w' := by
  replace H1 := Lib.hid H1
  replace H2 := Lib.hid H2
  replace H3 := Lib.hid H3
  replace H4 := Lib.hid H4
  replace H5 := Lib.hid H5
  replace H6 := Lib.hid H6
  replace H7 := Lib.hid H7
  replace H8 := Lib.hid H8
  replace H9 := Lib.hid H9
  have hn1 : 0 ≤ n0 % 21 ∧ n0 % 21 ≤ 20 := by omega
  have hm1 : 0 ≤ m0 % 21 ∧ m0 % 21 ≤ 20 := by omega
  have qz : eqQ nz sz mz tz nz sz mz tz = true := eqQ_iff.2 ⟨⟨rfl, rfl⟩, ⟨rfl, rfl⟩⟩
  have qv : eqQ nv sv mv tv nv sv mv tv = true := eqQ_iff.2 ⟨⟨rfl, rfl⟩, ⟨rfl, rfl⟩⟩
  go_enter Tryd.func9, Tryd.ntmps9
  have HL0 := Lib.hid (Below.refl w.heap.size w)
  have HB0 := Lib.hid (show Bs [] w from trivial)
  have HO0 := Lib.hid (show w.heap.size ≤ w.heap.size from by have := HL0.out.size; first | omega | (simp at this; omega))
  have HL1 := Lib.hid (HL0.out.alloc HL0.out.size (.cells #[.bool na, .string sa, .bool ma, .string ta] 25))
  have HB1 := Lib.hid (HB0.out.push (w.heap.size) #[.bool na, .string sa, .bool ma, .string ta] 25 (by first | rfl | simp))
  clear HL0 HB0
  have HO1 := Lib.hid (show w.heap.size < w.heap.size + 1 from by have := (HB1.out.1).lt; first | omega | (simp at this; omega))
  have HL2 := Lib.hid (HL1.out.alloc HL1.out.size (.cells #[.bool nb, .string sb, .bool mb, .string tb] 25))
  have HB2 := Lib.hid (HB1.out.push (w.heap.size + 1) #[.bool nb, .string sb, .bool mb, .string tb] 25 (by first | rfl | simp))
  clear HL1 HB1
  have fx0_0_2 := (HB2.out.2.1).at 0 (.bool na) rfl
  have fx0_1_2 := (HB2.out.2.1).at 1 (.string sa) rfl
  have fx0_2_2 := (HB2.out.2.1).at 2 (.bool ma) rfl
  have fx0_3_2 := (HB2.out.2.1).at 3 (.string ta) rfl
  have fx1_0_2 := (HB2.out.1).at 0 (.bool nb) rfl
  have fx1_1_2 := (HB2.out.1).at 1 (.string sb) rfl
  have fx1_2_2 := (HB2.out.1).at 2 (.bool mb) rfl
  have fx1_3_2 := (HB2.out.1).at 3 (.string tb) rfl
  have HO2 := Lib.hid (show w.heap.size + 1 < w.heap.size + 1 + 1 from by have := (HB2.out.1).lt; first | omega | (simp at this; omega))
  have HL3 := Lib.hid (HL2.out.alloc HL2.out.size (.cells #[.bool na, .string sa, .bool ma, .string ta, .bool nb, .string sb, .bool mb, .string tb] 23))
  have HB3 := Lib.hid (HB2.out.push (w.heap.size + 1 + 1) #[.bool na, .string sa, .bool ma, .string ta, .bool nb, .string sb, .bool mb, .string tb] 23 (by first | rfl | simp))
  clear HL2 HB2
  go_wp2_with fail
  refine wp_loop_rounds 5 ?_
  rw [rounds_succ]
  have fx2_0_3 := (HB3.out.1).at 0 (.bool na) rfl
  have fx2_1_3 := (HB3.out.1).at 1 (.string sa) rfl
  have HO3 := Lib.hid (show w.heap.size + 1 + 1 < w.heap.size + 1 + 1 + 1 from by have := (HB3.out.1).lt; first | omega | (simp at this; omega))
  have HL4 := Lib.hid (HL3.out.alloc HL3.out.size (.cells #[.bool na, .string sa] 23))
  have HB4 := Lib.hid (HB3.out.push (w.heap.size + 1 + 1 + 1) #[.bool na, .string sa] 23 (by first | rfl | simp))
  clear HL3 HB3
  have fx3_1_4 := (HB4.out.1).at 1 (.string sa) rfl
  go_wp2_with fail
  rw [rounds_succ]
  have fx2_2_4 := (HB4.out.2.1).at 2 (.bool ma) rfl
  have fx2_3_4 := (HB4.out.2.1).at 3 (.string ta) rfl
  have HO4 := Lib.hid (show w.heap.size + 1 + 1 + 1 < w.heap.size + 1 + 1 + 1 + 1 from by have := (HB4.out.1).lt; first | omega | (simp at this; omega))
  have HL5 := Lib.hid (HL4.out.alloc HL4.out.size (.cells #[.bool ma, .string ta] 23))
  have HB5 := Lib.hid (HB4.out.push (w.heap.size + 1 + 1 + 1 + 1) #[.bool ma, .string ta] 23 (by first | rfl | simp))
  clear HL4 HB4
  have fx4_1_5 := (HB5.out.1).at 1 (.string ta) rfl
  go_wp2_with fail
  rw [rounds_succ]
  have fx2_4_5 := (HB5.out.2.2.1).at 4 (.bool nb) rfl
  have fx2_5_5 := (HB5.out.2.2.1).at 5 (.string sb) rfl
  have HO5 := Lib.hid (show w.heap.size + 1 + 1 + 1 + 1 < w.heap.size + 1 + 1 + 1 + 1 + 1 from by have := (HB5.out.1).lt; first | omega | (simp at this; omega))
  have HL6 := Lib.hid (HL5.out.alloc HL5.out.size (.cells #[.bool nb, .string sb] 23))
  have HB6 := Lib.hid (HB5.out.push (w.heap.size + 1 + 1 + 1 + 1 + 1) #[.bool nb, .string sb] 23 (by first | rfl | simp))
  clear HL5 HB5
  have fx5_1_6 := (HB6.out.1).at 1 (.string sb) rfl
  go_wp2_with fail
  rw [rounds_succ]
  have fx2_6_6 := (HB6.out.2.2.2.1).at 6 (.bool mb) rfl
  have fx2_7_6 := (HB6.out.2.2.2.1).at 7 (.string tb) rfl
  have HO6 := Lib.hid (show w.heap.size + 1 + 1 + 1 + 1 + 1 < w.heap.size + 1 + 1 + 1 + 1 + 1 + 1 from by have := (HB6.out.1).lt; first | omega | (simp at this; omega))
  have HL7 := Lib.hid (HL6.out.alloc HL6.out.size (.cells #[.bool mb, .string tb] 23))
  have HB7 := Lib.hid (HB6.out.push (w.heap.size + 1 + 1 + 1 + 1 + 1 + 1) #[.bool mb, .string tb] 23 (by first | rfl | simp))
  clear HL6 HB6
  have fx6_1_7 := (HB7.out.1).at 1 (.string tb) rfl
  go_wp2_with fail
  rw [rounds_succ]
  have fx0_0_7 := (HB7.out.2.2.2.2.2.2.1).at 0 (.bool na) rfl
  have fx0_1_7 := (HB7.out.2.2.2.2.2.2.1).at 1 (.string sa) rfl
  have fx0_2_7 := (HB7.out.2.2.2.2.2.2.1).at 2 (.bool ma) rfl
  have fx0_3_7 := (HB7.out.2.2.2.2.2.2.1).at 3 (.string ta) rfl
  go_wp2_with fail
  refine (H1.out _).mono ?_
  rintro e w1 ⟨rfl, hb⟩
  have HL8 := Lib.hid (bstep HL7.out hb)
  have HB8 := Lib.hid (HB7.out.bel hb)
  clear hb
  clear HL7 HB7 fx0_0_2 fx0_1_2 fx0_2_2 fx0_3_2 fx1_0_2 fx1_1_2 fx1_2_2 fx1_3_2 fx2_0_3 fx2_1_3 fx3_1_4 fx2_2_4 fx2_3_4 fx4_1_5 fx2_4_5 fx2_5_5 fx5_1_6 fx2_6_6 fx2_7_6 fx6_1_7 fx0_0_7 fx0_1_7 fx0_2_7 fx0_3_7
  have HO7 := Lib.hid (show w.heap.size + 1 + 1 + 1 + 1 + 1 + 1 < w1.heap.size from by have := (HB8.out.1).lt; first | omega | (simp at this; omega))
  have HL9 := Lib.hid (HL8.out.alloc HL8.out.size (.cells #[.bool nx, .string sx, .bool mx, .string tx] 25))
  have HB9 := Lib.hid (HB8.out.push (w1.heap.size) #[.bool nx, .string sx, .bool mx, .string tx] 25 (by first | rfl | simp))
  clear HL8 HB8
  have fx0_0_9 := (HB9.out.2.2.2.2.2.2.2.1).at 0 (.bool na) rfl
  have fx0_1_9 := (HB9.out.2.2.2.2.2.2.2.1).at 1 (.string sa) rfl
  have fx0_2_9 := (HB9.out.2.2.2.2.2.2.2.1).at 2 (.bool ma) rfl
  have fx0_3_9 := (HB9.out.2.2.2.2.2.2.2.1).at 3 (.string ta) rfl
  go_wp2_with fail
  refine (H2.out _).mono ?_
  rintro e w2 ⟨rfl, hb⟩
  have HL10 := Lib.hid (bstep HL9.out hb)
  have HB10 := Lib.hid (HB9.out.bel hb)
  clear hb
  clear HL9 HB9 fx0_0_9 fx0_1_9 fx0_2_9 fx0_3_9
  have HO8 := Lib.hid (show w1.heap.size < w2.heap.size from by have := (HB10.out.1).lt; first | omega | (simp at this; omega))
  have HL11 := Lib.hid (HL10.out.alloc HL10.out.size (.cells #[.bool ny, .string sy, .bool my, .string ty] 25))
  have HB11 := Lib.hid (HB10.out.push (w2.heap.size) #[.bool ny, .string sy, .bool my, .string ty] 25 (by first | rfl | simp))
  clear HL10 HB10
  have fx0_0_11 := (HB11.out.2.2.2.2.2.2.2.2.1).at 0 (.bool na) rfl
  have fx0_1_11 := (HB11.out.2.2.2.2.2.2.2.2.1).at 1 (.string sa) rfl
  have fx0_2_11 := (HB11.out.2.2.2.2.2.2.2.2.1).at 2 (.bool ma) rfl
  have fx0_3_11 := (HB11.out.2.2.2.2.2.2.2.2.1).at 3 (.string ta) rfl
  go_wp2_with fail
  refine (H3.out _).mono ?_
  rintro e w3 ⟨rfl, hb⟩
  have HL12 := Lib.hid (bstep HL11.out hb)
  have HB12 := Lib.hid (HB11.out.bel hb)
  clear hb
  clear HL11 HB11 fx0_0_11 fx0_1_11 fx0_2_11 fx0_3_11
  have HO9 := Lib.hid (show w2.heap.size < w3.heap.size from by have := (HB12.out.1).lt; first | omega | (simp at this; omega))
  have HL13 := Lib.hid (HL12.out.alloc HL12.out.size (.cells #[.bool nz, .string sz, .bool mz, .string tz] 25))
  have HB13 := Lib.hid (HB12.out.push (w3.heap.size) #[.bool nz, .string sz, .bool mz, .string tz] 25 (by first | rfl | simp))
  clear HL12 HB12
  have fx1_0_13 := (HB13.out.2.2.2.2.2.2.2.2.1).at 0 (.bool nb) rfl
  have fx1_1_13 := (HB13.out.2.2.2.2.2.2.2.2.1).at 1 (.string sb) rfl
  have fx1_2_13 := (HB13.out.2.2.2.2.2.2.2.2.1).at 2 (.bool mb) rfl
  have fx1_3_13 := (HB13.out.2.2.2.2.2.2.2.2.1).at 3 (.string tb) rfl
  go_wp2_with fail
  refine (H4.out _).mono ?_
  rintro e w4 ⟨rfl, hb⟩
  have HL14 := Lib.hid (bstep HL13.out hb)
  have HB14 := Lib.hid (HB13.out.bel hb)
  clear hb
  clear HL13 HB13 fx1_0_13 fx1_1_13 fx1_2_13 fx1_3_13
  have HO10 := Lib.hid (show w3.heap.size < w4.heap.size from by have := (HB14.out.1).lt; first | omega | (simp at this; omega))
  have HL15 := Lib.hid (HL14.out.alloc HL14.out.size (.cells #[.bool nu, .string su, .bool mu, .string tu] 25))
  have HB15 := Lib.hid (HB14.out.push (w4.heap.size) #[.bool nu, .string su, .bool mu, .string tu] 25 (by first | rfl | simp))
  clear HL14 HB14
  have fx0_0_15 := (HB15.out.2.2.2.2.2.2.2.2.2.2.1).at 0 (.bool na) rfl
  have fx0_1_15 := (HB15.out.2.2.2.2.2.2.2.2.2.2.1).at 1 (.string sa) rfl
  have fx0_2_15 := (HB15.out.2.2.2.2.2.2.2.2.2.2.1).at 2 (.bool ma) rfl
  have fx0_3_15 := (HB15.out.2.2.2.2.2.2.2.2.2.2.1).at 3 (.string ta) rfl
  have fx1_0_15 := (HB15.out.2.2.2.2.2.2.2.2.2.1).at 0 (.bool nb) rfl
  have fx1_1_15 := (HB15.out.2.2.2.2.2.2.2.2.2.1).at 1 (.string sb) rfl
  have fx1_2_15 := (HB15.out.2.2.2.2.2.2.2.2.2.1).at 2 (.bool mb) rfl
  have fx1_3_15 := (HB15.out.2.2.2.2.2.2.2.2.2.1).at 3 (.string tb) rfl
  go_wp2_with fail
  refine (H5.out _).mono ?_
  rintro e w5 ⟨rfl, hb⟩
  have HL16 := Lib.hid (bstep HL15.out hb)
  have HB16 := Lib.hid (HB15.out.bel hb)
  clear hb
  clear HL15 HB15 fx0_0_15 fx0_1_15 fx0_2_15 fx0_3_15 fx1_0_15 fx1_1_15 fx1_2_15 fx1_3_15
  go_wp2_with fail
  refine (H6.out _).mono ?_
  rintro e w6 ⟨rfl, hb⟩
  have HL17 := Lib.hid (bstep HL16.out hb)
  have HB17 := Lib.hid (HB16.out.bel hb)
  clear hb
  clear HL16 HB16
  have HO11 := Lib.hid (show w4.heap.size < w6.heap.size from by have := (HB17.out.1).lt; first | omega | (simp at this; omega))
  have HL18 := Lib.hid (HL17.out.alloc HL17.out.size (.cells #[.bool nv, .string sv, .bool mv, .string tv] 25))
  have HB18 := Lib.hid (HB17.out.push (w6.heap.size) #[.bool nv, .string sv, .bool mv, .string tv] 25 (by first | rfl | simp))
  clear HL17 HB17
  go_wp2_with fail
  obtain ⟨Bw1, hB⟩ : ∃ B, w1.heap.size = B := ⟨_, rfl⟩
  rw [hB] at HB18 ⊢
  try rw [hB] at HO0
  try rw [hB] at HO1
  try rw [hB] at HO2
  try rw [hB] at HO3
  try rw [hB] at HO4
  try rw [hB] at HO5
  try rw [hB] at HO6
  try rw [hB] at HO7
  try rw [hB] at HO8
  try rw [hB] at HO9
  try rw [hB] at HO10
  try rw [hB] at HO11
  clear hB
  obtain ⟨Bw2, hB⟩ : ∃ B, w2.heap.size = B := ⟨_, rfl⟩
  rw [hB] at HB18 ⊢
  try rw [hB] at HO0
  try rw [hB] at HO1
  try rw [hB] at HO2
  try rw [hB] at HO3
  try rw [hB] at HO4
  try rw [hB] at HO5
  try rw [hB] at HO6
  try rw [hB] at HO7
  try rw [hB] at HO8
  try rw [hB] at HO9
  try rw [hB] at HO10
  try rw [hB] at HO11
  clear hB
  obtain ⟨Bw3, hB⟩ : ∃ B, w3.heap.size = B := ⟨_, rfl⟩
  rw [hB] at HB18 ⊢
  try rw [hB] at HO0
  try rw [hB] at HO1
  try rw [hB] at HO2
  try rw [hB] at HO3
  try rw [hB] at HO4
  try rw [hB] at HO5
  try rw [hB] at HO6
  try rw [hB] at HO7
  try rw [hB] at HO8
  try rw [hB] at HO9
  try rw [hB] at HO10
  try rw [hB] at HO11
  clear hB
  obtain ⟨Bw4, hB⟩ : ∃ B, w4.heap.size = B := ⟨_, rfl⟩
  rw [hB] at HB18 ⊢
  try rw [hB] at HO0
  try rw [hB] at HO1
  try rw [hB] at HO2
  try rw [hB] at HO3
  try rw [hB] at HO4
  try rw [hB] at HO5
  try rw [hB] at HO6
  try rw [hB] at HO7
  try rw [hB] at HO8
  try rw [hB] at HO9
  try rw [hB] at HO10
  try rw [hB] at HO11
  clear hB
  obtain ⟨Bw6, hB⟩ : ∃ B, w6.heap.size = B := ⟨_, rfl⟩
  rw [hB] at HB18 ⊢
  try rw [hB] at HO0
  try rw [hB] at HO1
  try rw [hB] at HO2
  try rw [hB] at HO3
  try rw [hB] at HO4
  try rw [hB] at HO5
  try rw [hB] at HO6
  try rw [hB] at HO7
  try rw [hB] at HO8
  try rw [hB] at HO9
  try rw [hB] at HO10
  try rw [hB] at HO11
  clear hB
  obtain ⟨W7, hW⟩ : ∃ W, (w6.alloc (.cells #[.bool nv, .string sv, .bool mv, .string tv] 25)) = W := ⟨_, rfl⟩
  rw [hW] at HB18 HL18 ⊢
  clear hW
  haveI := cls_some W7
  have fq7_0 : ∀ u : Cl W7, u.x.cell? ⟨Bw1, 0, none⟩ = some (.bool nx) := fun u => ((HB18.out.bel u.h).2.2.2.2.1).at 0 (.bool nx) rfl
  have fq7_1 : ∀ u : Cl W7, u.x.cell? ⟨Bw1, 1, none⟩ = some (.string sx) := fun u => ((HB18.out.bel u.h).2.2.2.2.1).at 1 (.string sx) rfl
  have fq7_2 : ∀ u : Cl W7, u.x.cell? ⟨Bw1, 2, none⟩ = some (.bool mx) := fun u => ((HB18.out.bel u.h).2.2.2.2.1).at 2 (.bool mx) rfl
  have fq7_3 : ∀ u : Cl W7, u.x.cell? ⟨Bw1, 3, none⟩ = some (.string tx) := fun u => ((HB18.out.bel u.h).2.2.2.2.1).at 3 (.string tx) rfl
  have fq8_0 : ∀ u : Cl W7, u.x.cell? ⟨Bw2, 0, none⟩ = some (.bool ny) := fun u => ((HB18.out.bel u.h).2.2.2.1).at 0 (.bool ny) rfl
  have fq8_1 : ∀ u : Cl W7, u.x.cell? ⟨Bw2, 1, none⟩ = some (.string sy) := fun u => ((HB18.out.bel u.h).2.2.2.1).at 1 (.string sy) rfl
  have fq8_2 : ∀ u : Cl W7, u.x.cell? ⟨Bw2, 2, none⟩ = some (.bool my) := fun u => ((HB18.out.bel u.h).2.2.2.1).at 2 (.bool my) rfl
  have fq8_3 : ∀ u : Cl W7, u.x.cell? ⟨Bw2, 3, none⟩ = some (.string ty) := fun u => ((HB18.out.bel u.h).2.2.2.1).at 3 (.string ty) rfl
  have fq9_0 : ∀ u : Cl W7, u.x.cell? ⟨Bw3, 0, none⟩ = some (.bool nz) := fun u => ((HB18.out.bel u.h).2.2.1).at 0 (.bool nz) rfl
  have fq9_1 : ∀ u : Cl W7, u.x.cell? ⟨Bw3, 1, none⟩ = some (.string sz) := fun u => ((HB18.out.bel u.h).2.2.1).at 1 (.string sz) rfl
  have fq9_2 : ∀ u : Cl W7, u.x.cell? ⟨Bw3, 2, none⟩ = some (.bool mz) := fun u => ((HB18.out.bel u.h).2.2.1).at 2 (.bool mz) rfl
  have fq9_3 : ∀ u : Cl W7, u.x.cell? ⟨Bw3, 3, none⟩ = some (.string tz) := fun u => ((HB18.out.bel u.h).2.2.1).at 3 (.string tz) rfl
  have fq10_0 : ∀ u : Cl W7, u.x.cell? ⟨Bw4, 0, none⟩ = some (.bool nu) := fun u => ((HB18.out.bel u.h).2.1).at 0 (.bool nu) rfl
  have fq10_1 : ∀ u : Cl W7, u.x.cell? ⟨Bw4, 1, none⟩ = some (.string su) := fun u => ((HB18.out.bel u.h).2.1).at 1 (.string su) rfl
  have fq10_2 : ∀ u : Cl W7, u.x.cell? ⟨Bw4, 2, none⟩ = some (.bool mu) := fun u => ((HB18.out.bel u.h).2.1).at 2 (.bool mu) rfl
  have fq10_3 : ∀ u : Cl W7, u.x.cell? ⟨Bw4, 3, none⟩ = some (.string tu) := fun u => ((HB18.out.bel u.h).2.1).at 3 (.string tu) rfl
  have fq11_0 : ∀ u : Cl W7, u.x.cell? ⟨Bw6, 0, none⟩ = some (.bool nv) := fun u => ((HB18.out.bel u.h).1).at 0 (.bool nv) rfl
  have fq11_1 : ∀ u : Cl W7, u.x.cell? ⟨Bw6, 1, none⟩ = some (.string sv) := fun u => ((HB18.out.bel u.h).1).at 1 (.string sv) rfl
  have fq11_2 : ∀ u : Cl W7, u.x.cell? ⟨Bw6, 2, none⟩ = some (.bool mv) := fun u => ((HB18.out.bel u.h).1).at 2 (.bool mv) rfl
  have fq11_3 : ∀ u : Cl W7, u.x.cell? ⟨Bw6, 3, none⟩ = some (.string tv) := fun u => ((HB18.out.bel u.h).1).at 3 (.string tv) rfl
  refine wp_region_cls (by kernel_rfl) ?_
  iterate 21 (go_big_quiet_step (fail))
  go_big_quiet_step ((go_at_call 17; exact quiet_cls H7.out _))
  iterate 6 (go_big_quiet_step (fail))
  go_big_quiet_step ((go_at_call 17; exact quiet_cls H8.out _))
  iterate 4 (go_big_quiet_step (fail))
  go_big_quiet_step ((go_at_call 11; exact quiet_cls H9.out _))
  iterate 2 (go_big_quiet_step (fail))
  refine wpQuiet_nil ?_
  intro w8 hw9
  have hb : Below W7.heap.size W7 w8 := by obtain ⟨u, rfl⟩ := hw9; exact u.h
  clear hw9 this fq7_0 fq7_1 fq7_2 fq7_3 fq8_0 fq8_1 fq8_2 fq8_3 fq9_0 fq9_1 fq9_2 fq9_3 fq10_0 fq10_1 fq10_2 fq10_3 fq11_0 fq11_1 fq11_2 fq11_3
  have HL19 := Lib.hid (bstep HL18.out hb)
  have HB19 := Lib.hid (HB18.out.bel hb)
  clear hb
  clear HL18 HB18
  go_wp2
  go_ret
  exact ⟨rfl, HL19.out⟩
end Go.Proofs.Gv
