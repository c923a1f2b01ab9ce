/- Layer 02: functions of rational, walked over the results of what they call (printed by gen02p.py). -/
import Derived.Test.YtamempcabmlodaaDoorRatTabP
import Derived.Test.YtamempcabmlodaaDoorBoxesP
import Derived.Test.YtamempcabmlodaaDoorLawKitP
import Derived.LoopN
set_option linter.unusedSimpArgs false
set_option linter.unusedVariables false
namespace Go.Proofs.Gv
open Go Go.RowKit

set_option maxRecDepth 100000 in
set_option maxHeartbeats 4000000 in
theorem powers_great1 (na ma : Bool) (sa ta : ByteArray) (nb mb : Bool) (sb tb : ByteArray) (n0 m0 : Int) (hn0 : 0 ≤ n0 ∧ n0 ≤ 255) (hm0 : 0 ≤ m0 ∧ m0 ≤ 255) (h0 : decide ((8 : Int) < sa.size) = false) (h1 : (8 : Int) < ta.size) (w : World)
    (H1 : ∀ W, Calls Tryd.prog 11 #[] W fun e w' => e = .returned (.bool true) ∧ Below W.heap.size W w')
    : Calls Tryd.prog 9 #[.agg #[.bool na, .string sa, .bool ma, .string ta], .agg #[.bool nb, .string sb, .bool mb, .string tb], .int .u8 n0, .int .u8 m0] w fun e w' => e = .returned (.bool true) ∧ Below w.heap.size w w' := by
  replace H1 := Lib.hid H1
  have hn1 : 0 ≤ n0 % 21 ∧ n0 % 21 ≤ 20 := by omega
  have hm1 : 0 ≤ m0 % 21 ∧ m0 % 21 ≤ 20 := by omega
  go_enter Tryd.func9, Tryd.ntmps9
  have HL0 := Lib.hid (Below.refl w.heap.size w)
  have HB0 := Lib.hid (show Bs [] w from trivial)
  have HO0 := Lib.hid (show w.heap.size ≤ w.heap.size from by have := HL0.out.size; first | omega | (simp at this; omega))
  have HL1 := Lib.hid (HL0.out.alloc HL0.out.size (.cells #[.bool na, .string sa, .bool ma, .string ta] 25))
  have HB1 := Lib.hid (HB0.out.push (w.heap.size) #[.bool na, .string sa, .bool ma, .string ta] 25 (by first | rfl | simp))
  clear HL0 HB0
  have HO1 := Lib.hid (show w.heap.size < w.heap.size + 1 from by have := (HB1.out.1).lt; first | omega | (simp at this; omega))
  have HL2 := Lib.hid (HL1.out.alloc HL1.out.size (.cells #[.bool nb, .string sb, .bool mb, .string tb] 25))
  have HB2 := Lib.hid (HB1.out.push (w.heap.size + 1) #[.bool nb, .string sb, .bool mb, .string tb] 25 (by first | rfl | simp))
  clear HL1 HB1
  have fx0_0_2 := (HB2.out.2.1).at 0 (.bool na) rfl
  have fx0_1_2 := (HB2.out.2.1).at 1 (.string sa) rfl
  have fx0_2_2 := (HB2.out.2.1).at 2 (.bool ma) rfl
  have fx0_3_2 := (HB2.out.2.1).at 3 (.string ta) rfl
  have fx1_0_2 := (HB2.out.1).at 0 (.bool nb) rfl
  have fx1_1_2 := (HB2.out.1).at 1 (.string sb) rfl
  have fx1_2_2 := (HB2.out.1).at 2 (.bool mb) rfl
  have fx1_3_2 := (HB2.out.1).at 3 (.string tb) rfl
  have HO2 := Lib.hid (show w.heap.size + 1 < w.heap.size + 1 + 1 from by have := (HB2.out.1).lt; first | omega | (simp at this; omega))
  have HL3 := Lib.hid (HL2.out.alloc HL2.out.size (.cells #[.bool na, .string sa, .bool ma, .string ta, .bool nb, .string sb, .bool mb, .string tb] 23))
  have HB3 := Lib.hid (HB2.out.push (w.heap.size + 1 + 1) #[.bool na, .string sa, .bool ma, .string ta, .bool nb, .string sb, .bool mb, .string tb] 23 (by first | rfl | simp))
  clear HL2 HB2
  go_wp2_with fail
  refine wp_loop_rounds 2 ?_
  rw [rounds_succ]
  have fx2_0_3 := (HB3.out.1).at 0 (.bool na) rfl
  have fx2_1_3 := (HB3.out.1).at 1 (.string sa) rfl
  have HO3 := Lib.hid (show w.heap.size + 1 + 1 < w.heap.size + 1 + 1 + 1 from by have := (HB3.out.1).lt; first | omega | (simp at this; omega))
  have HL4 := Lib.hid (HL3.out.alloc HL3.out.size (.cells #[.bool na, .string sa] 23))
  have HB4 := Lib.hid (HB3.out.push (w.heap.size + 1 + 1 + 1) #[.bool na, .string sa] 23 (by first | rfl | simp))
  clear HL3 HB3
  have fx3_1_4 := (HB4.out.1).at 1 (.string sa) rfl
  go_wp2_with fail
  rw [rounds_succ]
  have fx2_2_4 := (HB4.out.2.1).at 2 (.bool ma) rfl
  have fx2_3_4 := (HB4.out.2.1).at 3 (.string ta) rfl
  have HO4 := Lib.hid (show w.heap.size + 1 + 1 + 1 < w.heap.size + 1 + 1 + 1 + 1 from by have := (HB4.out.1).lt; first | omega | (simp at this; omega))
  have HL5 := Lib.hid (HL4.out.alloc HL4.out.size (.cells #[.bool ma, .string ta] 23))
  have HB5 := Lib.hid (HB4.out.push (w.heap.size + 1 + 1 + 1 + 1) #[.bool ma, .string ta] 23 (by first | rfl | simp))
  clear HL4 HB4
  have fx4_1_5 := (HB5.out.1).at 1 (.string ta) rfl
  go_wp2_with fail
  refine (H1.out _).mono ?_
  rintro e w1 ⟨rfl, hb⟩
  have HL6 := Lib.hid (bstep HL5.out hb)
  have HB6 := Lib.hid (HB5.out.bel hb)
  clear hb
  clear HL5 HB5 fx0_0_2 fx0_1_2 fx0_2_2 fx0_3_2 fx1_0_2 fx1_1_2 fx1_2_2 fx1_3_2 fx2_0_3 fx2_1_3 fx3_1_4 fx2_2_4 fx2_3_4 fx4_1_5
  go_wp2
  go_ret
  exact ⟨rfl, HL6.out⟩
end Go.Proofs.Gv

namespace Go.Proofs.Gv
open Go Go.RowKit

set_option maxRecDepth 100000 in
set_option maxHeartbeats 4000000 in
theorem powers_great2 (na ma : Bool) (sa ta : ByteArray) (nb mb : Bool) (sb tb : ByteArray) (n0 m0 : Int) (hn0 : 0 ≤ n0 ∧ n0 ≤ 255) (hm0 : 0 ≤ m0 ∧ m0 ≤ 255) (h0 : decide ((8 : Int) < sa.size) = false) (h1 : decide ((8 : Int) < ta.size) = false) (h2 : (8 : Int) < sb.size) (w : World)
    (H1 : ∀ W, Calls Tryd.prog 11 #[] W fun e w' => e = .returned (.bool true) ∧ Below W.heap.size W w')
    : Calls Tryd.prog 9 #[.agg #[.bool na, .string sa, .bool ma, .string ta], .agg #[.bool nb, .string sb, .bool mb, .string tb], .int .u8 n0, .int .u8 m0] w fun e w' => e = .returned (.bool true) ∧ Below w.heap.size w w' := by
  replace H1 := Lib.hid H1
  have hn1 : 0 ≤ n0 % 21 ∧ n0 % 21 ≤ 20 := by omega
  have hm1 : 0 ≤ m0 % 21 ∧ m0 % 21 ≤ 20 := by omega
  go_enter Tryd.func9, Tryd.ntmps9
  have HL0 := Lib.hid (Below.refl w.heap.size w)
  have HB0 := Lib.hid (show Bs [] w from trivial)
  have HO0 := Lib.hid (show w.heap.size ≤ w.heap.size from by have := HL0.out.size; first | omega | (simp at this; omega))
  have HL1 := Lib.hid (HL0.out.alloc HL0.out.size (.cells #[.bool na, .string sa, .bool ma, .string ta] 25))
  have HB1 := Lib.hid (HB0.out.push (w.heap.size) #[.bool na, .string sa, .bool ma, .string ta] 25 (by first | rfl | simp))
  clear HL0 HB0
  have HO1 := Lib.hid (show w.heap.size < w.heap.size + 1 from by have := (HB1.out.1).lt; first | omega | (simp at this; omega))
  have HL2 := Lib.hid (HL1.out.alloc HL1.out.size (.cells #[.bool nb, .string sb, .bool mb, .string tb] 25))
  have HB2 := Lib.hid (HB1.out.push (w.heap.size + 1) #[.bool nb, .string sb, .bool mb, .string tb] 25 (by first | rfl | simp))
  clear HL1 HB1
  have fx0_0_2 := (HB2.out.2.1).at 0 (.bool na) rfl
  have fx0_1_2 := (HB2.out.2.1).at 1 (.string sa) rfl
  have fx0_2_2 := (HB2.out.2.1).at 2 (.bool ma) rfl
  have fx0_3_2 := (HB2.out.2.1).at 3 (.string ta) rfl
  have fx1_0_2 := (HB2.out.1).at 0 (.bool nb) rfl
  have fx1_1_2 := (HB2.out.1).at 1 (.string sb) rfl
  have fx1_2_2 := (HB2.out.1).at 2 (.bool mb) rfl
  have fx1_3_2 := (HB2.out.1).at 3 (.string tb) rfl
  have HO2 := Lib.hid (show w.heap.size + 1 < w.heap.size + 1 + 1 from by have := (HB2.out.1).lt; first | omega | (simp at this; omega))
  have HL3 := Lib.hid (HL2.out.alloc HL2.out.size (.cells #[.bool na, .string sa, .bool ma, .string ta, .bool nb, .string sb, .bool mb, .string tb] 23))
  have HB3 := Lib.hid (HB2.out.push (w.heap.size + 1 + 1) #[.bool na, .string sa, .bool ma, .string ta, .bool nb, .string sb, .bool mb, .string tb] 23 (by first | rfl | simp))
  clear HL2 HB2
  go_wp2_with fail
  refine wp_loop_rounds 3 ?_
  rw [rounds_succ]
  have fx2_0_3 := (HB3.out.1).at 0 (.bool na) rfl
  have fx2_1_3 := (HB3.out.1).at 1 (.string sa) rfl
  have HO3 := Lib.hid (show w.heap.size + 1 + 1 < w.heap.size + 1 + 1 + 1 from by have := (HB3.out.1).lt; first | omega | (simp at this; omega))
  have HL4 := Lib.hid (HL3.out.alloc HL3.out.size (.cells #[.bool na, .string sa] 23))
  have HB4 := Lib.hid (HB3.out.push (w.heap.size + 1 + 1 + 1) #[.bool na, .string sa] 23 (by first | rfl | simp))
  clear HL3 HB3
  have fx3_1_4 := (HB4.out.1).at 1 (.string sa) rfl
  go_wp2_with fail
  rw [rounds_succ]
  have fx2_2_4 := (HB4.out.2.1).at 2 (.bool ma) rfl
  have fx2_3_4 := (HB4.out.2.1).at 3 (.string ta) rfl
  have HO4 := Lib.hid (show w.heap.size + 1 + 1 + 1 < w.heap.size + 1 + 1 + 1 + 1 from by have := (HB4.out.1).lt; first | omega | (simp at this; omega))
  have HL5 := Lib.hid (HL4.out.alloc HL4.out.size (.cells #[.bool ma, .string ta] 23))
  have HB5 := Lib.hid (HB4.out.push (w.heap.size + 1 + 1 + 1 + 1) #[.bool ma, .string ta] 23 (by first | rfl | simp))
  clear HL4 HB4
  have fx4_1_5 := (HB5.out.1).at 1 (.string ta) rfl
  go_wp2_with fail
  rw [rounds_succ]
  have fx2_4_5 := (HB5.out.2.2.1).at 4 (.bool nb) rfl
  have fx2_5_5 := (HB5.out.2.2.1).at 5 (.string sb) rfl
  have HO5 := Lib.hid (show w.heap.size + 1 + 1 + 1 + 1 < w.heap.size + 1 + 1 + 1 + 1 + 1 from by have := (HB5.out.1).lt; first | omega | (simp at this; omega))
  have HL6 := Lib.hid (HL5.out.alloc HL5.out.size (.cells #[.bool nb, .string sb] 23))
  have HB6 := Lib.hid (HB5.out.push (w.heap.size + 1 + 1 + 1 + 1 + 1) #[.bool nb, .string sb] 23 (by first | rfl | simp))
  clear HL5 HB5
  have fx5_1_6 := (HB6.out.1).at 1 (.string sb) rfl
  go_wp2_with fail
  refine (H1.out _).mono ?_
  rintro e w1 ⟨rfl, hb⟩
  have HL7 := Lib.hid (bstep HL6.out hb)
  have HB7 := Lib.hid (HB6.out.bel hb)
  clear hb
  clear HL6 HB6 fx0_0_2 fx0_1_2 fx0_2_2 fx0_3_2 fx1_0_2 fx1_1_2 fx1_2_2 fx1_3_2 fx2_0_3 fx2_1_3 fx3_1_4 fx2_2_4 fx2_3_4 fx4_1_5 fx2_4_5 fx2_5_5 fx5_1_6
  go_wp2
  go_ret
  exact ⟨rfl, HL7.out⟩
end Go.Proofs.Gv

namespace Go.Proofs.Gv
open Go Go.RowKit

set_option maxRecDepth 100000 in
set_option maxHeartbeats 4000000 in
theorem powers_great3 (na ma : Bool) (sa ta : ByteArray) (nb mb : Bool) (sb tb : ByteArray) (n0 m0 : Int) (hn0 : 0 ≤ n0 ∧ n0 ≤ 255) (hm0 : 0 ≤ m0 ∧ m0 ≤ 255) (h0 : decide ((8 : Int) < sa.size) = false) (h1 : decide ((8 : Int) < ta.size) = false) (h2 : decide ((8 : Int) < sb.size) = false) (h3 : (8 : Int) < tb.size) (w : World)
    (H1 : ∀ W, Calls Tryd.prog 11 #[] W fun e w' => e = .returned (.bool true) ∧ Below W.heap.size W w')
    : Calls Tryd.prog 9 #[.agg #[.bool na, .string sa, .bool ma, .string ta], .agg #[.bool nb, .string sb, .bool mb, .string tb], .int .u8 n0, .int .u8 m0] w fun e w' => e = .returned (.bool true) ∧ Below w.heap.size w w' := by
  replace H1 := Lib.hid H1
  have hn1 : 0 ≤ n0 % 21 ∧ n0 % 21 ≤ 20 := by omega
  have hm1 : 0 ≤ m0 % 21 ∧ m0 % 21 ≤ 20 := by omega
  go_enter Tryd.func9, Tryd.ntmps9
  have HL0 := Lib.hid (Below.refl w.heap.size w)
  have HB0 := Lib.hid (show Bs [] w from trivial)
  have HO0 := Lib.hid (show w.heap.size ≤ w.heap.size from by have := HL0.out.size; first | omega | (simp at this; omega))
  have HL1 := Lib.hid (HL0.out.alloc HL0.out.size (.cells #[.bool na, .string sa, .bool ma, .string ta] 25))
  have HB1 := Lib.hid (HB0.out.push (w.heap.size) #[.bool na, .string sa, .bool ma, .string ta] 25 (by first | rfl | simp))
  clear HL0 HB0
  have HO1 := Lib.hid (show w.heap.size < w.heap.size + 1 from by have := (HB1.out.1).lt; first | omega | (simp at this; omega))
  have HL2 := Lib.hid (HL1.out.alloc HL1.out.size (.cells #[.bool nb, .string sb, .bool mb, .string tb] 25))
  have HB2 := Lib.hid (HB1.out.push (w.heap.size + 1) #[.bool nb, .string sb, .bool mb, .string tb] 25 (by first | rfl | simp))
  clear HL1 HB1
  have fx0_0_2 := (HB2.out.2.1).at 0 (.bool na) rfl
  have fx0_1_2 := (HB2.out.2.1).at 1 (.string sa) rfl
  have fx0_2_2 := (HB2.out.2.1).at 2 (.bool ma) rfl
  have fx0_3_2 := (HB2.out.2.1).at 3 (.string ta) rfl
  have fx1_0_2 := (HB2.out.1).at 0 (.bool nb) rfl
  have fx1_1_2 := (HB2.out.1).at 1 (.string sb) rfl
  have fx1_2_2 := (HB2.out.1).at 2 (.bool mb) rfl
  have fx1_3_2 := (HB2.out.1).at 3 (.string tb) rfl
  have HO2 := Lib.hid (show w.heap.size + 1 < w.heap.size + 1 + 1 from by have := (HB2.out.1).lt; first | omega | (simp at this; omega))
  have HL3 := Lib.hid (HL2.out.alloc HL2.out.size (.cells #[.bool na, .string sa, .bool ma, .string ta, .bool nb, .string sb, .bool mb, .string tb] 23))
  have HB3 := Lib.hid (HB2.out.push (w.heap.size + 1 + 1) #[.bool na, .string sa, .bool ma, .string ta, .bool nb, .string sb, .bool mb, .string tb] 23 (by first | rfl | simp))
  clear HL2 HB2
  go_wp2_with fail
  refine wp_loop_rounds 4 ?_
  rw [rounds_succ]
  have fx2_0_3 := (HB3.out.1).at 0 (.bool na) rfl
  have fx2_1_3 := (HB3.out.1).at 1 (.string sa) rfl
  have HO3 := Lib.hid (show w.heap.size + 1 + 1 < w.heap.size + 1 + 1 + 1 from by have := (HB3.out.1).lt; first | omega | (simp at this; omega))
  have HL4 := Lib.hid (HL3.out.alloc HL3.out.size (.cells #[.bool na, .string sa] 23))
  have HB4 := Lib.hid (HB3.out.push (w.heap.size + 1 + 1 + 1) #[.bool na, .string sa] 23 (by first | rfl | simp))
  clear HL3 HB3
  have fx3_1_4 := (HB4.out.1).at 1 (.string sa) rfl
  go_wp2_with fail
  rw [rounds_succ]
  have fx2_2_4 := (HB4.out.2.1).at 2 (.bool ma) rfl
  have fx2_3_4 := (HB4.out.2.1).at 3 (.string ta) rfl
  have HO4 := Lib.hid (show w.heap.size + 1 + 1 + 1 < w.heap.size + 1 + 1 + 1 + 1 from by have := (HB4.out.1).lt; first | omega | (simp at this; omega))
  have HL5 := Lib.hid (HL4.out.alloc HL4.out.size (.cells #[.bool ma, .string ta] 23))
  have HB5 := Lib.hid (HB4.out.push (w.heap.size + 1 + 1 + 1 + 1) #[.bool ma, .string ta] 23 (by first | rfl | simp))
  clear HL4 HB4
  have fx4_1_5 := (HB5.out.1).at 1 (.string ta) rfl
  go_wp2_with fail
  rw [rounds_succ]
  have fx2_4_5 := (HB5.out.2.2.1).at 4 (.bool nb) rfl
  have fx2_5_5 := (HB5.out.2.2.1).at 5 (.string sb) rfl
  have HO5 := Lib.hid (show w.heap.size + 1 + 1 + 1 + 1 < w.heap.size + 1 + 1 + 1 + 1 + 1 from by have := (HB5.out.1).lt; first | omega | (simp at this; omega))
  have HL6 := Lib.hid (HL5.out.alloc HL5.out.size (.cells #[.bool nb, .string sb] 23))
  have HB6 := Lib.hid (HB5.out.push (w.heap.size + 1 + 1 + 1 + 1 + 1) #[.bool nb, .string sb] 23 (by first | rfl | simp))
  clear HL5 HB5
  have fx5_1_6 := (HB6.out.1).at 1 (.string sb) rfl
  go_wp2_with fail
  rw [rounds_succ]
  have fx2_6_6 := (HB6.out.2.2.2.1).at 6 (.bool mb) rfl
  have fx2_7_6 := (HB6.out.2.2.2.1).at 7 (.string tb) rfl
  have HO6 := Lib.hid (show w.heap.size + 1 + 1 + 1 + 1 + 1 < w.heap.size + 1 + 1 + 1 + 1 + 1 + 1 from by have := (HB6.out.1).lt; first | omega | (simp at this; omega))
  have HL7 := Lib.hid (HL6.out.alloc HL6.out.size (.cells #[.bool mb, .string tb] 23))
  have HB7 := Lib.hid (HB6.out.push (w.heap.size + 1 + 1 + 1 + 1 + 1 + 1) #[.bool mb, .string tb] 23 (by first | rfl | simp))
  clear HL6 HB6
  have fx6_1_7 := (HB7.out.1).at 1 (.string tb) rfl
  go_wp2_with fail
  refine (H1.out _).mono ?_
  rintro e w1 ⟨rfl, hb⟩
  have HL8 := Lib.hid (bstep HL7.out hb)
  have HB8 := Lib.hid (HB7.out.bel hb)
  clear hb
  clear HL7 HB7 fx0_0_2 fx0_1_2 fx0_2_2 fx0_3_2 fx1_0_2 fx1_1_2 fx1_2_2 fx1_3_2 fx2_0_3 fx2_1_3 fx3_1_4 fx2_2_4 fx2_3_4 fx4_1_5 fx2_4_5 fx2_5_5 fx5_1_6 fx2_6_6 fx2_7_6 fx6_1_7
  go_wp2
  go_ret
  exact ⟨rfl, HL8.out⟩
end Go.Proofs.Gv
