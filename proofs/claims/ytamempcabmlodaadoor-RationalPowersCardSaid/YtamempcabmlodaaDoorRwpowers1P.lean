/- Layer 02: the anchor of the statements. -/
import Derived.Test.YtamempcabmlodaaDoorRatJ3P
import Derived.Test.YtamempcabmlodaaDoorRwawk1
import Derived.Test.YtamempcabmlodaaDoorBoxesP
import Derived.Test.YtamempcabmlodaaDoorLawKitP
import Derived.Test.YtamempcabmlodaaDoorRatTabP
import Derived.LoopN
set_option linter.unusedSimpArgs false
set_option linter.unusedVariables false
namespace Go.Proofs.Gv
open Go Go.RowKit

theorem ratP_ex1 : ratP [45, 51, 47, 50] = some (Rat.divInt (-3) 2) := by decide +kernel
theorem ratP_ex2 : ratP [54, 47, 52] = none := by decide +kernel
theorem q10 : Qb 10 (Rat.divInt 1 3) ∧ Qb 10 (Rat.divInt 2 5) ∧ Qb 10 (Rat.divInt 3 10) ∧ Qb 10 (Rat.divInt (-1) 2) ∧ Qb 10 (Rat.divInt 5 1) ∧ Qb 10 (Rat.divInt (-3) 2) :=
  ⟨⟨by decide +kernel, by decide +kernel⟩, ⟨by decide +kernel, by decide +kernel⟩, ⟨by decide +kernel, by decide +kernel⟩, ⟨by decide +kernel, by decide +kernel⟩, ⟨by decide +kernel, by decide +kernel⟩, ⟨by decide +kernel, by decide +kernel⟩⟩
theorem cAwake02 (W : World) : Calls Tryd.prog 11 #[] W fun e w' => e = .returned (.bool true) ∧ Below W.heap.size W w' := by
  obtain ⟨Q1, Q2, Q3, Q4, Q5, Q6⟩ := q10
  have r1 := cRatio (x := 1) (y := 3) (by decide) (by decide) (by decide) (by decide) (by decide)
  have r2 := cRatio (x := 2) (y := 5) (by decide) (by decide) (by decide) (by decide) (by decide)
  have r3 := cRatio (x := 3) (y := 10) (by decide) (by decide) (by decide) (by decide) (by decide)
  have r4 := cRatio (x := -1) (y := 2) (by decide) (by decide) (by decide) (by decide) (by decide)
  have r5 := cRatio (x := 5) (y := 1) (by decide) (by decide) (by decide) (by decide) (by decide)
  have r6 := cRatio (x := 0) (y := 1) (by decide) (by decide) (by decide) (by decide) (by decide)
  have r7 := cRatio (x := 6) (y := -4) (by decide) (by decide) (by decide) (by decide) (by decide)
  rw [Rat.zero_divInt] at r6
  rw [rat_aw4] at r7
  have s1 := fun W => cQSim (Q1.rq (by decide)) (Q2.rq (by decide)) Q1 Q2 (by decide) (by decide +kernel) W
  have s2 := fun W => cQSim (Q3.rq (by decide)) (Q2.rq (by decide)) Q3 Q2 (by decide) (by decide +kernel) W
  have s3 := fun W => cQSim (Q4.rq (by decide)) (Q5.rq (by decide)) Q4 Q5 (by decide) (by decide +kernel) W
  rw [rat_aw1] at s1
  rw [rat_aw2] at s2
  rw [rat_aw3] at s3
  have p1 := fun W => cQParse (s := ⟨#[45, 51, 47, 50]⟩) (by decide) W
  have p2 := fun W => cQParse (s := ⟨#[54, 47, 52]⟩) (by decide) W
  rw [show (⟨#[45, 51, 47, 50]⟩ : ByteArray).data.toList = [45, 51, 47, 50] from rfl, ratP_ex1] at p1
  rw [show (⟨#[54, 47, 52]⟩ : ByteArray).data.toList = [54, 47, 52] from rfl, ratP_ex2] at p2
  have f1 := fun W => cQFloor (Q6.rq (by decide)) W
  rw [rat_aw5] at f1
  have o1 := cOf (-2) (by decide) (by decide)
  have t1 := fun W => cQPrint (Q6.rq (by decide)) W
  rw [ratT_P ratP_ex1] at t1
  have c1 := cQCheckV Q6 (by decide)
  have c2 := fun W => cQCheck (na := false) (ma := false) (sa := ⟨#[]⟩) (ta := ⟨#[]⟩) (a := 0) ⟨by rw [show iv false ⟨#[]⟩ = 0 from Rp.zero.val, Rat.divInt_zero], by decide, by decide⟩ W
  have hne : ¬ eqQ (sgn (0 : Rat).num) (mg (0 : Rat).num.natAbs) false (mg (0 : Rat).den) false ⟨#[]⟩ false ⟨#[]⟩ = true := fun h => by
    have h2 := (eqQ_iff.1 h).2.2
    have h3 := congrArg ByteArray.size h2
    exact absurd h3 (by decide +kernel)
  rw [if_neg hne] at c2
  exact awake_w W r1 r2 s1 r3 s2 r4 r5 s3 p1 p2 r6 r7 f1 o1 t1 c1 c2
end Go.Proofs.Gv

namespace Go.Proofs.Gv
open Go Go.RowKit

/-- A number of few bytes. -/
theorem rq_small {n m : Bool} {s t : ByteArray} (k : Nat) (hk : k ≤ 1000) (h1 : s.size ≤ k) (h2 : t.size ≤ k) : ∃ a N, Rq n s m t a ∧ Qb N a ∧ N ≤ 8 * k + 8 := by
  have h : Rq n s m t (Rat.divInt (iv n s) (iv m t)) := ⟨rfl, by omega, by omega⟩
  exact ⟨_, 8 * (k + 1), h, h.qb (by omega) (by omega) (by omega), by omega⟩
end Go.Proofs.Gv

namespace Go.Proofs.Gv
open Go Go.RowKit

set_option maxRecDepth 100000 in
set_option maxHeartbeats 4000000 in
theorem powers_great0 (na ma : Bool) (sa ta : ByteArray) (nb mb : Bool) (sb tb : ByteArray) (n0 m0 : Int) (hn0 : 0 ≤ n0 ∧ n0 ≤ 255) (hm0 : 0 ≤ m0 ∧ m0 ≤ 255) (h0 : (8 : Int) < sa.size) (w : World)
    (H1 : ∀ W, Calls Tryd.prog 11 #[] W fun e w' => e = .returned (.bool true) ∧ Below W.heap.size W w')
    : Calls Tryd.prog 9 #[.agg #[.bool na, .string sa, .bool ma, .string ta], .agg #[.bool nb, .string sb, .bool mb, .string tb], .int .u8 n0, .int .u8 m0] w fun e w' => e = .returned (.bool true) ∧ Below w.heap.size w w' := by
  replace H1 := Lib.hid H1
  have hn1 : 0 ≤ n0 % 21 ∧ n0 % 21 ≤ 20 := by omega
  have hm1 : 0 ≤ m0 % 21 ∧ m0 % 21 ≤ 20 := by omega
  go_enter Tryd.func9, Tryd.ntmps9
  have HL0 := Lib.hid (Below.refl w.heap.size w)
  have HB0 := Lib.hid (show Bs [] w from trivial)
  have HO0 := Lib.hid (show w.heap.size ≤ w.heap.size from by have := HL0.out.size; first | omega | (simp at this; omega))
  have HL1 := Lib.hid (HL0.out.alloc HL0.out.size (.cells #[.bool na, .string sa, .bool ma, .string ta] 25))
  have HB1 := Lib.hid (HB0.out.push (w.heap.size) #[.bool na, .string sa, .bool ma, .string ta] 25 (by first | rfl | simp))
  clear HL0 HB0
  have HO1 := Lib.hid (show w.heap.size < w.heap.size + 1 from by have := (HB1.out.1).lt; first | omega | (simp at this; omega))
  have HL2 := Lib.hid (HL1.out.alloc HL1.out.size (.cells #[.bool nb, .string sb, .bool mb, .string tb] 25))
  have HB2 := Lib.hid (HB1.out.push (w.heap.size + 1) #[.bool nb, .string sb, .bool mb, .string tb] 25 (by first | rfl | simp))
  clear HL1 HB1
  have fx0_0_2 := (HB2.out.2.1).at 0 (.bool na) rfl
  have fx0_1_2 := (HB2.out.2.1).at 1 (.string sa) rfl
  have fx0_2_2 := (HB2.out.2.1).at 2 (.bool ma) rfl
  have fx0_3_2 := (HB2.out.2.1).at 3 (.string ta) rfl
  have fx1_0_2 := (HB2.out.1).at 0 (.bool nb) rfl
  have fx1_1_2 := (HB2.out.1).at 1 (.string sb) rfl
  have fx1_2_2 := (HB2.out.1).at 2 (.bool mb) rfl
  have fx1_3_2 := (HB2.out.1).at 3 (.string tb) rfl
  have HO2 := Lib.hid (show w.heap.size + 1 < w.heap.size + 1 + 1 from by have := (HB2.out.1).lt; first | omega | (simp at this; omega))
  have HL3 := Lib.hid (HL2.out.alloc HL2.out.size (.cells #[.bool na, .string sa, .bool ma, .string ta, .bool nb, .string sb, .bool mb, .string tb] 23))
  have HB3 := Lib.hid (HB2.out.push (w.heap.size + 1 + 1) #[.bool na, .string sa, .bool ma, .string ta, .bool nb, .string sb, .bool mb, .string tb] 23 (by first | rfl | simp))
  clear HL2 HB2
  go_wp2_with fail
  refine wp_loop_rounds 1 ?_
  rw [rounds_succ]
  have fx2_0_3 := (HB3.out.1).at 0 (.bool na) rfl
  have fx2_1_3 := (HB3.out.1).at 1 (.string sa) rfl
  have HO3 := Lib.hid (show w.heap.size + 1 + 1 < w.heap.size + 1 + 1 + 1 from by have := (HB3.out.1).lt; first | omega | (simp at this; omega))
  have HL4 := Lib.hid (HL3.out.alloc HL3.out.size (.cells #[.bool na, .string sa] 23))
  have HB4 := Lib.hid (HB3.out.push (w.heap.size + 1 + 1 + 1) #[.bool na, .string sa] 23 (by first | rfl | simp))
  clear HL3 HB3
  have fx3_1_4 := (HB4.out.1).at 1 (.string sa) rfl
  go_wp2_with fail
  refine (H1.out _).mono ?_
  rintro e w1 ⟨rfl, hb⟩
  have HL5 := Lib.hid (bstep HL4.out hb)
  have HB5 := Lib.hid (HB4.out.bel hb)
  clear hb
  clear HL4 HB4 fx0_0_2 fx0_1_2 fx0_2_2 fx0_3_2 fx1_0_2 fx1_1_2 fx1_2_2 fx1_3_2 fx2_0_3 fx2_1_3 fx3_1_4
  go_wp2
  go_ret
  exact ⟨rfl, HL5.out⟩
end Go.Proofs.Gv
