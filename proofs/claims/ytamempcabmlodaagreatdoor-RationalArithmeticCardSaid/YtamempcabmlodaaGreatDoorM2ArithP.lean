/- Layer 02: functions of rational, walked over the results of what they call (printed by gen02f.py). -/
import Derived.Test.YtamempcabmlodaaGreatDoorRatTabP
import Derived.Test.YtamempcabmlodaaGreatDoorM2FloorP
import Derived.Test.YtamempcabmlodaaGreatDoorRwarith1P
set_option linter.unusedSimpArgs false
set_option linter.unusedVariables false
namespace Go.Proofs.Gv
open Go Go.RowKit

set_option maxRecDepth 100000 in
set_option maxHeartbeats 4000000 in
theorem arith_law {nx mx nu mu ne me nk mk nad mad nsu msu nmu mmu nng mng nf : Bool} {sx tx su tu se te sk tk sad tad ssu tsu smu tmu sng tng sf : ByteArray} {e1 n0 d0 e2 e3 c1 c2 : Int} (na ma : Bool) (sa ta : ByteArray) (nb mb : Bool) (sb tb : ByteArray) (hgz : ∀ x ∈ ([(na, sa, ma, ta), (nb, sb, mb, tb)] : List (Bool × ByteArray × Bool × ByteArray)), x.2.1.size ≤ maxLen ∧ x.2.2.2.size ≤ maxLen) (hgr : grQ 24 [(na, sa, ma, ta), (nb, sb, mb, tb)] = false) (w : World)
    (H1 : ∀ W, Calls Tryz.prog 7 #[.agg #[.bool na, .string sa], .agg #[.bool mb, .string tb]] W fun e w' => e = .returned (.tuple #[.agg #[.bool nx, .string sx, .bool mx, .string tx], .int .i64 e1]) ∧ Below W.heap.size W w')
    (H2 : ∀ W, Calls Tryz.prog 8 #[.agg #[.bool na, .string sa], .agg #[.bool mb, .string tb]] W fun e w' => e = .returned (.tuple #[.agg #[.bool nx, .string sx, .bool mx, .string tx], .int .i64 e1]) ∧ Below W.heap.size W w')
    (H3 : ∀ W, Calls Tryz.prog 9 #[.int .i64 n0, .int .i64 d0] W fun e w' => e = .returned (.tuple #[.agg #[.bool nu, .string su, .bool mu, .string tu], .int .i64 e2]) ∧ Below W.heap.size W w')
    (H4 : ∀ W, Calls Tryz.prog 10 #[.int .i64 n0, .int .i64 d0] W fun e w' => e = .returned (.tuple #[.agg #[.bool nu, .string su, .bool mu, .string tu], .int .i64 e2]) ∧ Below W.heap.size W w')
    (H5 : ∀ W, Calls Tryz.prog 11 #[.agg #[.bool na, .string sa, .bool ma, .string ta], .agg #[.bool nb, .string sb, .bool mb, .string tb]] W fun e w' => e = .returned (.tuple #[.agg #[.bool ne, .string se, .bool me, .string te], .int .i64 e3]) ∧ Below W.heap.size W w')
    (H6 : ∀ W, Calls Tryz.prog 12 #[.agg #[.bool na, .string sa, .bool ma, .string ta], .agg #[.bool nb, .string sb, .bool mb, .string tb]] W fun e w' => e = .returned (.tuple #[.agg #[.bool ne, .string se, .bool me, .string te], .int .i64 e3]) ∧ Below W.heap.size W w')
    (H7 : ∀ W, Calls Tryz.prog 13 #[.agg #[.bool na, .string sa, .bool ma, .string ta]] W fun e w' => e = .returned (.int .i64 c1) ∧ Below W.heap.size W w')
    (H8 : ∀ W, Calls Tryz.prog 14 #[.agg #[.bool na, .string sa, .bool ma, .string ta]] W fun e w' => e = .returned (.int .i64 c1) ∧ Below W.heap.size W w')
    (H9 : ∀ W, Calls Tryz.prog 15 #[.agg #[.bool ma, .string ta]] W fun e w' => e = .returned (.agg #[.bool nk, .string sk, .bool mk, .string tk]) ∧ Below W.heap.size W w')
    (H10 : ∀ W, Calls Tryz.prog 16 #[.agg #[.bool ma, .string ta]] W fun e w' => e = .returned (.agg #[.bool nk, .string sk, .bool mk, .string tk]) ∧ Below W.heap.size W w')
    (H11 : ∀ W, Calls Tryz.prog 17 #[.agg #[.bool na, .string sa, .bool ma, .string ta], .agg #[.bool nb, .string sb, .bool mb, .string tb]] W fun e w' => e = .returned (.agg #[.bool nad, .string sad, .bool mad, .string tad]) ∧ Below W.heap.size W w')
    (H12 : ∀ W, Calls Tryz.prog 18 #[.agg #[.bool na, .string sa, .bool ma, .string ta], .agg #[.bool nb, .string sb, .bool mb, .string tb]] W fun e w' => e = .returned (.agg #[.bool nad, .string sad, .bool mad, .string tad]) ∧ Below W.heap.size W w')
    (H13 : ∀ W, Calls Tryz.prog 19 #[.agg #[.bool na, .string sa, .bool ma, .string ta], .agg #[.bool nb, .string sb, .bool mb, .string tb]] W fun e w' => e = .returned (.agg #[.bool nsu, .string ssu, .bool msu, .string tsu]) ∧ Below W.heap.size W w')
    (H14 : ∀ W, Calls Tryz.prog 20 #[.agg #[.bool na, .string sa, .bool ma, .string ta], .agg #[.bool nb, .string sb, .bool mb, .string tb]] W fun e w' => e = .returned (.agg #[.bool nsu, .string ssu, .bool msu, .string tsu]) ∧ Below W.heap.size W w')
    (H15 : ∀ W, Calls Tryz.prog 21 #[.agg #[.bool na, .string sa, .bool ma, .string ta], .agg #[.bool nb, .string sb, .bool mb, .string tb]] W fun e w' => e = .returned (.agg #[.bool nmu, .string smu, .bool mmu, .string tmu]) ∧ Below W.heap.size W w')
    (H16 : ∀ W, Calls Tryz.prog 22 #[.agg #[.bool na, .string sa, .bool ma, .string ta], .agg #[.bool nb, .string sb, .bool mb, .string tb]] W fun e w' => e = .returned (.agg #[.bool nmu, .string smu, .bool mmu, .string tmu]) ∧ Below W.heap.size W w')
    (H17 : ∀ W, Calls Tryz.prog 23 #[.agg #[.bool na, .string sa, .bool ma, .string ta]] W fun e w' => e = .returned (.agg #[.bool nng, .string sng, .bool mng, .string tng]) ∧ Below W.heap.size W w')
    (H18 : ∀ W, Calls Tryz.prog 24 #[.agg #[.bool na, .string sa, .bool ma, .string ta]] W fun e w' => e = .returned (.agg #[.bool nng, .string sng, .bool mng, .string tng]) ∧ Below W.heap.size W w')
    (H19 : ∀ W, Calls Tryz.prog 25 #[.agg #[.bool na, .string sa, .bool ma, .string ta], .agg #[.bool nb, .string sb, .bool mb, .string tb]] W fun e w' => e = .returned (.int .i64 c2) ∧ Below W.heap.size W w')
    (H20 : ∀ W, Calls Tryz.prog 26 #[.agg #[.bool na, .string sa, .bool ma, .string ta], .agg #[.bool nb, .string sb, .bool mb, .string tb]] W fun e w' => e = .returned (.int .i64 c2) ∧ Below W.heap.size W w')
    (H21 : ∀ W, Calls Tryz.prog 27 #[.agg #[.bool na, .string sa, .bool ma, .string ta]] W fun e w' => e = .returned (.agg #[.bool nf, .string sf]) ∧ Below W.heap.size W w')
    (H22 : ∀ W, Calls Tryz.prog 28 #[.agg #[.bool na, .string sa, .bool ma, .string ta]] W fun e w' => e = .returned (.agg #[.bool nf, .string sf]) ∧ Below W.heap.size W w')
    (H23 : ∀ W, Calls Tryz.prog 6 #[] W fun e w' => e = .returned (.bool true) ∧ Below W.heap.size W w')
    : Calls Tryz.prog 3 #[.agg #[.bool na, .string sa, .bool ma, .string ta], .agg #[.bool nb, .string sb, .bool mb, .string tb], .int .i64 n0, .int .i64 d0] w fun e w' => e = .returned (.bool true) ∧ Below w.heap.size w w' := by
  replace H1 := Lib.hid H1
  replace H2 := Lib.hid H2
  replace H3 := Lib.hid H3
  replace H4 := Lib.hid H4
  replace H5 := Lib.hid H5
  replace H6 := Lib.hid H6
  replace H7 := Lib.hid H7
  replace H8 := Lib.hid H8
  replace H9 := Lib.hid H9
  replace H10 := Lib.hid H10
  replace H11 := Lib.hid H11
  replace H12 := Lib.hid H12
  replace H13 := Lib.hid H13
  replace H14 := Lib.hid H14
  replace H15 := Lib.hid H15
  replace H16 := Lib.hid H16
  replace H17 := Lib.hid H17
  replace H18 := Lib.hid H18
  replace H19 := Lib.hid H19
  replace H20 := Lib.hid H20
  replace H21 := Lib.hid H21
  replace H22 := Lib.hid H22
  replace H23 := Lib.hid H23
  have HGZ := Lib.hid hgz
  clear hgz
  have qx : eqQ nx sx mx tx nx sx mx tx = true := eqQ_iff.2 ⟨⟨rfl, rfl⟩, ⟨rfl, rfl⟩⟩
  have qu : eqQ nu su mu tu nu su mu tu = true := eqQ_iff.2 ⟨⟨rfl, rfl⟩, ⟨rfl, rfl⟩⟩
  have qe : eqQ ne se me te ne se me te = true := eqQ_iff.2 ⟨⟨rfl, rfl⟩, ⟨rfl, rfl⟩⟩
  have qk : eqQ nk sk mk tk nk sk mk tk = true := eqQ_iff.2 ⟨⟨rfl, rfl⟩, ⟨rfl, rfl⟩⟩
  have qad : eqQ nad sad mad tad nad sad mad tad = true := eqQ_iff.2 ⟨⟨rfl, rfl⟩, ⟨rfl, rfl⟩⟩
  have qsu : eqQ nsu ssu msu tsu nsu ssu msu tsu = true := eqQ_iff.2 ⟨⟨rfl, rfl⟩, ⟨rfl, rfl⟩⟩
  have qmu : eqQ nmu smu mmu tmu nmu smu mmu tmu = true := eqQ_iff.2 ⟨⟨rfl, rfl⟩, ⟨rfl, rfl⟩⟩
  have qng : eqQ nng sng mng tng nng sng mng tng = true := eqQ_iff.2 ⟨⟨rfl, rfl⟩, ⟨rfl, rfl⟩⟩
  have qf : eqI nf sf nf sf = true := eqI_iff.2 ⟨rfl, rfl⟩
  go_enter Tryz.func3, Tryz.ntmps3
  have HL0 := Lib.hid (Below.refl w.heap.size w)
  have HB0 := Lib.hid (show Bs [] w from trivial)
  have HO0 := Lib.hid (show w.heap.size ≤ w.heap.size from by have := HL0.out.size; first | omega | (simp at this; omega))
  have HL1 := Lib.hid (HL0.out.alloc HL0.out.size (.cells #[.bool na, .string sa, .bool ma, .string ta] 25))
  have HB1 := Lib.hid (HB0.out.push (w.heap.size) #[.bool na, .string sa, .bool ma, .string ta] 25 (by first | rfl | simp))
  clear HL0 HB0
  have HO1 := Lib.hid (show w.heap.size < w.heap.size + 1 from by have := (HB1.out.1).lt; first | omega | (simp at this; omega))
  have HL2 := Lib.hid (HL1.out.alloc HL1.out.size (.cells #[.bool nb, .string sb, .bool mb, .string tb] 25))
  have HB2 := Lib.hid (HB1.out.push (w.heap.size + 1) #[.bool nb, .string sb, .bool mb, .string tb] 25 (by first | rfl | simp))
  clear HL1 HB1
  have fx0_0_2 := (HB2.out.2.1).at 0 (.bool na) rfl
  have fx0_1_2 := (HB2.out.2.1).at 1 (.string sa) rfl
  have fx0_2_2 := (HB2.out.2.1).at 2 (.bool ma) rfl
  have fx0_3_2 := (HB2.out.2.1).at 3 (.string ta) rfl
  have fx1_0_2 := (HB2.out.1).at 0 (.bool nb) rfl
  have fx1_1_2 := (HB2.out.1).at 1 (.string sb) rfl
  have fx1_2_2 := (HB2.out.1).at 2 (.bool mb) rfl
  have fx1_3_2 := (HB2.out.1).at 3 (.string tb) rfl
  have HO2 := Lib.hid (show w.heap.size + 1 < w.heap.size + 1 + 1 from by have := (HB2.out.1).lt; first | omega | (simp at this; omega))
  have HL3 := Lib.hid (HL2.out.alloc HL2.out.size (.cells #[.bool na, .string sa, .bool ma, .string ta, .bool nb, .string sb, .bool mb, .string tb] 25))
  have HB3 := Lib.hid (HB2.out.push (w.heap.size + 1 + 1) #[.bool na, .string sa, .bool ma, .string ta, .bool nb, .string sb, .bool mb, .string tb] 25 (by first | rfl | simp))
  clear HL2 HB2
  go_wp2_with fail
  refine (greatQ_box [(na, sa, ma, ta), (nb, sb, mb, tb)] (HB3.out.1) (show 2 ≤ 1000 by decide) HGZ.out).mono ?_
  rintro e w1 ⟨rfl, hb⟩
  have HL4 := Lib.hid (bstep HL3.out hb)
  have HB4 := Lib.hid (HB3.out.bel hb)
  clear hb
  clear HL3 HB3 fx0_0_2 fx0_1_2 fx0_2_2 fx0_3_2 fx1_0_2 fx1_1_2 fx1_2_2 fx1_3_2
  have fx0_0_4 := (HB4.out.2.2.1).at 0 (.bool na) rfl
  have fx0_1_4 := (HB4.out.2.2.1).at 1 (.string sa) rfl
  have fx1_2_4 := (HB4.out.2.1).at 2 (.bool mb) rfl
  have fx1_3_4 := (HB4.out.2.1).at 3 (.string tb) rfl
  go_wp2_with fail
  refine (H1.out _).mono ?_
  rintro e w2 ⟨rfl, hb⟩
  have HL5 := Lib.hid (bstep HL4.out hb)
  have HB5 := Lib.hid (HB4.out.bel hb)
  clear hb
  clear HL4 HB4 fx0_0_4 fx0_1_4 fx1_2_4 fx1_3_4
  have HO3 := Lib.hid (show w.heap.size + 1 + 1 < w2.heap.size from by have := (HB5.out.1).lt; first | omega | (simp at this; omega))
  have HL6 := Lib.hid (HL5.out.alloc HL5.out.size (.cells #[.bool nx, .string sx, .bool mx, .string tx] 25))
  have HB6 := Lib.hid (HB5.out.push (w2.heap.size) #[.bool nx, .string sx, .bool mx, .string tx] 25 (by first | rfl | simp))
  clear HL5 HB5
  have fx0_0_6 := (HB6.out.2.2.2.1).at 0 (.bool na) rfl
  have fx0_1_6 := (HB6.out.2.2.2.1).at 1 (.string sa) rfl
  have fx1_2_6 := (HB6.out.2.2.1).at 2 (.bool mb) rfl
  have fx1_3_6 := (HB6.out.2.2.1).at 3 (.string tb) rfl
  go_wp2_with fail
  refine (H2.out _).mono ?_
  rintro e w3 ⟨rfl, hb⟩
  have HL7 := Lib.hid (bstep HL6.out hb)
  have HB7 := Lib.hid (HB6.out.bel hb)
  clear hb
  clear HL6 HB6 fx0_0_6 fx0_1_6 fx1_2_6 fx1_3_6
  have HO4 := Lib.hid (show w2.heap.size < w3.heap.size from by have := (HB7.out.1).lt; first | omega | (simp at this; omega))
  have HL8 := Lib.hid (HL7.out.alloc HL7.out.size (.cells #[.bool nx, .string sx, .bool mx, .string tx] 25))
  have HB8 := Lib.hid (HB7.out.push (w3.heap.size) #[.bool nx, .string sx, .bool mx, .string tx] 25 (by first | rfl | simp))
  clear HL7 HB7
  go_wp2_with fail
  refine (H3.out _).mono ?_
  rintro e w4 ⟨rfl, hb⟩
  have HL9 := Lib.hid (bstep HL8.out hb)
  have HB9 := Lib.hid (HB8.out.bel hb)
  clear hb
  clear HL8 HB8
  have HO5 := Lib.hid (show w3.heap.size < w4.heap.size from by have := (HB9.out.1).lt; first | omega | (simp at this; omega))
  have HL10 := Lib.hid (HL9.out.alloc HL9.out.size (.cells #[.bool nu, .string su, .bool mu, .string tu] 25))
  have HB10 := Lib.hid (HB9.out.push (w4.heap.size) #[.bool nu, .string su, .bool mu, .string tu] 25 (by first | rfl | simp))
  clear HL9 HB9
  go_wp2_with fail
  refine (H4.out _).mono ?_
  rintro e w5 ⟨rfl, hb⟩
  have HL11 := Lib.hid (bstep HL10.out hb)
  have HB11 := Lib.hid (HB10.out.bel hb)
  clear hb
  clear HL10 HB10
  have HO6 := Lib.hid (show w4.heap.size < w5.heap.size from by have := (HB11.out.1).lt; first | omega | (simp at this; omega))
  have HL12 := Lib.hid (HL11.out.alloc HL11.out.size (.cells #[.bool nu, .string su, .bool mu, .string tu] 25))
  have HB12 := Lib.hid (HB11.out.push (w5.heap.size) #[.bool nu, .string su, .bool mu, .string tu] 25 (by first | rfl | simp))
  clear HL11 HB11
  have fx0_0_12 := (HB12.out.2.2.2.2.2.2.1).at 0 (.bool na) rfl
  have fx0_1_12 := (HB12.out.2.2.2.2.2.2.1).at 1 (.string sa) rfl
  have fx0_2_12 := (HB12.out.2.2.2.2.2.2.1).at 2 (.bool ma) rfl
  have fx0_3_12 := (HB12.out.2.2.2.2.2.2.1).at 3 (.string ta) rfl
  have fx1_0_12 := (HB12.out.2.2.2.2.2.1).at 0 (.bool nb) rfl
  have fx1_1_12 := (HB12.out.2.2.2.2.2.1).at 1 (.string sb) rfl
  have fx1_2_12 := (HB12.out.2.2.2.2.2.1).at 2 (.bool mb) rfl
  have fx1_3_12 := (HB12.out.2.2.2.2.2.1).at 3 (.string tb) rfl
  go_wp2_with fail
  refine (H5.out _).mono ?_
  rintro e w6 ⟨rfl, hb⟩
  have HL13 := Lib.hid (bstep HL12.out hb)
  have HB13 := Lib.hid (HB12.out.bel hb)
  clear hb
  clear HL12 HB12 fx0_0_12 fx0_1_12 fx0_2_12 fx0_3_12 fx1_0_12 fx1_1_12 fx1_2_12 fx1_3_12
  have HO7 := Lib.hid (show w5.heap.size < w6.heap.size from by have := (HB13.out.1).lt; first | omega | (simp at this; omega))
  have HL14 := Lib.hid (HL13.out.alloc HL13.out.size (.cells #[.bool ne, .string se, .bool me, .string te] 25))
  have HB14 := Lib.hid (HB13.out.push (w6.heap.size) #[.bool ne, .string se, .bool me, .string te] 25 (by first | rfl | simp))
  clear HL13 HB13
  have fx0_0_14 := (HB14.out.2.2.2.2.2.2.2.1).at 0 (.bool na) rfl
  have fx0_1_14 := (HB14.out.2.2.2.2.2.2.2.1).at 1 (.string sa) rfl
  have fx0_2_14 := (HB14.out.2.2.2.2.2.2.2.1).at 2 (.bool ma) rfl
  have fx0_3_14 := (HB14.out.2.2.2.2.2.2.2.1).at 3 (.string ta) rfl
  have fx1_0_14 := (HB14.out.2.2.2.2.2.2.1).at 0 (.bool nb) rfl
  have fx1_1_14 := (HB14.out.2.2.2.2.2.2.1).at 1 (.string sb) rfl
  have fx1_2_14 := (HB14.out.2.2.2.2.2.2.1).at 2 (.bool mb) rfl
  have fx1_3_14 := (HB14.out.2.2.2.2.2.2.1).at 3 (.string tb) rfl
  go_wp2_with fail
  refine (H6.out _).mono ?_
  rintro e w7 ⟨rfl, hb⟩
  have HL15 := Lib.hid (bstep HL14.out hb)
  have HB15 := Lib.hid (HB14.out.bel hb)
  clear hb
  clear HL14 HB14 fx0_0_14 fx0_1_14 fx0_2_14 fx0_3_14 fx1_0_14 fx1_1_14 fx1_2_14 fx1_3_14
  have HO8 := Lib.hid (show w6.heap.size < w7.heap.size from by have := (HB15.out.1).lt; first | omega | (simp at this; omega))
  have HL16 := Lib.hid (HL15.out.alloc HL15.out.size (.cells #[.bool ne, .string se, .bool me, .string te] 25))
  have HB16 := Lib.hid (HB15.out.push (w7.heap.size) #[.bool ne, .string se, .bool me, .string te] 25 (by first | rfl | simp))
  clear HL15 HB15
  go_wp2_with fail
  obtain ⟨Bw2, hB⟩ : ∃ B, w2.heap.size = B := ⟨_, rfl⟩
  rw [hB] at HB16 ⊢
  try rw [hB] at HO0
  try rw [hB] at HO1
  try rw [hB] at HO2
  try rw [hB] at HO3
  try rw [hB] at HO4
  try rw [hB] at HO5
  try rw [hB] at HO6
  try rw [hB] at HO7
  try rw [hB] at HO8
  clear hB
  obtain ⟨Bw3, hB⟩ : ∃ B, w3.heap.size = B := ⟨_, rfl⟩
  rw [hB] at HB16 ⊢
  try rw [hB] at HO0
  try rw [hB] at HO1
  try rw [hB] at HO2
  try rw [hB] at HO3
  try rw [hB] at HO4
  try rw [hB] at HO5
  try rw [hB] at HO6
  try rw [hB] at HO7
  try rw [hB] at HO8
  clear hB
  obtain ⟨Bw4, hB⟩ : ∃ B, w4.heap.size = B := ⟨_, rfl⟩
  rw [hB] at HB16 ⊢
  try rw [hB] at HO0
  try rw [hB] at HO1
  try rw [hB] at HO2
  try rw [hB] at HO3
  try rw [hB] at HO4
  try rw [hB] at HO5
  try rw [hB] at HO6
  try rw [hB] at HO7
  try rw [hB] at HO8
  clear hB
  obtain ⟨Bw5, hB⟩ : ∃ B, w5.heap.size = B := ⟨_, rfl⟩
  rw [hB] at HB16 ⊢
  try rw [hB] at HO0
  try rw [hB] at HO1
  try rw [hB] at HO2
  try rw [hB] at HO3
  try rw [hB] at HO4
  try rw [hB] at HO5
  try rw [hB] at HO6
  try rw [hB] at HO7
  try rw [hB] at HO8
  clear hB
  obtain ⟨Bw6, hB⟩ : ∃ B, w6.heap.size = B := ⟨_, rfl⟩
  rw [hB] at HB16 ⊢
  try rw [hB] at HO0
  try rw [hB] at HO1
  try rw [hB] at HO2
  try rw [hB] at HO3
  try rw [hB] at HO4
  try rw [hB] at HO5
  try rw [hB] at HO6
  try rw [hB] at HO7
  try rw [hB] at HO8
  clear hB
  obtain ⟨Bw7, hB⟩ : ∃ B, w7.heap.size = B := ⟨_, rfl⟩
  rw [hB] at HB16 ⊢
  try rw [hB] at HO0
  try rw [hB] at HO1
  try rw [hB] at HO2
  try rw [hB] at HO3
  try rw [hB] at HO4
  try rw [hB] at HO5
  try rw [hB] at HO6
  try rw [hB] at HO7
  try rw [hB] at HO8
  clear hB
  obtain ⟨W8, hW⟩ : ∃ W, (w7.alloc (.cells #[.bool ne, .string se, .bool me, .string te] 25)) = W := ⟨_, rfl⟩
  rw [hW] at HB16 HL16 ⊢
  clear hW
  haveI := cls_some W8
  have fq0_0 : ∀ u : Cl W8, u.x.cell? ⟨w.heap.size, 0, none⟩ = some (.bool na) := fun u => ((HB16.out.bel u.h).2.2.2.2.2.2.2.2.1).at 0 (.bool na) rfl
  have fq0_1 : ∀ u : Cl W8, u.x.cell? ⟨w.heap.size, 1, none⟩ = some (.string sa) := fun u => ((HB16.out.bel u.h).2.2.2.2.2.2.2.2.1).at 1 (.string sa) rfl
  have fq0_2 : ∀ u : Cl W8, u.x.cell? ⟨w.heap.size, 2, none⟩ = some (.bool ma) := fun u => ((HB16.out.bel u.h).2.2.2.2.2.2.2.2.1).at 2 (.bool ma) rfl
  have fq0_3 : ∀ u : Cl W8, u.x.cell? ⟨w.heap.size, 3, none⟩ = some (.string ta) := fun u => ((HB16.out.bel u.h).2.2.2.2.2.2.2.2.1).at 3 (.string ta) rfl
  have fq3_0 : ∀ u : Cl W8, u.x.cell? ⟨Bw2, 0, none⟩ = some (.bool nx) := fun u => ((HB16.out.bel u.h).2.2.2.2.2.1).at 0 (.bool nx) rfl
  have fq3_1 : ∀ u : Cl W8, u.x.cell? ⟨Bw2, 1, none⟩ = some (.string sx) := fun u => ((HB16.out.bel u.h).2.2.2.2.2.1).at 1 (.string sx) rfl
  have fq3_2 : ∀ u : Cl W8, u.x.cell? ⟨Bw2, 2, none⟩ = some (.bool mx) := fun u => ((HB16.out.bel u.h).2.2.2.2.2.1).at 2 (.bool mx) rfl
  have fq3_3 : ∀ u : Cl W8, u.x.cell? ⟨Bw2, 3, none⟩ = some (.string tx) := fun u => ((HB16.out.bel u.h).2.2.2.2.2.1).at 3 (.string tx) rfl
  have fq4_0 : ∀ u : Cl W8, u.x.cell? ⟨Bw3, 0, none⟩ = some (.bool nx) := fun u => ((HB16.out.bel u.h).2.2.2.2.1).at 0 (.bool nx) rfl
  have fq4_1 : ∀ u : Cl W8, u.x.cell? ⟨Bw3, 1, none⟩ = some (.string sx) := fun u => ((HB16.out.bel u.h).2.2.2.2.1).at 1 (.string sx) rfl
  have fq4_2 : ∀ u : Cl W8, u.x.cell? ⟨Bw3, 2, none⟩ = some (.bool mx) := fun u => ((HB16.out.bel u.h).2.2.2.2.1).at 2 (.bool mx) rfl
  have fq4_3 : ∀ u : Cl W8, u.x.cell? ⟨Bw3, 3, none⟩ = some (.string tx) := fun u => ((HB16.out.bel u.h).2.2.2.2.1).at 3 (.string tx) rfl
  have fq5_0 : ∀ u : Cl W8, u.x.cell? ⟨Bw4, 0, none⟩ = some (.bool nu) := fun u => ((HB16.out.bel u.h).2.2.2.1).at 0 (.bool nu) rfl
  have fq5_1 : ∀ u : Cl W8, u.x.cell? ⟨Bw4, 1, none⟩ = some (.string su) := fun u => ((HB16.out.bel u.h).2.2.2.1).at 1 (.string su) rfl
  have fq5_2 : ∀ u : Cl W8, u.x.cell? ⟨Bw4, 2, none⟩ = some (.bool mu) := fun u => ((HB16.out.bel u.h).2.2.2.1).at 2 (.bool mu) rfl
  have fq5_3 : ∀ u : Cl W8, u.x.cell? ⟨Bw4, 3, none⟩ = some (.string tu) := fun u => ((HB16.out.bel u.h).2.2.2.1).at 3 (.string tu) rfl
  have fq6_0 : ∀ u : Cl W8, u.x.cell? ⟨Bw5, 0, none⟩ = some (.bool nu) := fun u => ((HB16.out.bel u.h).2.2.1).at 0 (.bool nu) rfl
  have fq6_1 : ∀ u : Cl W8, u.x.cell? ⟨Bw5, 1, none⟩ = some (.string su) := fun u => ((HB16.out.bel u.h).2.2.1).at 1 (.string su) rfl
  have fq6_2 : ∀ u : Cl W8, u.x.cell? ⟨Bw5, 2, none⟩ = some (.bool mu) := fun u => ((HB16.out.bel u.h).2.2.1).at 2 (.bool mu) rfl
  have fq6_3 : ∀ u : Cl W8, u.x.cell? ⟨Bw5, 3, none⟩ = some (.string tu) := fun u => ((HB16.out.bel u.h).2.2.1).at 3 (.string tu) rfl
  have fq7_0 : ∀ u : Cl W8, u.x.cell? ⟨Bw6, 0, none⟩ = some (.bool ne) := fun u => ((HB16.out.bel u.h).2.1).at 0 (.bool ne) rfl
  have fq7_1 : ∀ u : Cl W8, u.x.cell? ⟨Bw6, 1, none⟩ = some (.string se) := fun u => ((HB16.out.bel u.h).2.1).at 1 (.string se) rfl
  have fq7_2 : ∀ u : Cl W8, u.x.cell? ⟨Bw6, 2, none⟩ = some (.bool me) := fun u => ((HB16.out.bel u.h).2.1).at 2 (.bool me) rfl
  have fq7_3 : ∀ u : Cl W8, u.x.cell? ⟨Bw6, 3, none⟩ = some (.string te) := fun u => ((HB16.out.bel u.h).2.1).at 3 (.string te) rfl
  have fq8_0 : ∀ u : Cl W8, u.x.cell? ⟨Bw7, 0, none⟩ = some (.bool ne) := fun u => ((HB16.out.bel u.h).1).at 0 (.bool ne) rfl
  have fq8_1 : ∀ u : Cl W8, u.x.cell? ⟨Bw7, 1, none⟩ = some (.string se) := fun u => ((HB16.out.bel u.h).1).at 1 (.string se) rfl
  have fq8_2 : ∀ u : Cl W8, u.x.cell? ⟨Bw7, 2, none⟩ = some (.bool me) := fun u => ((HB16.out.bel u.h).1).at 2 (.bool me) rfl
  have fq8_3 : ∀ u : Cl W8, u.x.cell? ⟨Bw7, 3, none⟩ = some (.string te) := fun u => ((HB16.out.bel u.h).1).at 3 (.string te) rfl
  refine wp_region_cls (by kernel_rfl) ?_
  iterate 1 (go_big_quiet_step (fail))
  go_big_quiet_step ((go_at_call 13; exact quiet_cls H7.out _))
  iterate 1 (go_big_quiet_step (fail))
  go_big_quiet_step ((go_at_call 14; exact quiet_cls H8.out _))
  iterate 34 (go_big_quiet_step (fail))
  go_big_quiet_step ((go_at_call 15; exact quiet_cls H9.out _))
  iterate 2 (go_big_quiet_step (fail))
  go_big_quiet_step ((go_at_call 16; exact quiet_cls H10.out _))
  iterate 3 (go_big_quiet_step (fail))
  refine wpQuiet_nil ?_
  intro w9 hw9
  have hb : Below W8.heap.size W8 w9 := by obtain ⟨u, rfl⟩ := hw9; exact u.h
  clear hw9 this fq0_0 fq0_1 fq0_2 fq0_3 fq3_0 fq3_1 fq3_2 fq3_3 fq4_0 fq4_1 fq4_2 fq4_3 fq5_0 fq5_1 fq5_2 fq5_3 fq6_0 fq6_1 fq6_2 fq6_3 fq7_0 fq7_1 fq7_2 fq7_3 fq8_0 fq8_1 fq8_2 fq8_3
  have HL17 := Lib.hid (bstep HL16.out hb)
  have HB17 := Lib.hid (HB16.out.bel hb)
  clear hb
  clear HL16 HB16
  go_wp2_with fail
  haveI := cls_some w9
  have fq0_0 : ∀ u : Cl w9, u.x.cell? ⟨w.heap.size, 0, none⟩ = some (.bool na) := fun u => ((HB17.out.bel u.h).2.2.2.2.2.2.2.2.1).at 0 (.bool na) rfl
  have fq0_1 : ∀ u : Cl w9, u.x.cell? ⟨w.heap.size, 1, none⟩ = some (.string sa) := fun u => ((HB17.out.bel u.h).2.2.2.2.2.2.2.2.1).at 1 (.string sa) rfl
  have fq0_2 : ∀ u : Cl w9, u.x.cell? ⟨w.heap.size, 2, none⟩ = some (.bool ma) := fun u => ((HB17.out.bel u.h).2.2.2.2.2.2.2.2.1).at 2 (.bool ma) rfl
  have fq0_3 : ∀ u : Cl w9, u.x.cell? ⟨w.heap.size, 3, none⟩ = some (.string ta) := fun u => ((HB17.out.bel u.h).2.2.2.2.2.2.2.2.1).at 3 (.string ta) rfl
  have fq1_0 : ∀ u : Cl w9, u.x.cell? ⟨w.heap.size + 1, 0, none⟩ = some (.bool nb) := fun u => ((HB17.out.bel u.h).2.2.2.2.2.2.2.1).at 0 (.bool nb) rfl
  have fq1_1 : ∀ u : Cl w9, u.x.cell? ⟨w.heap.size + 1, 1, none⟩ = some (.string sb) := fun u => ((HB17.out.bel u.h).2.2.2.2.2.2.2.1).at 1 (.string sb) rfl
  have fq1_2 : ∀ u : Cl w9, u.x.cell? ⟨w.heap.size + 1, 2, none⟩ = some (.bool mb) := fun u => ((HB17.out.bel u.h).2.2.2.2.2.2.2.1).at 2 (.bool mb) rfl
  have fq1_3 : ∀ u : Cl w9, u.x.cell? ⟨w.heap.size + 1, 3, none⟩ = some (.string tb) := fun u => ((HB17.out.bel u.h).2.2.2.2.2.2.2.1).at 3 (.string tb) rfl
  refine wp_region_cls (by kernel_rfl) ?_
  iterate 4 (go_big_quiet_step (fail))
  go_big_quiet_step ((go_at_call 17; exact quiet_cls H11.out _))
  iterate 2 (go_big_quiet_step (fail))
  go_big_quiet_step ((go_at_call 18; exact quiet_cls H12.out _))
  iterate 5 (go_big_quiet_step (fail))
  go_big_quiet_step ((go_at_call 19; exact quiet_cls H13.out _))
  iterate 2 (go_big_quiet_step (fail))
  go_big_quiet_step ((go_at_call 20; exact quiet_cls H14.out _))
  iterate 5 (go_big_quiet_step (fail))
  go_big_quiet_step ((go_at_call 21; exact quiet_cls H15.out _))
  iterate 2 (go_big_quiet_step (fail))
  go_big_quiet_step ((go_at_call 22; exact quiet_cls H16.out _))
  iterate 4 (go_big_quiet_step (fail))
  go_big_quiet_step ((go_at_call 23; exact quiet_cls H17.out _))
  iterate 1 (go_big_quiet_step (fail))
  go_big_quiet_step ((go_at_call 24; exact quiet_cls H18.out _))
  iterate 3 (go_big_quiet_step (fail))
  refine wpQuiet_nil ?_
  intro w10 hw9
  have hb : Below w9.heap.size w9 w10 := by obtain ⟨u, rfl⟩ := hw9; exact u.h
  clear hw9 this fq0_0 fq0_1 fq0_2 fq0_3 fq1_0 fq1_1 fq1_2 fq1_3
  have HL18 := Lib.hid (bstep HL17.out hb)
  have HB18 := Lib.hid (HB17.out.bel hb)
  clear hb
  clear HL17 HB17
  go_wp2_with fail
  haveI := cls_some w10
  have fq0_0 : ∀ u : Cl w10, u.x.cell? ⟨w.heap.size, 0, none⟩ = some (.bool na) := fun u => ((HB18.out.bel u.h).2.2.2.2.2.2.2.2.1).at 0 (.bool na) rfl
  have fq0_1 : ∀ u : Cl w10, u.x.cell? ⟨w.heap.size, 1, none⟩ = some (.string sa) := fun u => ((HB18.out.bel u.h).2.2.2.2.2.2.2.2.1).at 1 (.string sa) rfl
  have fq0_2 : ∀ u : Cl w10, u.x.cell? ⟨w.heap.size, 2, none⟩ = some (.bool ma) := fun u => ((HB18.out.bel u.h).2.2.2.2.2.2.2.2.1).at 2 (.bool ma) rfl
  have fq0_3 : ∀ u : Cl w10, u.x.cell? ⟨w.heap.size, 3, none⟩ = some (.string ta) := fun u => ((HB18.out.bel u.h).2.2.2.2.2.2.2.2.1).at 3 (.string ta) rfl
  have fq1_0 : ∀ u : Cl w10, u.x.cell? ⟨w.heap.size + 1, 0, none⟩ = some (.bool nb) := fun u => ((HB18.out.bel u.h).2.2.2.2.2.2.2.1).at 0 (.bool nb) rfl
  have fq1_1 : ∀ u : Cl w10, u.x.cell? ⟨w.heap.size + 1, 1, none⟩ = some (.string sb) := fun u => ((HB18.out.bel u.h).2.2.2.2.2.2.2.1).at 1 (.string sb) rfl
  have fq1_2 : ∀ u : Cl w10, u.x.cell? ⟨w.heap.size + 1, 2, none⟩ = some (.bool mb) := fun u => ((HB18.out.bel u.h).2.2.2.2.2.2.2.1).at 2 (.bool mb) rfl
  have fq1_3 : ∀ u : Cl w10, u.x.cell? ⟨w.heap.size + 1, 3, none⟩ = some (.string tb) := fun u => ((HB18.out.bel u.h).2.2.2.2.2.2.2.1).at 3 (.string tb) rfl
  refine wp_region_cls (by kernel_rfl) ?_
  iterate 4 (go_big_quiet_step (fail))
  go_big_quiet_step ((go_at_call 25; exact quiet_cls H19.out _))
  iterate 2 (go_big_quiet_step (fail))
  go_big_quiet_step ((go_at_call 26; exact quiet_cls H20.out _))
  iterate 4 (go_big_quiet_step (fail))
  go_big_quiet_step ((go_at_call 27; exact quiet_cls H21.out _))
  iterate 1 (go_big_quiet_step (fail))
  go_big_quiet_step ((go_at_call 28; exact quiet_cls H22.out _))
  iterate 3 (go_big_quiet_step (fail))
  go_big_quiet_step ((go_at_call 6; exact quiet_cls H23.out _))
  iterate 2 (go_big_quiet_step (fail))
  refine wpQuiet_nil ?_
  intro w11 hw9
  have hb : Below w10.heap.size w10 w11 := by obtain ⟨u, rfl⟩ := hw9; exact u.h
  clear hw9 this fq0_0 fq0_1 fq0_2 fq0_3 fq1_0 fq1_1 fq1_2 fq1_3
  have HL19 := Lib.hid (bstep HL18.out hb)
  have HB19 := Lib.hid (HB18.out.bel hb)
  clear hb
  clear HL18 HB18
  go_wp2
  go_ret
  exact ⟨rfl, HL19.out⟩
end Go.Proofs.Gv

namespace Go.Proofs.Gv
open Go Go.RowKit

def RetT (n : Bool) (s : ByteArray) (m : Bool) (t : ByteArray) (c : Int) (w : World) (e : Ending) (w' : World) : Prop := e = .returned (.tuple #[.agg #[.bool n, .string s, .bool m, .string t], .int .i64 c]) ∧ Below w.heap.size w w'
theorem hz1 {na ma : Bool} {sa ta : ByteArray} (hs : sa.size ≤ maxLen) (ht : ta.size ≤ maxLen) : ∀ x ∈ ([(na, sa, ma, ta)] : List (Bool × ByteArray × Bool × ByteArray)), x.2.1.size ≤ maxLen ∧ x.2.2.2.size ≤ maxLen := fun x hx => by
  obtain rfl : x = (na, sa, ma, ta) := by simpa using hx
  exact ⟨hs, ht⟩
theorem hz2 {na ma nb mb : Bool} {sa ta sb tb : ByteArray} (hs : sa.size ≤ maxLen) (ht : ta.size ≤ maxLen) (hs' : sb.size ≤ maxLen) (ht' : tb.size ≤ maxLen) : ∀ x ∈ ([(na, sa, ma, ta), (nb, sb, mb, tb)] : List (Bool × ByteArray × Bool × ByteArray)), x.2.1.size ≤ maxLen ∧ x.2.2.2.size ≤ maxLen := fun x hx => by
  rcases List.mem_cons.1 hx with rfl | hx
  · exact ⟨hs, ht⟩
  · exact hz1 hs' ht' x hx
theorem law_arith (na ma : Bool) (sa ta : ByteArray) (nb mb : Bool) (sb tb : ByteArray) (n0 d0 : Int) (w : World) (hs : sa.size ≤ maxLen) (ht : ta.size ≤ maxLen) (hs' : sb.size ≤ maxLen) (ht' : tb.size ≤ maxLen) (hn : (Lit.int .i64 n0).wf = true) (hd : (Lit.int .i64 d0).wf = true) :
    Calls Tryz.prog 3 #[.agg #[.bool na, .string sa, .bool ma, .string ta], .agg #[.bool nb, .string sb, .bool mb, .string tb], .int .i64 n0, .int .i64 d0] w fun e w' => e = .returned (.bool true) ∧ Below w.heap.size w w' := by
  obtain ⟨n1, n2⟩ := bounds_i64 hn
  obtain ⟨d1, d2⟩ := bounds_i64 hd
  replace n2 : n0 < 9223372036854775808 := by omega
  replace d2 : d0 < 9223372036854775808 := by omega
  have hz := hz2 (na := na) (ma := ma) (nb := nb) (mb := mb) hs ht hs' ht'
  cases hgr : grQ 24 [(na, sa, ma, ta), (nb, sb, mb, tb)] with
  | true => exact arith_great na ma sa ta nb mb sb tb hz hgr w cAwake02
  | false =>
    obtain ⟨h1, h2⟩ := grQ_false hgr (na, sa, ma, ta) (by simp)
    obtain ⟨h3, h4⟩ := grQ_false hgr (nb, sb, mb, tb) (by simp)
    replace h1 : sa.size ≤ 24 := h1
    replace h2 : ta.size ≤ 24 := h2
    replace h3 : sb.size ≤ 24 := h3
    replace h4 : tb.size ≤ 24 := h4
    obtain ⟨a, N, RA, A, hN⟩ := rq_small (n := na) (m := ma) 24 (by decide) h1 h2
    obtain ⟨b, M, RB, B, hM⟩ := rq_small (n := nb) (m := mb) 24 (by decide) h3 h4
    obtain ⟨nx, sx, mx, tx, e1, X1, X2⟩ : ∃ nx sx mx tx e1, (∀ W, Calls Tryz.prog 7 #[.agg #[.bool na, .string sa], .agg #[.bool mb, .string tb]] W (RetT nx sx mx tx e1 W)) ∧ (∀ W, Calls Tryz.prog 8 #[.agg #[.bool na, .string sa], .agg #[.bool mb, .string tb]] W (RetT nx sx mx tx e1 W)) := by
      by_cases h0 : iv mb tb = 0
      · have r0 : Rp mb tb 0 := ⟨h0, RB.lo.sz⟩
        exact ⟨_, _, _, _, _, cQNew0 r0, rrNew0 r0⟩
      · exact ⟨_, _, _, _, _, cQNew RA.up RB.lo h0, rrNew RA.up RB.lo (by omega) (by omega) h0⟩
    obtain ⟨nu, su, mu, tu, e2, U1, U2⟩ : ∃ nx sx mx tx e1, (∀ W, Calls Tryz.prog 9 #[.int .i64 n0, .int .i64 d0] W (RetT nx sx mx tx e1 W)) ∧ (∀ W, Calls Tryz.prog 10 #[.int .i64 n0, .int .i64 d0] W (RetT nx sx mx tx e1 W)) := by
      by_cases h0 : d0 = 0
      · subst h0
        exact ⟨_, _, _, _, _, cQRatio0 n1 n2, rrRatio0 n1 n2⟩
      · exact ⟨_, _, _, _, _, cQRatio n1 n2 d1 d2 h0, rrRatio n1 n2 d1 d2 h0⟩
    obtain ⟨nq, sq, mq, tq, e3, Q1, Q2⟩ : ∃ nx sx mx tx e1, (∀ W, Calls Tryz.prog 11 #[.agg #[.bool na, .string sa, .bool ma, .string ta], .agg #[.bool nb, .string sb, .bool mb, .string tb]] W (RetT nx sx mx tx e1 W)) ∧ (∀ W, Calls Tryz.prog 12 #[.agg #[.bool na, .string sa, .bool ma, .string ta], .agg #[.bool nb, .string sb, .bool mb, .string tb]] W (RetT nx sx mx tx e1 W)) := by
      by_cases h0 : b = 0
      · rw [h0] at RB
        exact ⟨_, _, _, _, _, cQQuo0 RB, rrQuoQ0 RA RB⟩
      · exact ⟨_, _, _, _, _, cQQuo RA RB h0, rrQuoQ RA RB h0⟩
    exact arith_law na ma sa ta nb mb sb tb hz hgr w X1 X2 U1 U2 Q1 Q2 (cQCheck RA) (rrCheck RA) (cQOf RA.lo) (rrOf RA.lo (by omega)) (cQAdd RA RB) (rrAddQ RA RB) (cQSub RA RB) (rrSubQ RA RB) (cQMul RA RB) (rrMulQ RA RB)
      (cQNeg RA) (rrNegQ RA) (cQCmp RA RB) (rrCmpQ RA RB) (cQFloor RA) (rrFloorQ RA) cAwake02
end Go.Proofs.Gv
