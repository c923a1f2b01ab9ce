/- The law IntegerMachine, walked. -/
import Derived.Test.YtpnhccpfbeidlaaLawKit
namespace Go.Proofs.Gv
open Go Go.RowKit

set_option maxRecDepth 100000 in
set_option maxHeartbeats 4000000 in
theorem machine_zero (nad nmu np nq nsu : Bool) (sad smu sp sq ssu : ByteArray) (a c : Int) (tb1 tb2 : Bool) (ha : -2147483648 ≤ a ∧ a < 2147483648) (hq1 : decide (c < 0) = tb1) (hq2 : decide (a < 0) = tb1) (hq3 : decide (0 < c) = tb2) (hq4 : decide (0 < a) = tb2) (w : World)
    (H1 : ∀ W, Calls Try.prog 31 #[.int .i64 a] W fun e w' => e = .returned (.agg #[.bool np, .string sp]) ∧ Below W.heap.size W w')
    (H2 : ∀ W, Calls Try.prog 31 #[.int .i64 0] W fun e w' => e = .returned (.agg #[.bool nq, .string sq]) ∧ Below W.heap.size W w')
    (H3 : ∀ W, Calls Try.prog 34 #[.agg #[.bool np, .string sp]] W fun e w' => e = .returned (.tuple #[.int .i64 a, .bool true]) ∧ Below W.heap.size W w')
    (H4 : ∀ W, Calls Try.prog 14 #[.agg #[.bool np, .string sp], .agg #[.bool nq, .string sq]] W fun e w' => e = .returned (.agg #[.bool nad, .string sad]) ∧ Below W.heap.size W w')
    (H5 : ∀ W, Calls Try.prog 31 #[.int .i64 a] W fun e w' => e = .returned (.agg #[.bool nad, .string sad]) ∧ Below W.heap.size W w')
    (H6 : ∀ W, Calls Try.prog 16 #[.agg #[.bool np, .string sp], .agg #[.bool nq, .string sq]] W fun e w' => e = .returned (.agg #[.bool nsu, .string ssu]) ∧ Below W.heap.size W w')
    (H7 : ∀ W, Calls Try.prog 31 #[.int .i64 a] W fun e w' => e = .returned (.agg #[.bool nsu, .string ssu]) ∧ Below W.heap.size W w')
    (H8 : ∀ W, Calls Try.prog 18 #[.agg #[.bool np, .string sp], .agg #[.bool nq, .string sq]] W fun e w' => e = .returned (.agg #[.bool nmu, .string smu]) ∧ Below W.heap.size W w')
    (H9 : ∀ W, Calls Try.prog 31 #[.int .i64 0] W fun e w' => e = .returned (.agg #[.bool nmu, .string smu]) ∧ Below W.heap.size W w')
    (H10 : ∀ W, Calls Try.prog 29 #[.agg #[.bool np, .string sp], .agg #[.bool nq, .string sq]] W fun e w' => e = .returned (.int .i64 c) ∧ Below W.heap.size W w')
    (H11 : ∀ W, Calls Try.prog 21 #[.agg #[.bool np, .string sp], .agg #[.bool nq, .string sq]] W fun e w' => e = .returned (.tuple #[.agg #[.bool false, .string ⟨#[]⟩], .agg #[.bool false, .string ⟨#[]⟩], .int .i64 9]) ∧ Below W.heap.size W w')
    : Calls Try.prog 10 #[.int .i32 a, .int .i32 0] w fun e w' => e = .returned (.bool true) ∧ Below w.heap.size w w' := by
  replace H1 := Lib.hid H1
  replace H2 := Lib.hid H2
  replace H3 := Lib.hid H3
  replace H4 := Lib.hid H4
  replace H5 := Lib.hid H5
  replace H6 := Lib.hid H6
  replace H7 := Lib.hid H7
  replace H8 := Lib.hid H8
  replace H9 := Lib.hid H9
  replace H10 := Lib.hid H10
  replace H11 := Lib.hid H11
  have hwa : IntKind.i64.wrap a = a := by rw [IntKind.wrap_i64]; omega
  have HA := Lib.hid ha
  clear ha
  have qad : eqI nad sad nad sad = true := eqI_iff.mpr ⟨rfl, rfl⟩
  have qsu : eqI nsu ssu nsu ssu = true := eqI_iff.mpr ⟨rfl, rfl⟩
  have qmu : eqI nmu smu nmu smu = true := eqI_iff.mpr ⟨rfl, rfl⟩
  go_enter Try.func10, Try.ntmps10
  have HL0 := Lib.hid (Below.refl w.heap.size w)
  have HD0 := Lib.hid (Bxs.nil w)
  go_wp2_with fail
  refine (H1.out _).mono ?_
  rintro e w1 ⟨rfl, hb⟩
  have HL1 := Lib.hid (bstep HL0.out hb)
  have HD1 := Lib.hid (HD0.out.below hb)
  clear hb HL0 HD0
  go_wp2_with fail
  refine (H2.out _).mono ?_
  rintro e w2 ⟨rfl, hb⟩
  have HL2 := Lib.hid (bstep HL1.out hb)
  have HD2 := Lib.hid (HD1.out.below hb)
  clear hb HL1 HD1
  have HL3 := Lib.hid (HL2.out.alloc HL2.out.size (.cells #[.bool np, .string sp] 23))
  have HD3 := Lib.hid (HD2.out.push' (w2.heap.size) np sp (by simp))
  clear HL2 HD2
  have HL4 := Lib.hid (HL3.out.alloc HL3.out.size (.cells #[.bool nq, .string sq] 23))
  have HD4 := Lib.hid (HD3.out.push' (w2.heap.size + 1) nq sq (by simp))
  clear HL3 HD3
  obtain ⟨fx0, fy0⟩ := HD4.out.get (w2.heap.size) np sp (by simp)
  go_wp2_with fail
  refine (H3.out _).mono ?_
  rintro e w3 ⟨rfl, hb⟩
  have HL5 := Lib.hid (bstep HL4.out hb)
  have HD5 := Lib.hid (HD4.out.below hb)
  clear hb HL4 HD4
  obtain ⟨fx0, fy0⟩ := HD5.out.get (w2.heap.size) np sp (by simp)
  obtain ⟨fx1, fy1⟩ := HD5.out.get (w2.heap.size + 1) nq sq (by simp)
  go_wp2_with fail
  refine (H4.out _).mono ?_
  rintro e w4 ⟨rfl, hb⟩
  have HL6 := Lib.hid (bstep HL5.out hb)
  have HD6 := Lib.hid (HD5.out.below hb)
  clear hb HL5 HD5
  go_wp2_with fail
  refine (H5.out _).mono ?_
  rintro e w5 ⟨rfl, hb⟩
  have HL7 := Lib.hid (bstep HL6.out hb)
  have HD7 := Lib.hid (HD6.out.below hb)
  clear hb HL6 HD6
  obtain ⟨fx0, fy0⟩ := HD7.out.get (w2.heap.size) np sp (by simp)
  obtain ⟨fx1, fy1⟩ := HD7.out.get (w2.heap.size + 1) nq sq (by simp)
  go_wp2_with fail
  refine (H6.out _).mono ?_
  rintro e w6 ⟨rfl, hb⟩
  have HL8 := Lib.hid (bstep HL7.out hb)
  have HD8 := Lib.hid (HD7.out.below hb)
  clear hb HL7 HD7
  go_wp2_with fail
  refine (H7.out _).mono ?_
  rintro e w7 ⟨rfl, hb⟩
  have HL9 := Lib.hid (bstep HL8.out hb)
  have HD9 := Lib.hid (HD8.out.below hb)
  clear hb HL8 HD8
  obtain ⟨fx0, fy0⟩ := HD9.out.get (w2.heap.size) np sp (by simp)
  obtain ⟨fx1, fy1⟩ := HD9.out.get (w2.heap.size + 1) nq sq (by simp)
  go_wp2_with fail
  refine (H8.out _).mono ?_
  rintro e w8 ⟨rfl, hb⟩
  have HL10 := Lib.hid (bstep HL9.out hb)
  have HD10 := Lib.hid (HD9.out.below hb)
  clear hb HL9 HD9
  go_wp2_with fail
  refine (H9.out _).mono ?_
  rintro e w9 ⟨rfl, hb⟩
  have HL11 := Lib.hid (bstep HL10.out hb)
  have HD11 := Lib.hid (HD10.out.below hb)
  clear hb HL10 HD10
  obtain ⟨fx0, fy0⟩ := HD11.out.get (w2.heap.size) np sp (by simp)
  obtain ⟨fx1, fy1⟩ := HD11.out.get (w2.heap.size + 1) nq sq (by simp)
  go_wp2_with fail
  refine (H10.out _).mono ?_
  rintro e w10 ⟨rfl, hb⟩
  have HL12 := Lib.hid (bstep HL11.out hb)
  have HD12 := Lib.hid (HD11.out.below hb)
  clear hb HL11 HD11
  obtain ⟨fx0, fy0⟩ := HD12.out.get (w2.heap.size) np sp (by simp)
  obtain ⟨fx1, fy1⟩ := HD12.out.get (w2.heap.size + 1) nq sq (by simp)
  go_wp2_with fail
  refine (H10.out _).mono ?_
  rintro e w11 ⟨rfl, hb⟩
  have HL13 := Lib.hid (bstep HL12.out hb)
  have HD13 := Lib.hid (HD12.out.below hb)
  clear hb HL12 HD12
  obtain ⟨fx0, fy0⟩ := HD13.out.get (w2.heap.size) np sp (by simp)
  obtain ⟨fx1, fy1⟩ := HD13.out.get (w2.heap.size + 1) nq sq (by simp)
  go_wp2_with fail
  refine (H11.out _).mono ?_
  rintro e w12 ⟨rfl, hb⟩
  have HL14 := Lib.hid (bstep HL13.out hb)
  have HD14 := Lib.hid (HD13.out.below hb)
  clear hb HL13 HD13
  have HL15 := Lib.hid (HL14.out.alloc HL14.out.size (.cells #[.bool false, .string ⟨#[]⟩] 23))
  have HD15 := Lib.hid (HD14.out.push' (w12.heap.size) false ⟨#[]⟩ (by simp))
  clear HL14 HD14
  have HL16 := Lib.hid (HL15.out.alloc HL15.out.size (.cells #[.bool false, .string ⟨#[]⟩] 23))
  have HD16 := Lib.hid (HD15.out.push' (w12.heap.size + 1) false ⟨#[]⟩ (by simp))
  clear HL15 HD15
  go_wp2_with fail
  refine (awake01 _).mono ?_
  rintro e w13 ⟨rfl, hb⟩
  have HL17 := Lib.hid (bstep HL16.out hb)
  have HD17 := Lib.hid (HD16.out.below hb)
  clear hb HL16 HD16
  go_wp2
  go_ret
  exact ⟨rfl, HL17.out⟩

set_option maxRecDepth 100000 in
set_option maxHeartbeats 4000000 in
theorem machine_none (nad nmu np nq nqu nre nsu : Bool) (sad smu sp sq squ sre ssu : ByteArray) (a b c : Int) (tb1 tb2 : Bool) (ha : -2147483648 ≤ a ∧ a < 2147483648) (hb0 : -2147483648 ≤ b ∧ b < 2147483648) (hq1 : decide (c < 0) = tb1) (hq2 : decide (a < b) = tb1) (hq3 : decide (0 < c) = tb2) (hq4 : decide (b < a) = tb2) (hwm : IntKind.i64.wrap (a * b) = a * b) (qv : Int) (hz1 : (b == 0) = false) (hz2 : decide (b = 0) = false) (hz3 : ¬ b = 0) (hqt : IntKind.i64.wrap (a.tdiv b) = qv) (hrt : a.tmod b = 0) (w : World)
    (H1 : ∀ W, Calls Try.prog 31 #[.int .i64 a] W fun e w' => e = .returned (.agg #[.bool np, .string sp]) ∧ Below W.heap.size W w')
    (H2 : ∀ W, Calls Try.prog 31 #[.int .i64 b] W fun e w' => e = .returned (.agg #[.bool nq, .string sq]) ∧ Below W.heap.size W w')
    (H3 : ∀ W, Calls Try.prog 34 #[.agg #[.bool np, .string sp]] W fun e w' => e = .returned (.tuple #[.int .i64 a, .bool true]) ∧ Below W.heap.size W w')
    (H4 : ∀ W, Calls Try.prog 14 #[.agg #[.bool np, .string sp], .agg #[.bool nq, .string sq]] W fun e w' => e = .returned (.agg #[.bool nad, .string sad]) ∧ Below W.heap.size W w')
    (H5 : ∀ W, Calls Try.prog 31 #[.int .i64 (a + b)] W fun e w' => e = .returned (.agg #[.bool nad, .string sad]) ∧ Below W.heap.size W w')
    (H6 : ∀ W, Calls Try.prog 16 #[.agg #[.bool np, .string sp], .agg #[.bool nq, .string sq]] W fun e w' => e = .returned (.agg #[.bool nsu, .string ssu]) ∧ Below W.heap.size W w')
    (H7 : ∀ W, Calls Try.prog 31 #[.int .i64 (a - b)] W fun e w' => e = .returned (.agg #[.bool nsu, .string ssu]) ∧ Below W.heap.size W w')
    (H8 : ∀ W, Calls Try.prog 18 #[.agg #[.bool np, .string sp], .agg #[.bool nq, .string sq]] W fun e w' => e = .returned (.agg #[.bool nmu, .string smu]) ∧ Below W.heap.size W w')
    (H9 : ∀ W, Calls Try.prog 31 #[.int .i64 (a * b)] W fun e w' => e = .returned (.agg #[.bool nmu, .string smu]) ∧ Below W.heap.size W w')
    (H10 : ∀ W, Calls Try.prog 29 #[.agg #[.bool np, .string sp], .agg #[.bool nq, .string sq]] W fun e w' => e = .returned (.int .i64 c) ∧ Below W.heap.size W w')
    (H11 : ∀ W, Calls Try.prog 21 #[.agg #[.bool np, .string sp], .agg #[.bool nq, .string sq]] W fun e w' => e = .returned (.tuple #[.agg #[.bool nqu, .string squ], .agg #[.bool nre, .string sre], .int .i64 0]) ∧ Below W.heap.size W w')
    (H12 : ∀ W, Calls Try.prog 31 #[.int .i64 qv] W fun e w' => e = .returned (.agg #[.bool nqu, .string squ]) ∧ Below W.heap.size W w')
    (H13 : ∀ W, Calls Try.prog 31 #[.int .i64 0] W fun e w' => e = .returned (.agg #[.bool nre, .string sre]) ∧ Below W.heap.size W w')
    : Calls Try.prog 10 #[.int .i32 a, .int .i32 b] w fun e w' => e = .returned (.bool true) ∧ Below w.heap.size w w' := by
  replace H1 := Lib.hid H1
  replace H2 := Lib.hid H2
  replace H3 := Lib.hid H3
  replace H4 := Lib.hid H4
  replace H5 := Lib.hid H5
  replace H6 := Lib.hid H6
  replace H7 := Lib.hid H7
  replace H8 := Lib.hid H8
  replace H9 := Lib.hid H9
  replace H10 := Lib.hid H10
  replace H11 := Lib.hid H11
  replace H12 := Lib.hid H12
  replace H13 := Lib.hid H13
  have hw1 : IntKind.i64.wrap a = a := by rw [IntKind.wrap_i64]; omega
  have hw2 : IntKind.i64.wrap b = b := by rw [IntKind.wrap_i64]; omega
  have hwa : IntKind.i64.wrap (a + b) = a + b := by rw [IntKind.wrap_i64]; omega
  have hws : IntKind.i64.wrap (a - b) = a - b := by rw [IntKind.wrap_i64]; omega
  have HA := Lib.hid ha
  have HB := Lib.hid hb0
  clear ha hb0
  have qad : eqI nad sad nad sad = true := eqI_iff.mpr ⟨rfl, rfl⟩
  have qsu : eqI nsu ssu nsu ssu = true := eqI_iff.mpr ⟨rfl, rfl⟩
  have qmu : eqI nmu smu nmu smu = true := eqI_iff.mpr ⟨rfl, rfl⟩
  have qqu : eqI nqu squ nqu squ = true := eqI_iff.mpr ⟨rfl, rfl⟩
  have qre : eqI nre sre nre sre = true := eqI_iff.mpr ⟨rfl, rfl⟩
  go_enter Try.func10, Try.ntmps10
  have HL0 := Lib.hid (Below.refl w.heap.size w)
  have HD0 := Lib.hid (Bxs.nil w)
  go_wp2_with fail
  refine (H1.out _).mono ?_
  rintro e w1 ⟨rfl, hb⟩
  have HL1 := Lib.hid (bstep HL0.out hb)
  have HD1 := Lib.hid (HD0.out.below hb)
  clear hb HL0 HD0
  go_wp2_with fail
  refine (H2.out _).mono ?_
  rintro e w2 ⟨rfl, hb⟩
  have HL2 := Lib.hid (bstep HL1.out hb)
  have HD2 := Lib.hid (HD1.out.below hb)
  clear hb HL1 HD1
  have HL3 := Lib.hid (HL2.out.alloc HL2.out.size (.cells #[.bool np, .string sp] 23))
  have HD3 := Lib.hid (HD2.out.push' (w2.heap.size) np sp (by simp))
  clear HL2 HD2
  have HL4 := Lib.hid (HL3.out.alloc HL3.out.size (.cells #[.bool nq, .string sq] 23))
  have HD4 := Lib.hid (HD3.out.push' (w2.heap.size + 1) nq sq (by simp))
  clear HL3 HD3
  obtain ⟨fx0, fy0⟩ := HD4.out.get (w2.heap.size) np sp (by simp)
  go_wp2_with fail
  refine (H3.out _).mono ?_
  rintro e w3 ⟨rfl, hb⟩
  have HL5 := Lib.hid (bstep HL4.out hb)
  have HD5 := Lib.hid (HD4.out.below hb)
  clear hb HL4 HD4
  obtain ⟨fx0, fy0⟩ := HD5.out.get (w2.heap.size) np sp (by simp)
  obtain ⟨fx1, fy1⟩ := HD5.out.get (w2.heap.size + 1) nq sq (by simp)
  go_wp2_with fail
  refine (H4.out _).mono ?_
  rintro e w4 ⟨rfl, hb⟩
  have HL6 := Lib.hid (bstep HL5.out hb)
  have HD6 := Lib.hid (HD5.out.below hb)
  clear hb HL5 HD5
  go_wp2_with fail
  refine (H5.out _).mono ?_
  rintro e w5 ⟨rfl, hb⟩
  have HL7 := Lib.hid (bstep HL6.out hb)
  have HD7 := Lib.hid (HD6.out.below hb)
  clear hb HL6 HD6
  obtain ⟨fx0, fy0⟩ := HD7.out.get (w2.heap.size) np sp (by simp)
  obtain ⟨fx1, fy1⟩ := HD7.out.get (w2.heap.size + 1) nq sq (by simp)
  go_wp2_with fail
  refine (H6.out _).mono ?_
  rintro e w6 ⟨rfl, hb⟩
  have HL8 := Lib.hid (bstep HL7.out hb)
  have HD8 := Lib.hid (HD7.out.below hb)
  clear hb HL7 HD7
  go_wp2_with fail
  refine (H7.out _).mono ?_
  rintro e w7 ⟨rfl, hb⟩
  have HL9 := Lib.hid (bstep HL8.out hb)
  have HD9 := Lib.hid (HD8.out.below hb)
  clear hb HL8 HD8
  obtain ⟨fx0, fy0⟩ := HD9.out.get (w2.heap.size) np sp (by simp)
  obtain ⟨fx1, fy1⟩ := HD9.out.get (w2.heap.size + 1) nq sq (by simp)
  go_wp2_with fail
  refine (H8.out _).mono ?_
  rintro e w8 ⟨rfl, hb⟩
  have HL10 := Lib.hid (bstep HL9.out hb)
  have HD10 := Lib.hid (HD9.out.below hb)
  clear hb HL9 HD9
  go_wp2_with fail
  refine (H9.out _).mono ?_
  rintro e w9 ⟨rfl, hb⟩
  have HL11 := Lib.hid (bstep HL10.out hb)
  have HD11 := Lib.hid (HD10.out.below hb)
  clear hb HL10 HD10
  obtain ⟨fx0, fy0⟩ := HD11.out.get (w2.heap.size) np sp (by simp)
  obtain ⟨fx1, fy1⟩ := HD11.out.get (w2.heap.size + 1) nq sq (by simp)
  go_wp2_with fail
  refine (H10.out _).mono ?_
  rintro e w10 ⟨rfl, hb⟩
  have HL12 := Lib.hid (bstep HL11.out hb)
  have HD12 := Lib.hid (HD11.out.below hb)
  clear hb HL11 HD11
  obtain ⟨fx0, fy0⟩ := HD12.out.get (w2.heap.size) np sp (by simp)
  obtain ⟨fx1, fy1⟩ := HD12.out.get (w2.heap.size + 1) nq sq (by simp)
  go_wp2_with fail
  refine (H10.out _).mono ?_
  rintro e w11 ⟨rfl, hb⟩
  have HL13 := Lib.hid (bstep HL12.out hb)
  have HD13 := Lib.hid (HD12.out.below hb)
  clear hb HL12 HD12
  go_wp2_with fail
  obtain ⟨Bw2, hB⟩ : ∃ B, w2.heap.size = B := ⟨_, rfl⟩
  rw [hB] at HD13 ⊢
  clear hB
  obtain ⟨W12, hW⟩ : ∃ W, w11 = W := ⟨_, rfl⟩
  rw [hW] at HD13 HL13 ⊢
  clear hW
  haveI := cls_some W12
  refine wp_region_cls (by kernel_rfl) ?_
  iterate 8 (go_big_quiet_step (fail))
  refine wpQuiet_nil ?_
  intro w13 hw9
  have hB : Below W12.heap.size W12 w13 := by obtain ⟨u, rfl⟩ := hw9; exact u.h
  clear hw9 
  have HL14 := Lib.hid (bstep HL13.out hB)
  have HD14 := Lib.hid (HD13.out.below hB)
  clear hB HL13 HD13
  obtain ⟨fx0, fy0⟩ := HD14.out.get (Bw2) np sp (by simp)
  obtain ⟨fx1, fy1⟩ := HD14.out.get (Bw2 + 1) nq sq (by simp)
  go_wp2_with fail
  refine (H11.out _).mono ?_
  rintro e w14 ⟨rfl, hb⟩
  have HL15 := Lib.hid (bstep HL14.out hb)
  have HD15 := Lib.hid (HD14.out.below hb)
  clear hb HL14 HD14
  have HL16 := Lib.hid (HL15.out.alloc HL15.out.size (.cells #[.bool nqu, .string squ] 23))
  have HD16 := Lib.hid (HD15.out.push' (w14.heap.size) nqu squ (by simp))
  clear HL15 HD15
  have HL17 := Lib.hid (HL16.out.alloc HL16.out.size (.cells #[.bool nre, .string sre] 23))
  have HD17 := Lib.hid (HD16.out.push' (w14.heap.size + 1) nre sre (by simp))
  clear HL16 HD16
  go_wp2_with fail
  obtain ⟨Bw14, hB⟩ : ∃ B, w14.heap.size = B := ⟨_, rfl⟩
  rw [hB] at HD17 ⊢
  clear hB
  obtain ⟨W15, hW⟩ : ∃ W, ((w14.alloc (.cells #[.bool nqu, .string squ] 23)).alloc (.cells #[.bool nre, .string sre] 23)) = W := ⟨_, rfl⟩
  rw [hW] at HD17 HL17 ⊢
  clear hW
  haveI := cls_some W15
  have fq2 : ∀ u : Cl W15, u.x.cell? ⟨Bw14, 0, none⟩ = some (.bool nqu) := fun u => ((HD17.out.below u.h).get (Bw14) nqu squ (by simp)).1
  have fr2 : ∀ u : Cl W15, u.x.cell? ⟨Bw14, 1, none⟩ = some (.string squ) := fun u => ((HD17.out.below u.h).get (Bw14) nqu squ (by simp)).2
  have fq3 : ∀ u : Cl W15, u.x.cell? ⟨Bw14 + 1, 0, none⟩ = some (.bool nre) := fun u => ((HD17.out.below u.h).get (Bw14 + 1) nre sre (by simp)).1
  have fr3 : ∀ u : Cl W15, u.x.cell? ⟨Bw14 + 1, 1, none⟩ = some (.string sre) := fun u => ((HD17.out.below u.h).get (Bw14 + 1) nre sre (by simp)).2
  refine wp_region_cls (by kernel_rfl) ?_
  iterate 5 (go_big_quiet_step (fail))
  go_big_quiet_step ((go_at_call 31; exact quiet_cls H12.out _))
  iterate 5 (go_big_quiet_step (fail))
  go_big_quiet_step ((go_at_call 31; exact quiet_cls H13.out _))
  iterate 3 (go_big_quiet_step (fail))
  go_big_quiet_step ((go_at_call 13; exact quiet_cls awake01 _))
  iterate 2 (go_big_quiet_step (fail))
  refine wpQuiet_nil ?_
  intro w16 hw9
  have hB : Below W15.heap.size W15 w16 := by obtain ⟨u, rfl⟩ := hw9; exact u.h
  clear hw9 fq2 fr2 fq3 fr3
  have HL18 := Lib.hid (bstep HL17.out hB)
  have HD18 := Lib.hid (HD17.out.below hB)
  clear hB HL17 HD17
  go_wp2
  go_ret
  exact ⟨rfl, HL18.out⟩

end Go.Proofs.Gv
