/- Layer 02: functions of rational, walked over the results of what they call (printed by gen02u.py). -/
import Derived.Test.YtamempcabmlodaaDoorRatTabP
import Derived.Test.YtamempcabmlodaaDoorRwsimple1P
import Derived.LoopN
import Derived.Deep.LoopGhost
set_option linter.unusedSimpArgs false
set_option linter.unusedVariables false
namespace Go.Proofs.Gv
open Go Go.RowKit

set_option maxRecDepth 100000 in
set_option maxHeartbeats 4000000 in
theorem simple_s1_den {ni mi nv mv nx mx ns ms : Bool} {si ti sv tv sx tx ss ts : ByteArray} (na ma : Bool) (sa ta : ByteArray) (nb mb : Bool) (sb tb : ByteArray) (hgz : ∀ x ∈ ([(na, sa, ma, ta), (nb, sb, mb, tb)] : List (Bool × ByteArray × Bool × ByteArray)), x.2.1.size ≤ maxLen ∧ x.2.2.2.size ≤ maxLen) (hgr : grQ 4 [(na, sa, ma, ta), (nb, sb, mb, tb)] = false) (h0 : Int) (hh : -32768 ≤ h0 ∧ h0 ≤ 32767) (c1 c2 : Int) (hc1 : decide ((0 : Int) < c1) = false) (hc2 : decide ((0 : Int) < c2) = false) (nr : Bool) (sr tr0 : ByteArray) (nden : Int) (hn1 : 1 ≤ nden) (hn2 : nden ≤ 60) (hrd : ∀ d : Int, 1 ≤ d → d ≤ 60 → d < nden → ∃ (no : Bool) (so : ByteArray) (nq mq : Bool) (sq tq : ByteArray) (nm mm9 : Bool) (sm tm : ByteArray) (nf : Bool) (sf : ByteArray) (nk mk9 : Bool) (sk tk : ByteArray) (ek : Int), (∀ W, Calls Tryd.prog 24 #[.int .i64 d] W fun e w' => e = .returned (.agg #[.bool no, .string so]) ∧ Below W.heap.size W w') ∧ (∀ W, Calls Tryd.prog 23 #[.agg #[.bool no, .string so], .agg #[.bool false, .string tr0]] W fun e w' => e = .returned (.int .i64 (-1)) ∧ Below W.heap.size W w') ∧ (∀ W, Calls Tryd.prog 18 #[.int .i64 d, .int .i64 1] W fun e w' => e = .returned (.agg #[.bool nq, .string sq, .bool mq, .string tq]) ∧ Below W.heap.size W w') ∧ (∀ W, Calls Tryd.prog 17 #[.agg #[.bool na, .string sa, .bool ma, .string ta], .agg #[.bool nq, .string sq, .bool mq, .string tq]] W fun e w' => e = .returned (.agg #[.bool nm, .string sm, .bool mm9, .string tm]) ∧ Below W.heap.size W w') ∧ (∀ W, Calls Tryd.prog 30 #[.agg #[.bool nm, .string sm, .bool mm9, .string tm]] W fun e w' => e = .returned (.agg #[.bool nf, .string sf]) ∧ Below W.heap.size W w') ∧ (∀ W, Calls Tryd.prog 29 #[.agg #[.bool nf, .string sf], .agg #[.bool no, .string so]] W fun e w' => e = .returned (.tuple #[.agg #[.bool nk, .string sk, .bool mk9, .string tk], .int .i64 ek]) ∧ Below W.heap.size W w') ∧ (∀ W, Calls Tryd.prog 15 #[.agg #[.bool nk, .string sk, .bool mk9, .string tk], .agg #[.bool nb, .string sb, .bool mb, .string tb]] W fun e w' => e = .returned (.int .i64 (-1)) ∧ Below W.heap.size W w')) (td0 : ByteArray) (hod : (∀ W, Calls Tryd.prog 24 #[.int .i64 nden] W fun e w' => e = .returned (.agg #[.bool false, .string td0]) ∧ Below W.heap.size W w')) (hcd : (∀ W, Calls Tryd.prog 23 #[.agg #[.bool false, .string td0], .agg #[.bool false, .string tr0]] W fun e w' => e = .returned (.int .i64 0) ∧ Below W.heap.size W w')) (nu : Bool) (su : ByteArray) (hq : eqI false tr0 nu su = false) (w : World)
    (H1 : ∀ W, Calls Tryd.prog 15 #[.agg #[.bool na, .string sa, .bool ma, .string ta], .agg #[.bool nb, .string sb, .bool mb, .string tb]] W fun e w' => e = .returned (.int .i64 1) ∧ Below W.heap.size W w')
    (H2 : ∀ W, Calls Tryd.prog 28 #[.agg #[.bool nb, .string sb, .bool mb, .string tb], .agg #[.bool na, .string sa, .bool ma, .string ta]] W fun e w' => e = .returned (.tuple #[.agg #[.bool nr, .string sr, .bool false, .string tr0], .int .i64 0]) ∧ Below W.heap.size W w')
    (H3 : ∀ W, Calls Tryd.prog 15 #[.agg #[.bool nb, .string sb, .bool mb, .string tb], .agg #[.bool nr, .string sr, .bool false, .string tr0]] W fun e w' => e = .returned (.int .i64 c1) ∧ Below W.heap.size W w')
    (H4 : ∀ W, Calls Tryd.prog 15 #[.agg #[.bool nr, .string sr, .bool false, .string tr0], .agg #[.bool na, .string sa, .bool ma, .string ta]] W fun e w' => e = .returned (.int .i64 c2) ∧ Below W.heap.size W w')
    (H5 : ∀ W, Calls Tryd.prog 14 #[.agg #[.bool nr, .string sr, .bool false, .string tr0]] W fun e w' => e = .returned (.int .i64 0) ∧ Below W.heap.size W w')
    (H6 : ∀ W, Calls Tryd.prog 24 #[.int .i64 1] W fun e w' => e = .returned (.agg #[.bool nu, .string su]) ∧ Below W.heap.size W w')
    (H7 : ∀ W, Calls Tryd.prog 18 #[.int .i64 h0, .int .i64 1] W fun e w' => e = .returned (.agg #[.bool ni, .string si, .bool mi, .string ti]) ∧ Below W.heap.size W w')
    (H8 : ∀ W, Calls Tryd.prog 16 #[.agg #[.bool nb, .string sb, .bool mb, .string tb], .agg #[.bool ni, .string si, .bool mi, .string ti]] W fun e w' => e = .returned (.agg #[.bool nv, .string sv, .bool mv, .string tv]) ∧ Below W.heap.size W w')
    (H9 : ∀ W, Calls Tryd.prog 16 #[.agg #[.bool na, .string sa, .bool ma, .string ta], .agg #[.bool ni, .string si, .bool mi, .string ti]] W fun e w' => e = .returned (.agg #[.bool nx, .string sx, .bool mx, .string tx]) ∧ Below W.heap.size W w')
    (H10 : ∀ W, Calls Tryd.prog 28 #[.agg #[.bool nv, .string sv, .bool mv, .string tv], .agg #[.bool nx, .string sx, .bool mx, .string tx]] W fun e w' => e = .returned (.tuple #[.agg #[.bool ns, .string ss, .bool ms, .string ts], .int .i64 0]) ∧ Below W.heap.size W w')
    (H11 : ∀ W, Calls Tryd.prog 16 #[.agg #[.bool nr, .string sr, .bool false, .string tr0], .agg #[.bool ni, .string si, .bool mi, .string ti]] W fun e w' => e = .returned (.agg #[.bool ns, .string ss, .bool ms, .string ts]) ∧ Below W.heap.size W w')
    (H12 : ∀ W, Calls Tryd.prog 11 #[] W fun e w' => e = .returned (.bool true) ∧ Below W.heap.size W w')
    : Calls Tryd.prog 7 #[.agg #[.bool na, .string sa, .bool ma, .string ta], .agg #[.bool nb, .string sb, .bool mb, .string tb], .int .i16 h0] w fun e w' => e = .returned (.bool true) ∧ Below w.heap.size w w' := by
  replace H1 := Lib.hid H1
  replace H2 := Lib.hid H2
  replace H3 := Lib.hid H3
  replace H4 := Lib.hid H4
  replace H5 := Lib.hid H5
  replace H6 := Lib.hid H6
  replace H7 := Lib.hid H7
  replace H8 := Lib.hid H8
  replace H9 := Lib.hid H9
  replace H10 := Lib.hid H10
  replace H11 := Lib.hid H11
  replace H12 := Lib.hid H12
  have HGZ := Lib.hid hgz
  clear hgz
  have HRD := Lib.hid hrd
  clear hrd
  have HOD := Lib.hid hod
  have HCD := Lib.hid hcd
  clear hod hcd
  have qs : eqQ ns ss ms ts ns ss ms ts = true := eqQ_iff.2 ⟨⟨rfl, rfl⟩, ⟨rfl, rfl⟩⟩
  go_enter Tryd.func7, Tryd.ntmps7
  have HL0 := Lib.hid (Below.refl w.heap.size w)
  have HB0 := Lib.hid (show Bs [] w from trivial)
  have HO0 := Lib.hid (show w.heap.size ≤ w.heap.size from by have := HL0.out.size; first | omega | (simp at this; omega))
  have HL1 := Lib.hid (HL0.out.alloc HL0.out.size (.cells #[.bool na, .string sa, .bool ma, .string ta] 25))
  have HB1 := Lib.hid (HB0.out.push (w.heap.size) #[.bool na, .string sa, .bool ma, .string ta] 25 (by first | rfl | simp))
  clear HL0 HB0
  have HO1 := Lib.hid (show w.heap.size < w.heap.size + 1 from by have := (HB1.out.1).lt; first | omega | (simp at this; omega))
  have HL2 := Lib.hid (HL1.out.alloc HL1.out.size (.cells #[.bool nb, .string sb, .bool mb, .string tb] 25))
  have HB2 := Lib.hid (HB1.out.push (w.heap.size + 1) #[.bool nb, .string sb, .bool mb, .string tb] 25 (by first | rfl | simp))
  clear HL1 HB1
  have fx0_0_2 := (HB2.out.2.1).at 0 (.bool na) rfl
  have fx0_1_2 := (HB2.out.2.1).at 1 (.string sa) rfl
  have fx0_2_2 := (HB2.out.2.1).at 2 (.bool ma) rfl
  have fx0_3_2 := (HB2.out.2.1).at 3 (.string ta) rfl
  have fx1_0_2 := (HB2.out.1).at 0 (.bool nb) rfl
  have fx1_1_2 := (HB2.out.1).at 1 (.string sb) rfl
  have fx1_2_2 := (HB2.out.1).at 2 (.bool mb) rfl
  have fx1_3_2 := (HB2.out.1).at 3 (.string tb) rfl
  have HO2 := Lib.hid (show w.heap.size + 1 < w.heap.size + 1 + 1 from by have := (HB2.out.1).lt; first | omega | (simp at this; omega))
  have HL3 := Lib.hid (HL2.out.alloc HL2.out.size (.cells #[.bool na, .string sa, .bool ma, .string ta, .bool nb, .string sb, .bool mb, .string tb] 25))
  have HB3 := Lib.hid (HB2.out.push (w.heap.size + 1 + 1) #[.bool na, .string sa, .bool ma, .string ta, .bool nb, .string sb, .bool mb, .string tb] 25 (by first | rfl | simp))
  clear HL2 HB2
  go_wp2_with fail
  refine (longQ_box [(na, sa, ma, ta), (nb, sb, mb, tb)] (HB3.out.1) (show 2 ≤ 1000 by decide) HGZ.out).mono ?_
  rintro e w1 ⟨rfl, hb⟩
  have HL4 := Lib.hid (bstep HL3.out hb)
  have HB4 := Lib.hid (HB3.out.bel hb)
  clear hb
  clear HL3 HB3 fx0_0_2 fx0_1_2 fx0_2_2 fx0_3_2 fx1_0_2 fx1_1_2 fx1_2_2 fx1_3_2
  have fx0_0_4 := (HB4.out.2.2.1).at 0 (.bool na) rfl
  have fx0_1_4 := (HB4.out.2.2.1).at 1 (.string sa) rfl
  have fx0_2_4 := (HB4.out.2.2.1).at 2 (.bool ma) rfl
  have fx0_3_4 := (HB4.out.2.2.1).at 3 (.string ta) rfl
  have fx1_0_4 := (HB4.out.2.1).at 0 (.bool nb) rfl
  have fx1_1_4 := (HB4.out.2.1).at 1 (.string sb) rfl
  have fx1_2_4 := (HB4.out.2.1).at 2 (.bool mb) rfl
  have fx1_3_4 := (HB4.out.2.1).at 3 (.string tb) rfl
  go_wp2_with fail
  refine (H1.out _).mono ?_
  rintro e w2 ⟨rfl, hb⟩
  have HL5 := Lib.hid (bstep HL4.out hb)
  have HB5 := Lib.hid (HB4.out.bel hb)
  clear hb
  clear HL4 HB4 fx0_0_4 fx0_1_4 fx0_2_4 fx0_3_4 fx1_0_4 fx1_1_4 fx1_2_4 fx1_3_4
  have fx1_0_5 := (HB5.out.2.1).at 0 (.bool nb) rfl
  have fx1_1_5 := (HB5.out.2.1).at 1 (.string sb) rfl
  have fx1_2_5 := (HB5.out.2.1).at 2 (.bool mb) rfl
  have fx1_3_5 := (HB5.out.2.1).at 3 (.string tb) rfl
  have fx0_0_5 := (HB5.out.2.2.1).at 0 (.bool na) rfl
  have fx0_1_5 := (HB5.out.2.2.1).at 1 (.string sa) rfl
  have fx0_2_5 := (HB5.out.2.2.1).at 2 (.bool ma) rfl
  have fx0_3_5 := (HB5.out.2.2.1).at 3 (.string ta) rfl
  have fz0_0_5 := (HB5.out.2.2.1).z 0 (show 0 < 4 by decide)
  have fz0_1_5 := (HB5.out.2.2.1).z 1 (show 1 < 4 by decide)
  have fz0_2_5 := (HB5.out.2.2.1).z 2 (show 2 < 4 by decide)
  have fz0_3_5 := (HB5.out.2.2.1).z 3 (show 3 < 4 by decide)
  have HL6 := Below.setCs (c := w.heap.size) (by have := HO0.out; have := HO1.out; have := HO2.out; omega) [.bool nb, .string sb, .bool mb, .string tb] _ 0 HL5.out
  have HB6 := Bs.store (c := w.heap.size) [.bool nb, .string sb, .bool mb, .string tb] 0 2 HB5.out (by simp only [Bs.ap, Bs.ap0, List.length_cons, List.length_nil, and_true, true_and]; have := HO0.out; have := HO1.out; have := HO2.out; omega)
  simp only [setCs, setL, Bs.put, List.set_cons_succ, List.set_cons_zero, Nat.zero_add, Nat.reduceAdd] at HL6 HB6
  replace HL6 := Lib.hid HL6
  replace HB6 := Lib.hid HB6
  clear HL5 HB5
  have fx1_0_6 := (HB6.out.2.1).at 0 (.bool nb) rfl
  have fz1_0_6 := (HB6.out.2.1).z 0 (show 0 < 4 by decide)
  have fx1_1_6 := (HB6.out.2.1).at 1 (.string sb) rfl
  have fz1_1_6 := (HB6.out.2.1).z 1 (show 1 < 4 by decide)
  have fx1_2_6 := (HB6.out.2.1).at 2 (.bool mb) rfl
  have fz1_2_6 := (HB6.out.2.1).z 2 (show 2 < 4 by decide)
  have fx1_3_6 := (HB6.out.2.1).at 3 (.string tb) rfl
  have fz1_3_6 := (HB6.out.2.1).z 3 (show 3 < 4 by decide)
  have HL7 := Below.setCs (c := w.heap.size + 1) (by have := HO0.out; have := HO1.out; have := HO2.out; omega) [.bool na, .string sa, .bool ma, .string ta] _ 0 HL6.out
  have HB7 := Bs.store (c := w.heap.size + 1) [.bool na, .string sa, .bool ma, .string ta] 0 1 HB6.out (by simp only [Bs.ap, Bs.ap0, List.length_cons, List.length_nil, and_true, true_and]; have := HO0.out; have := HO1.out; have := HO2.out; omega)
  simp only [setCs, setL, Bs.put, List.set_cons_succ, List.set_cons_zero, Nat.zero_add, Nat.reduceAdd] at HL7 HB7
  replace HL7 := Lib.hid HL7
  replace HB7 := Lib.hid HB7
  clear HL6 HB6
  have fx0_0_7 := (HB7.out.2.2.1).at 0 (.bool nb) rfl
  have fx0_1_7 := (HB7.out.2.2.1).at 1 (.string sb) rfl
  have fx0_2_7 := (HB7.out.2.2.1).at 2 (.bool mb) rfl
  have fx0_3_7 := (HB7.out.2.2.1).at 3 (.string tb) rfl
  have fx1_0_7 := (HB7.out.2.1).at 0 (.bool na) rfl
  have fx1_1_7 := (HB7.out.2.1).at 1 (.string sa) rfl
  have fx1_2_7 := (HB7.out.2.1).at 2 (.bool ma) rfl
  have fx1_3_7 := (HB7.out.2.1).at 3 (.string ta) rfl
  go_wp2_with fail
  refine (H2.out _).mono ?_
  rintro e w3 ⟨rfl, hb⟩
  have HL8 := Lib.hid (bstep HL7.out hb)
  have HB8 := Lib.hid (HB7.out.bel hb)
  clear hb
  clear HL7 HB7 fx1_0_5 fx1_1_5 fx1_2_5 fx1_3_5 fx0_0_5 fx0_1_5 fx0_2_5 fx0_3_5 fz0_0_5 fz0_1_5 fz0_2_5 fz0_3_5 fx1_0_6 fz1_0_6 fx1_1_6 fz1_1_6 fx1_2_6 fz1_2_6 fx1_3_6 fz1_3_6 fx0_0_7 fx0_1_7 fx0_2_7 fx0_3_7 fx1_0_7 fx1_1_7 fx1_2_7 fx1_3_7
  have HO3 := Lib.hid (show w.heap.size + 1 + 1 < w3.heap.size from by have := (HB8.out.1).lt; first | omega | (simp at this; omega))
  have HL9 := Lib.hid (HL8.out.alloc HL8.out.size (.cells #[.bool nr, .string sr, .bool false, .string tr0] 25))
  have HB9 := Lib.hid (HB8.out.push (w3.heap.size) #[.bool nr, .string sr, .bool false, .string tr0] 25 (by first | rfl | simp))
  clear HL8 HB8
  have fx0_0_9 := (HB9.out.2.2.2.1).at 0 (.bool nb) rfl
  have fx0_1_9 := (HB9.out.2.2.2.1).at 1 (.string sb) rfl
  have fx0_2_9 := (HB9.out.2.2.2.1).at 2 (.bool mb) rfl
  have fx0_3_9 := (HB9.out.2.2.2.1).at 3 (.string tb) rfl
  have fx3_0_9 := (HB9.out.1).at 0 (.bool nr) rfl
  have fx3_1_9 := (HB9.out.1).at 1 (.string sr) rfl
  have fx3_2_9 := (HB9.out.1).at 2 (.bool false) rfl
  have fx3_3_9 := (HB9.out.1).at 3 (.string tr0) rfl
  go_wp2_with fail
  refine (H3.out _).mono ?_
  rintro e w4 ⟨rfl, hb⟩
  have HL10 := Lib.hid (bstep HL9.out hb)
  have HB10 := Lib.hid (HB9.out.bel hb)
  clear hb
  clear HL9 HB9 fx0_0_9 fx0_1_9 fx0_2_9 fx0_3_9 fx3_0_9 fx3_1_9 fx3_2_9 fx3_3_9
  have fx3_0_10 := (HB10.out.1).at 0 (.bool nr) rfl
  have fx3_1_10 := (HB10.out.1).at 1 (.string sr) rfl
  have fx3_2_10 := (HB10.out.1).at 2 (.bool false) rfl
  have fx3_3_10 := (HB10.out.1).at 3 (.string tr0) rfl
  have fx1_0_10 := (HB10.out.2.2.1).at 0 (.bool na) rfl
  have fx1_1_10 := (HB10.out.2.2.1).at 1 (.string sa) rfl
  have fx1_2_10 := (HB10.out.2.2.1).at 2 (.bool ma) rfl
  have fx1_3_10 := (HB10.out.2.2.1).at 3 (.string ta) rfl
  go_wp2_with fail
  refine (H4.out _).mono ?_
  rintro e w5 ⟨rfl, hb⟩
  have HL11 := Lib.hid (bstep HL10.out hb)
  have HB11 := Lib.hid (HB10.out.bel hb)
  clear hb
  clear HL10 HB10 fx3_0_10 fx3_1_10 fx3_2_10 fx3_3_10 fx1_0_10 fx1_1_10 fx1_2_10 fx1_3_10
  have fx3_0_11 := (HB11.out.1).at 0 (.bool nr) rfl
  have fx3_1_11 := (HB11.out.1).at 1 (.string sr) rfl
  have fx3_2_11 := (HB11.out.1).at 2 (.bool false) rfl
  have fx3_3_11 := (HB11.out.1).at 3 (.string tr0) rfl
  go_wp2_with fail
  refine (H5.out _).mono ?_
  rintro e w6 ⟨rfl, hb⟩
  have HL12 := Lib.hid (bstep HL11.out hb)
  have HB12 := Lib.hid (HB11.out.bel hb)
  clear hb
  clear HL11 HB11 fx3_0_11 fx3_1_11 fx3_2_11 fx3_3_11
  go_wp2_with fail
  obtain ⟨Bw3, hB⟩ : ∃ B, w3.heap.size = B := ⟨_, rfl⟩
  rw [hB] at HB12 ⊢
  try rw [hB] at HO0
  try rw [hB] at HO1
  try rw [hB] at HO2
  try rw [hB] at HO3
  clear hB
  obtain ⟨W7, hW⟩ : ∃ W, w6 = W := ⟨_, rfl⟩
  rw [hW] at HB12 HL12 ⊢
  clear hW
  go_loopg [9] 62 (fun gg v9 wr => ∃ d : Int, v9 = .int .i64 d ∧ 1 ≤ d ∧ d ≤ nden ∧ (62 - d).toNat ≤ gg ∧ Below w.heap.size w wr ∧ Bs [(Bw3, [.bool nr, .string sr, .bool false, .string tr0]), (w.heap.size + 1 + 1, [.bool na, .string sa, .bool ma, .string ta, .bool nb, .string sb, .bool mb, .string tb]), (w.heap.size + 1, [.bool na, .string sa, .bool ma, .string ta]), (w.heap.size, [.bool nb, .string sb, .bool mb, .string tb])] wr)
  case atStart => exact ⟨1, rfl, by omega, by omega, by decide, HL12.out, HB12.out⟩
  case round =>
    obtain ⟨d, rfl, hd1, hd2, hgg, hl, hb⟩ := hrel
    have HGG := Lib.hid hgg
    clear HL12 HB12 hgg
    have HL700 := Lib.hid hl
    have HB700 := Lib.hid hb
    clear hl hb
    by_cases hlast : d < nden
    · have hd60 : d ≤ 60 := by omega
      obtain ⟨no, so, nq, mq, sq, tq, nm, mm9, sm, tm, nf, sf, nk, mk9, sk, tk, ek, J1, J2, J3, J4, J5, J6, J7⟩ := HRD.out d hd1 hd60 hlast
      replace J1 := Lib.hid J1
      replace J2 := Lib.hid J2
      replace J3 := Lib.hid J3
      replace J4 := Lib.hid J4
      replace J5 := Lib.hid J5
      replace J6 := Lib.hid J6
      replace J7 := Lib.hid J7
      have hc1 : (-1 : Int) < 0 := by decide
      go_wp2_with fail
      haveI := cls_some wr
      have fq3_2 : ∀ u : Cl wr, u.x.cell? ⟨Bw3, 2, none⟩ = some (.bool false) := fun u => ((HB700.out.bel u.h).1).at 2 (.bool false) rfl
      have fq3_3 : ∀ u : Cl wr, u.x.cell? ⟨Bw3, 3, none⟩ = some (.string tr0) := fun u => ((HB700.out.bel u.h).1).at 3 (.string tr0) rfl
      refine wp_region_cls (by kernel_rfl) ?_
      iterate 4 (go_big_quiet_step (fail))
      go_big_quiet_step ((go_at_call 24; exact quiet_cls J1.out _))
      iterate 2 (go_big_quiet_step (fail))
      go_big_quiet_step ((go_at_call 23; exact quiet_cls J2.out _))
      iterate 2 (go_big_quiet_step (fail))
      refine wpQuiet_nil ?_
      intro w61 hw9
      have hb : Below wr.heap.size wr w61 := by obtain ⟨u, rfl⟩ := hw9; exact u.h
      clear hw9 this fq3_2 fq3_3
      have HL701 := Lib.hid (bstep HL700.out hb)
      have HB701 := Lib.hid (HB700.out.bel hb)
      clear hb
      clear HL700 HB700
      go_wp2_with fail
      refine wp_region_front 14 zvQ (by kernel_rfl) shQ (by kernel_rfl) (by kernel_rfl) (zvQ_alloc _ (by kernel_rfl)) (shQ_store _ (by kernel_rfl)) ?_
      intro mm BW hm1 hm2 hBW
      haveI := clm_some mm BW
      have fq1_0 : ∀ u : Clm mm BW, u.x.cell? ⟨w.heap.size + 1, 0, none⟩ = some (.bool na) := fun u => ((HB701.out.bel (u.old hm1 hBW)).2.2.1).at 0 (.bool na) rfl
      have fq1_1 : ∀ u : Clm mm BW, u.x.cell? ⟨w.heap.size + 1, 1, none⟩ = some (.string sa) := fun u => ((HB701.out.bel (u.old hm1 hBW)).2.2.1).at 1 (.string sa) rfl
      have fq1_2 : ∀ u : Clm mm BW, u.x.cell? ⟨w.heap.size + 1, 2, none⟩ = some (.bool ma) := fun u => ((HB701.out.bel (u.old hm1 hBW)).2.2.1).at 2 (.bool ma) rfl
      have fq1_3 : ∀ u : Clm mm BW, u.x.cell? ⟨w.heap.size + 1, 3, none⟩ = some (.string ta) := fun u => ((HB701.out.bel (u.old hm1 hBW)).2.2.1).at 3 (.string ta) rfl
      simp only [frontOf, unmade, List.take_succ_cons, List.take_zero, List.map_cons, List.map_nil]
      iterate 2 (go_big_quiet_step (fail))
      go_big_quiet_step ((go_at_call 18; exact quiet_clm hm2 J3.out _))
      go_big_quiet_step ((go_at_call 17; exact quiet_clm hm2 J4.out _))
      go_big_quiet_step ((go_at_call 30; exact quiet_clm hm2 J5.out _))
      iterate 1 (go_big_quiet_step (fail))
      go_big_quiet_step ((go_at_call 24; exact quiet_clm hm2 J1.out _))
      go_big_quiet_step ((go_at_call 29; exact quiet_clm hm2 J6.out _))
      iterate 6 (go_big_quiet_step (fail))
      refine wpQuiet_nil ?_
      refine ⟨List.forall_mem_cons.2 ⟨by kernel_rfl, List.forall_mem_nil _⟩, ?_⟩
      intro γ w62 hb hF
      clear hBW this hm1 hm2 fq1_0 fq1_1 fq1_2 fq1_3
      clear BW mm
      simp only [madesFrom, Facts, patch, List.take_succ_cons, List.take_zero, List.drop_succ_cons, List.drop_zero, Nat.zero_add, Nat.reduceAdd, List.mem_cons, List.not_mem_nil, or_false, forall_eq, forall_eq_or_imp, false_imp_iff, implies_true, and_true] at hF ⊢
      obtain ⟨hp10, hl10, hk10⟩ := hF
      obtain ⟨B10_62, hG⟩ : ∃ B, γ 11 = B := ⟨_, rfl⟩
      rw [hG] at hp10 hl10 hk10 ⊢
      clear hG
      have HL702 := Lib.hid (bstep HL701.out hb)
      have HO4 := Lib.hid (show Bw3 < B10_62 from Nat.lt_of_lt_of_le (HB701.out.1).lt hp10)
      have HB702 := Lib.hid (Bs.cons (show BC _ B10_62 [.bool nk, .string sk, .bool mk9, .string tk] from BC.of hk10) (HB701.out.bel hb))
      clear hb hp10 hl10 hk10
      clear HL701 HB701
      try go_frame
      have fx4_0_702 := (HB702.out.1).at 0 (.bool nk) rfl
      have fx4_1_702 := (HB702.out.1).at 1 (.string sk) rfl
      have fx4_2_702 := (HB702.out.1).at 2 (.bool mk9) rfl
      have fx4_3_702 := (HB702.out.1).at 3 (.string tk) rfl
      have fx0_0_702 := (HB702.out.2.2.2.2.1).at 0 (.bool nb) rfl
      have fx0_1_702 := (HB702.out.2.2.2.2.1).at 1 (.string sb) rfl
      have fx0_2_702 := (HB702.out.2.2.2.2.1).at 2 (.bool mb) rfl
      have fx0_3_702 := (HB702.out.2.2.2.2.1).at 3 (.string tb) rfl
      go_wp2_with fail
      refine (J7.out _).mono ?_
      rintro e w63 ⟨rfl, hb⟩
      have HL703 := Lib.hid (bstep HL702.out hb)
      have HB703 := Lib.hid (HB702.out.bel hb)
      clear hb
      clear HL702 HB702 fx4_0_702 fx4_1_702 fx4_2_702 fx4_3_702 fx0_0_702 fx0_1_702 fx0_2_702 fx0_3_702
      go_wp2_with fail
      obtain ⟨W64, hW⟩ : ∃ W, w63 = W := ⟨_, rfl⟩
      rw [hW] at HB703 HL703 ⊢
      clear hW
      go_roundg (62 - (d + 1)).toNat
      case rel => exact ⟨d + 1, rfl, by omega, by omega, by omega, HL703.out, HB703.out.2⟩
      case measure => have := HGG.out; omega
    · obtain rfl : d = nden := by omega
      clear hlast
      go_wp2_with fail
      haveI := cls_some wr
      have fq3_2 : ∀ u : Cl wr, u.x.cell? ⟨Bw3, 2, none⟩ = some (.bool false) := fun u => ((HB700.out.bel u.h).1).at 2 (.bool false) rfl
      have fq3_3 : ∀ u : Cl wr, u.x.cell? ⟨Bw3, 3, none⟩ = some (.string tr0) := fun u => ((HB700.out.bel u.h).1).at 3 (.string tr0) rfl
      refine wp_region_cls (by kernel_rfl) ?_
      iterate 4 (go_big_quiet_step (fail))
      go_big_quiet_step ((go_at_call 24; exact quiet_cls HOD.out _))
      iterate 2 (go_big_quiet_step (fail))
      go_big_quiet_step ((go_at_call 23; exact quiet_cls HCD.out _))
      iterate 2 (go_big_quiet_step (fail))
      refine wpQuiet_nil ?_
      intro w61 hw9
      have hb : Below wr.heap.size wr w61 := by obtain ⟨u, rfl⟩ := hw9; exact u.h
      clear hw9 this fq3_2 fq3_3
      have HL701 := Lib.hid (bstep HL700.out hb)
      have HB701 := Lib.hid (HB700.out.bel hb)
      clear hb
      clear HL700 HB700
      go_wp2_with fail
      haveI := cls_some w61
      have fq3_2 : ∀ u : Cl w61, u.x.cell? ⟨Bw3, 2, none⟩ = some (.bool false) := fun u => ((HB701.out.bel u.h).1).at 2 (.bool false) rfl
      have fq3_3 : ∀ u : Cl w61, u.x.cell? ⟨Bw3, 3, none⟩ = some (.string tr0) := fun u => ((HB701.out.bel u.h).1).at 3 (.string tr0) rfl
      refine wp_region_cls (by kernel_rfl) ?_
      iterate 2 (go_big_quiet_step (fail))
      go_big_quiet_step ((go_at_call 24; exact quiet_cls H6.out _))
      iterate 1 (go_big_quiet_step (fail))
      refine wpQuiet_nil ?_
      intro w62 hw9
      have hb : Below w61.heap.size w61 w62 := by obtain ⟨u, rfl⟩ := hw9; exact u.h
      clear hw9 this fq3_2 fq3_3
      have HL702 := Lib.hid (bstep HL701.out hb)
      have HB702 := Lib.hid (HB701.out.bel hb)
      clear hb
      clear HL701 HB701
      go_wp2_with fail
      refine (H7.out _).mono ?_
      rintro e w63 ⟨rfl, hb⟩
      have HL703 := Lib.hid (bstep HL702.out hb)
      have HB703 := Lib.hid (HB702.out.bel hb)
      clear hb
      clear HL702 HB702
      have HO4 := Lib.hid (show Bw3 < w63.heap.size from by have := (HB703.out.1).lt; first | omega | (simp at this; omega))
      have HL704 := Lib.hid (HL703.out.alloc HL703.out.size (.cells #[.bool ni, .string si, .bool mi, .string ti] 25))
      have HB704 := Lib.hid (HB703.out.push (w63.heap.size) #[.bool ni, .string si, .bool mi, .string ti] 25 (by first | rfl | simp))
      clear HL703 HB703
      go_wp2_with fail
      obtain ⟨Bw63, hB⟩ : ∃ B, w63.heap.size = B := ⟨_, rfl⟩
      rw [hB] at HB704 ⊢
      try rw [hB] at HO0
      try rw [hB] at HO1
      try rw [hB] at HO2
      try rw [hB] at HO3
      try rw [hB] at HO4
      clear hB
      obtain ⟨W64, hW⟩ : ∃ W, (w63.alloc (.cells #[.bool ni, .string si, .bool mi, .string ti] 25)) = W := ⟨_, rfl⟩
      rw [hW] at HB704 HL704 ⊢
      clear hW
      refine wp_region_front 13 zvQ (by kernel_rfl) shQ (by kernel_rfl) (by kernel_rfl) (zvQ_alloc _ (by kernel_rfl)) (shQ_store _ (by kernel_rfl)) ?_
      intro mm BW hm1 hm2 hBW
      haveI := clm_some mm BW
      have fq0_0 : ∀ u : Clm mm BW, u.x.cell? ⟨w.heap.size, 0, none⟩ = some (.bool nb) := fun u => ((HB704.out.bel (u.old hm1 hBW)).2.2.2.2.1).at 0 (.bool nb) rfl
      have fq0_1 : ∀ u : Clm mm BW, u.x.cell? ⟨w.heap.size, 1, none⟩ = some (.string sb) := fun u => ((HB704.out.bel (u.old hm1 hBW)).2.2.2.2.1).at 1 (.string sb) rfl
      have fq0_2 : ∀ u : Clm mm BW, u.x.cell? ⟨w.heap.size, 2, none⟩ = some (.bool mb) := fun u => ((HB704.out.bel (u.old hm1 hBW)).2.2.2.2.1).at 2 (.bool mb) rfl
      have fq0_3 : ∀ u : Clm mm BW, u.x.cell? ⟨w.heap.size, 3, none⟩ = some (.string tb) := fun u => ((HB704.out.bel (u.old hm1 hBW)).2.2.2.2.1).at 3 (.string tb) rfl
      have fq4_0 : ∀ u : Clm mm BW, u.x.cell? ⟨Bw63, 0, none⟩ = some (.bool ni) := fun u => ((HB704.out.bel (u.old hm1 hBW)).1).at 0 (.bool ni) rfl
      have fq4_1 : ∀ u : Clm mm BW, u.x.cell? ⟨Bw63, 1, none⟩ = some (.string si) := fun u => ((HB704.out.bel (u.old hm1 hBW)).1).at 1 (.string si) rfl
      have fq4_2 : ∀ u : Clm mm BW, u.x.cell? ⟨Bw63, 2, none⟩ = some (.bool mi) := fun u => ((HB704.out.bel (u.old hm1 hBW)).1).at 2 (.bool mi) rfl
      have fq4_3 : ∀ u : Clm mm BW, u.x.cell? ⟨Bw63, 3, none⟩ = some (.string ti) := fun u => ((HB704.out.bel (u.old hm1 hBW)).1).at 3 (.string ti) rfl
      have fq1_0 : ∀ u : Clm mm BW, u.x.cell? ⟨w.heap.size + 1, 0, none⟩ = some (.bool na) := fun u => ((HB704.out.bel (u.old hm1 hBW)).2.2.2.1).at 0 (.bool na) rfl
      have fq1_1 : ∀ u : Clm mm BW, u.x.cell? ⟨w.heap.size + 1, 1, none⟩ = some (.string sa) := fun u => ((HB704.out.bel (u.old hm1 hBW)).2.2.2.1).at 1 (.string sa) rfl
      have fq1_2 : ∀ u : Clm mm BW, u.x.cell? ⟨w.heap.size + 1, 2, none⟩ = some (.bool ma) := fun u => ((HB704.out.bel (u.old hm1 hBW)).2.2.2.1).at 2 (.bool ma) rfl
      have fq1_3 : ∀ u : Clm mm BW, u.x.cell? ⟨w.heap.size + 1, 3, none⟩ = some (.string ta) := fun u => ((HB704.out.bel (u.old hm1 hBW)).2.2.2.1).at 3 (.string ta) rfl
      simp only [frontOf, unmade, List.take_succ_cons, List.take_zero, List.map_cons, List.map_nil]
      iterate 2 (go_big_quiet_step (fail))
      go_big_quiet_step ((go_at_call 16; exact quiet_clm hm2 H8.out _))
      iterate 2 (go_big_quiet_step (fail))
      go_big_quiet_step ((go_at_call 16; exact quiet_clm hm2 H9.out _))
      go_big_quiet_step ((go_at_call 28; exact quiet_clm hm2 H10.out _))
      iterate 6 (go_big_quiet_step (fail))
      refine wpQuiet_nil ?_
      refine ⟨List.forall_mem_cons.2 ⟨by kernel_rfl, List.forall_mem_nil _⟩, ?_⟩
      intro γ w65 hb hF
      clear hBW this hm1 hm2 fq0_0 fq0_1 fq0_2 fq0_3 fq4_0 fq4_1 fq4_2 fq4_3 fq1_0 fq1_1 fq1_2 fq1_3
      clear BW mm
      simp only [madesFrom, Facts, patch, List.take_succ_cons, List.take_zero, List.drop_succ_cons, List.drop_zero, Nat.zero_add, Nat.reduceAdd, List.mem_cons, List.not_mem_nil, or_false, forall_eq, forall_eq_or_imp, false_imp_iff, implies_true, and_true] at hF ⊢
      obtain ⟨hp16, hl16, hk16⟩ := hF
      obtain ⟨B16_65, hG⟩ : ∃ B, γ 10 = B := ⟨_, rfl⟩
      rw [hG] at hp16 hl16 hk16 ⊢
      clear hG
      have HL705 := Lib.hid (bstep HL704.out hb)
      have HO5 := Lib.hid (show Bw63 < B16_65 from Nat.lt_of_lt_of_le (HB704.out.1).lt hp16)
      have HB705 := Lib.hid (Bs.cons (show BC _ B16_65 [.bool ns, .string ss, .bool ms, .string ts] from BC.of hk16) (HB704.out.bel hb))
      clear hb hp16 hl16 hk16
      clear HL704 HB704
      try go_frame
      go_wp2_with fail
      haveI := cls_some w65
      have fq5_0 : ∀ u : Cl w65, u.x.cell? ⟨B16_65, 0, none⟩ = some (.bool ns) := fun u => ((HB705.out.bel u.h).1).at 0 (.bool ns) rfl
      have fq5_1 : ∀ u : Cl w65, u.x.cell? ⟨B16_65, 1, none⟩ = some (.string ss) := fun u => ((HB705.out.bel u.h).1).at 1 (.string ss) rfl
      have fq5_2 : ∀ u : Cl w65, u.x.cell? ⟨B16_65, 2, none⟩ = some (.bool ms) := fun u => ((HB705.out.bel u.h).1).at 2 (.bool ms) rfl
      have fq5_3 : ∀ u : Cl w65, u.x.cell? ⟨B16_65, 3, none⟩ = some (.string ts) := fun u => ((HB705.out.bel u.h).1).at 3 (.string ts) rfl
      have fq3_0 : ∀ u : Cl w65, u.x.cell? ⟨Bw3, 0, none⟩ = some (.bool nr) := fun u => ((HB705.out.bel u.h).2.2.1).at 0 (.bool nr) rfl
      have fq3_1 : ∀ u : Cl w65, u.x.cell? ⟨Bw3, 1, none⟩ = some (.string sr) := fun u => ((HB705.out.bel u.h).2.2.1).at 1 (.string sr) rfl
      have fq3_2 : ∀ u : Cl w65, u.x.cell? ⟨Bw3, 2, none⟩ = some (.bool false) := fun u => ((HB705.out.bel u.h).2.2.1).at 2 (.bool false) rfl
      have fq3_3 : ∀ u : Cl w65, u.x.cell? ⟨Bw3, 3, none⟩ = some (.string tr0) := fun u => ((HB705.out.bel u.h).2.2.1).at 3 (.string tr0) rfl
      have fq4_0 : ∀ u : Cl w65, u.x.cell? ⟨Bw63, 0, none⟩ = some (.bool ni) := fun u => ((HB705.out.bel u.h).2.1).at 0 (.bool ni) rfl
      have fq4_1 : ∀ u : Cl w65, u.x.cell? ⟨Bw63, 1, none⟩ = some (.string si) := fun u => ((HB705.out.bel u.h).2.1).at 1 (.string si) rfl
      have fq4_2 : ∀ u : Cl w65, u.x.cell? ⟨Bw63, 2, none⟩ = some (.bool mi) := fun u => ((HB705.out.bel u.h).2.1).at 2 (.bool mi) rfl
      have fq4_3 : ∀ u : Cl w65, u.x.cell? ⟨Bw63, 3, none⟩ = some (.string ti) := fun u => ((HB705.out.bel u.h).2.1).at 3 (.string ti) rfl
      refine wp_region_cls (by kernel_rfl) ?_
      iterate 6 (go_big_quiet_step (fail))
      go_big_quiet_step ((go_at_call 16; exact quiet_cls H11.out _))
      iterate 3 (go_big_quiet_step (fail))
      go_big_quiet_step ((go_at_call 11; exact quiet_cls H12.out _))
      iterate 2 (go_big_quiet_step (fail))
      refine wpQuiet_nil ?_
      intro w66 hw9
      have hb : Below w65.heap.size w65 w66 := by obtain ⟨u, rfl⟩ := hw9; exact u.h
      clear hw9 this fq5_0 fq5_1 fq5_2 fq5_3 fq3_0 fq3_1 fq3_2 fq3_3 fq4_0 fq4_1 fq4_2 fq4_3
      have HL706 := Lib.hid (bstep HL705.out hb)
      have HB706 := Lib.hid (HB705.out.bel hb)
      clear hb
      clear HL705 HB705
      go_wp2
      go_ret
      exact ⟨rfl, HL706.out⟩
end Go.Proofs.Gv
