/- Layer 02: functions of rational, walked over the results of what they call (printed by gen02a.py). -/
import Derived.Test.YtamempcabmlodaaDoorRatTabP
set_option linter.unusedSimpArgs false
set_option linter.unusedVariables false
namespace Go.Proofs.Gv
open Go Go.RowKit

set_option maxRecDepth 100000 in
set_option maxHeartbeats 4000000 in
theorem ratAdd_w {na ma nb mb nr mr : Bool} {sa ta sb tb sr tr : ByteArray} (w : World)
    (H1 : ∀ W, Calls Tryd.prog 38 #[.int .i64 0, .agg #[.bool na, .string sa, .bool ma, .string ta], .agg #[.bool nb, .string sb, .bool mb, .string tb]] W fun e w' => e = .returned (.agg #[.bool nr, .string sr, .bool mr, .string tr]) ∧ Below W.heap.size W w')
    : Calls Tryd.prog 16 #[.agg #[.bool na, .string sa, .bool ma, .string ta], .agg #[.bool nb, .string sb, .bool mb, .string tb]] w fun e w' => e = .returned (.agg #[.bool nr, .string sr, .bool mr, .string tr]) ∧ Below w.heap.size w w' := by
  replace H1 := Lib.hid H1
  go_enter Tryd.func16, Tryd.ntmps16
  have HL0 := Lib.hid (Below.refl w.heap.size w)
  have HB0 := Lib.hid (show Bs [] w from trivial)
  have HO0 := Lib.hid (show w.heap.size ≤ w.heap.size from by have := HL0.out.size; first | omega | (simp at this; omega))
  have HL1 := Lib.hid (HL0.out.alloc HL0.out.size (.cells #[.bool na, .string sa, .bool ma, .string ta] 25))
  have HB1 := Lib.hid (HB0.out.push (w.heap.size) #[.bool na, .string sa, .bool ma, .string ta] 25 (by first | rfl | simp))
  clear HL0 HB0
  have HO1 := Lib.hid (show w.heap.size < w.heap.size + 1 from by have := (HB1.out.1).lt; first | omega | (simp at this; omega))
  have HL2 := Lib.hid (HL1.out.alloc HL1.out.size (.cells #[.bool nb, .string sb, .bool mb, .string tb] 25))
  have HB2 := Lib.hid (HB1.out.push (w.heap.size + 1) #[.bool nb, .string sb, .bool mb, .string tb] 25 (by first | rfl | simp))
  clear HL1 HB1
  have HO2 := Lib.hid (show w.heap.size + 1 < w.heap.size + 1 + 1 from by have := (HB2.out.1).lt; first | omega | (simp at this; omega))
  have HL3 := Lib.hid (HL2.out.alloc HL2.out.size (.cells #[.bool false, .string ⟨#[]⟩, .bool false, .string ⟨#[]⟩] 25))
  have HB3 := Lib.hid (HB2.out.push (w.heap.size + 1 + 1) #[.bool false, .string ⟨#[]⟩, .bool false, .string ⟨#[]⟩] 25 (by first | rfl | simp))
  clear HL2 HB2
  have fx0_0_3 := (HB3.out.2.2.1).at 0 (.bool na) rfl
  have fx0_1_3 := (HB3.out.2.2.1).at 1 (.string sa) rfl
  have fx0_2_3 := (HB3.out.2.2.1).at 2 (.bool ma) rfl
  have fx0_3_3 := (HB3.out.2.2.1).at 3 (.string ta) rfl
  have fx1_0_3 := (HB3.out.2.1).at 0 (.bool nb) rfl
  have fx1_1_3 := (HB3.out.2.1).at 1 (.string sb) rfl
  have fx1_2_3 := (HB3.out.2.1).at 2 (.bool mb) rfl
  have fx1_3_3 := (HB3.out.2.1).at 3 (.string tb) rfl
  go_wp2_with fail
  refine (H1.out _).mono ?_
  rintro e w1 ⟨rfl, hb⟩
  have HL4 := Lib.hid (bstep HL3.out hb)
  have HB4 := Lib.hid (HB3.out.bel hb)
  clear hb
  clear HL3 HB3 fx0_0_3 fx0_1_3 fx0_2_3 fx0_3_3 fx1_0_3 fx1_1_3 fx1_2_3 fx1_3_3
  have fx2_0_4 := (HB4.out.1).at 0 (.bool false) rfl
  have fz2_0_4 := (HB4.out.1).z 0 (show 0 < 4 by decide)
  have fx2_1_4 := (HB4.out.1).at 1 (.string ⟨#[]⟩) rfl
  have fz2_1_4 := (HB4.out.1).z 1 (show 1 < 4 by decide)
  have fx2_2_4 := (HB4.out.1).at 2 (.bool false) rfl
  have fz2_2_4 := (HB4.out.1).z 2 (show 2 < 4 by decide)
  have fx2_3_4 := (HB4.out.1).at 3 (.string ⟨#[]⟩) rfl
  have fz2_3_4 := (HB4.out.1).z 3 (show 3 < 4 by decide)
  have HL5 := Below.setCs (c := w.heap.size + 1 + 1) (by have := HO0.out; have := HO1.out; have := HO2.out; omega) [.bool nr, .string sr, .bool mr, .string tr] _ 0 HL4.out
  have HB5 := Bs.store (c := w.heap.size + 1 + 1) [.bool nr, .string sr, .bool mr, .string tr] 0 0 HB4.out (by simp only [Bs.ap, Bs.ap0, List.length_cons, List.length_nil, and_true, true_and]; have := HO0.out; have := HO1.out; have := HO2.out; omega)
  simp only [setCs, setL, Bs.put, List.set_cons_succ, List.set_cons_zero, Nat.zero_add, Nat.reduceAdd] at HL5 HB5
  replace HL5 := Lib.hid HL5
  replace HB5 := Lib.hid HB5
  clear HL4 HB4
  have fx2_0_5 := (HB5.out.1).at 0 (.bool nr) rfl
  have fx2_1_5 := (HB5.out.1).at 1 (.string sr) rfl
  have fx2_2_5 := (HB5.out.1).at 2 (.bool mr) rfl
  have fx2_3_5 := (HB5.out.1).at 3 (.string tr) rfl
  go_wp2
  refine bodyPost_ret (v := .agg #[.bool nr, .string sr, .bool mr, .string tr]) (by simp [results, Tryd.results16, go_sem, fx2_0_5, fx2_1_5, fx2_2_5, fx2_3_5]) rfl ?_
  exact ⟨rfl, HL5.out⟩
end Go.Proofs.Gv

namespace Go.Proofs.Gv
open Go Go.RowKit

set_option maxRecDepth 100000 in
set_option maxHeartbeats 4000000 in
theorem ratSub_w {na ma nb mb nr mr : Bool} {sa ta sb tb sr tr : ByteArray} (w : World)
    (H1 : ∀ W, Calls Tryd.prog 38 #[.int .i64 1, .agg #[.bool na, .string sa, .bool ma, .string ta], .agg #[.bool nb, .string sb, .bool mb, .string tb]] W fun e w' => e = .returned (.agg #[.bool nr, .string sr, .bool mr, .string tr]) ∧ Below W.heap.size W w')
    : Calls Tryd.prog 19 #[.agg #[.bool na, .string sa, .bool ma, .string ta], .agg #[.bool nb, .string sb, .bool mb, .string tb]] w fun e w' => e = .returned (.agg #[.bool nr, .string sr, .bool mr, .string tr]) ∧ Below w.heap.size w w' := by
  replace H1 := Lib.hid H1
  go_enter Tryd.func19, Tryd.ntmps19
  have HL0 := Lib.hid (Below.refl w.heap.size w)
  have HB0 := Lib.hid (show Bs [] w from trivial)
  have HO0 := Lib.hid (show w.heap.size ≤ w.heap.size from by have := HL0.out.size; first | omega | (simp at this; omega))
  have HL1 := Lib.hid (HL0.out.alloc HL0.out.size (.cells #[.bool na, .string sa, .bool ma, .string ta] 25))
  have HB1 := Lib.hid (HB0.out.push (w.heap.size) #[.bool na, .string sa, .bool ma, .string ta] 25 (by first | rfl | simp))
  clear HL0 HB0
  have HO1 := Lib.hid (show w.heap.size < w.heap.size + 1 from by have := (HB1.out.1).lt; first | omega | (simp at this; omega))
  have HL2 := Lib.hid (HL1.out.alloc HL1.out.size (.cells #[.bool nb, .string sb, .bool mb, .string tb] 25))
  have HB2 := Lib.hid (HB1.out.push (w.heap.size + 1) #[.bool nb, .string sb, .bool mb, .string tb] 25 (by first | rfl | simp))
  clear HL1 HB1
  have HO2 := Lib.hid (show w.heap.size + 1 < w.heap.size + 1 + 1 from by have := (HB2.out.1).lt; first | omega | (simp at this; omega))
  have HL3 := Lib.hid (HL2.out.alloc HL2.out.size (.cells #[.bool false, .string ⟨#[]⟩, .bool false, .string ⟨#[]⟩] 25))
  have HB3 := Lib.hid (HB2.out.push (w.heap.size + 1 + 1) #[.bool false, .string ⟨#[]⟩, .bool false, .string ⟨#[]⟩] 25 (by first | rfl | simp))
  clear HL2 HB2
  have fx0_0_3 := (HB3.out.2.2.1).at 0 (.bool na) rfl
  have fx0_1_3 := (HB3.out.2.2.1).at 1 (.string sa) rfl
  have fx0_2_3 := (HB3.out.2.2.1).at 2 (.bool ma) rfl
  have fx0_3_3 := (HB3.out.2.2.1).at 3 (.string ta) rfl
  have fx1_0_3 := (HB3.out.2.1).at 0 (.bool nb) rfl
  have fx1_1_3 := (HB3.out.2.1).at 1 (.string sb) rfl
  have fx1_2_3 := (HB3.out.2.1).at 2 (.bool mb) rfl
  have fx1_3_3 := (HB3.out.2.1).at 3 (.string tb) rfl
  go_wp2_with fail
  refine (H1.out _).mono ?_
  rintro e w1 ⟨rfl, hb⟩
  have HL4 := Lib.hid (bstep HL3.out hb)
  have HB4 := Lib.hid (HB3.out.bel hb)
  clear hb
  clear HL3 HB3 fx0_0_3 fx0_1_3 fx0_2_3 fx0_3_3 fx1_0_3 fx1_1_3 fx1_2_3 fx1_3_3
  have fx2_0_4 := (HB4.out.1).at 0 (.bool false) rfl
  have fz2_0_4 := (HB4.out.1).z 0 (show 0 < 4 by decide)
  have fx2_1_4 := (HB4.out.1).at 1 (.string ⟨#[]⟩) rfl
  have fz2_1_4 := (HB4.out.1).z 1 (show 1 < 4 by decide)
  have fx2_2_4 := (HB4.out.1).at 2 (.bool false) rfl
  have fz2_2_4 := (HB4.out.1).z 2 (show 2 < 4 by decide)
  have fx2_3_4 := (HB4.out.1).at 3 (.string ⟨#[]⟩) rfl
  have fz2_3_4 := (HB4.out.1).z 3 (show 3 < 4 by decide)
  have HL5 := Below.setCs (c := w.heap.size + 1 + 1) (by have := HO0.out; have := HO1.out; have := HO2.out; omega) [.bool nr, .string sr, .bool mr, .string tr] _ 0 HL4.out
  have HB5 := Bs.store (c := w.heap.size + 1 + 1) [.bool nr, .string sr, .bool mr, .string tr] 0 0 HB4.out (by simp only [Bs.ap, Bs.ap0, List.length_cons, List.length_nil, and_true, true_and]; have := HO0.out; have := HO1.out; have := HO2.out; omega)
  simp only [setCs, setL, Bs.put, List.set_cons_succ, List.set_cons_zero, Nat.zero_add, Nat.reduceAdd] at HL5 HB5
  replace HL5 := Lib.hid HL5
  replace HB5 := Lib.hid HB5
  clear HL4 HB4
  have fx2_0_5 := (HB5.out.1).at 0 (.bool nr) rfl
  have fx2_1_5 := (HB5.out.1).at 1 (.string sr) rfl
  have fx2_2_5 := (HB5.out.1).at 2 (.bool mr) rfl
  have fx2_3_5 := (HB5.out.1).at 3 (.string tr) rfl
  go_wp2
  refine bodyPost_ret (v := .agg #[.bool nr, .string sr, .bool mr, .string tr]) (by simp [results, Tryd.results19, go_sem, fx2_0_5, fx2_1_5, fx2_2_5, fx2_3_5]) rfl ?_
  exact ⟨rfl, HL5.out⟩
end Go.Proofs.Gv

namespace Go.Proofs.Gv
open Go Go.RowKit

set_option maxRecDepth 100000 in
set_option maxHeartbeats 4000000 in
theorem ratMul_w {na ma nb mb nr mr : Bool} {sa ta sb tb sr tr : ByteArray} (w : World)
    (H1 : ∀ W, Calls Tryd.prog 38 #[.int .i64 2, .agg #[.bool na, .string sa, .bool ma, .string ta], .agg #[.bool nb, .string sb, .bool mb, .string tb]] W fun e w' => e = .returned (.agg #[.bool nr, .string sr, .bool mr, .string tr]) ∧ Below W.heap.size W w')
    : Calls Tryd.prog 17 #[.agg #[.bool na, .string sa, .bool ma, .string ta], .agg #[.bool nb, .string sb, .bool mb, .string tb]] w fun e w' => e = .returned (.agg #[.bool nr, .string sr, .bool mr, .string tr]) ∧ Below w.heap.size w w' := by
  replace H1 := Lib.hid H1
  go_enter Tryd.func17, Tryd.ntmps17
  have HL0 := Lib.hid (Below.refl w.heap.size w)
  have HB0 := Lib.hid (show Bs [] w from trivial)
  have HO0 := Lib.hid (show w.heap.size ≤ w.heap.size from by have := HL0.out.size; first | omega | (simp at this; omega))
  have HL1 := Lib.hid (HL0.out.alloc HL0.out.size (.cells #[.bool na, .string sa, .bool ma, .string ta] 25))
  have HB1 := Lib.hid (HB0.out.push (w.heap.size) #[.bool na, .string sa, .bool ma, .string ta] 25 (by first | rfl | simp))
  clear HL0 HB0
  have HO1 := Lib.hid (show w.heap.size < w.heap.size + 1 from by have := (HB1.out.1).lt; first | omega | (simp at this; omega))
  have HL2 := Lib.hid (HL1.out.alloc HL1.out.size (.cells #[.bool nb, .string sb, .bool mb, .string tb] 25))
  have HB2 := Lib.hid (HB1.out.push (w.heap.size + 1) #[.bool nb, .string sb, .bool mb, .string tb] 25 (by first | rfl | simp))
  clear HL1 HB1
  have HO2 := Lib.hid (show w.heap.size + 1 < w.heap.size + 1 + 1 from by have := (HB2.out.1).lt; first | omega | (simp at this; omega))
  have HL3 := Lib.hid (HL2.out.alloc HL2.out.size (.cells #[.bool false, .string ⟨#[]⟩, .bool false, .string ⟨#[]⟩] 25))
  have HB3 := Lib.hid (HB2.out.push (w.heap.size + 1 + 1) #[.bool false, .string ⟨#[]⟩, .bool false, .string ⟨#[]⟩] 25 (by first | rfl | simp))
  clear HL2 HB2
  have fx0_0_3 := (HB3.out.2.2.1).at 0 (.bool na) rfl
  have fx0_1_3 := (HB3.out.2.2.1).at 1 (.string sa) rfl
  have fx0_2_3 := (HB3.out.2.2.1).at 2 (.bool ma) rfl
  have fx0_3_3 := (HB3.out.2.2.1).at 3 (.string ta) rfl
  have fx1_0_3 := (HB3.out.2.1).at 0 (.bool nb) rfl
  have fx1_1_3 := (HB3.out.2.1).at 1 (.string sb) rfl
  have fx1_2_3 := (HB3.out.2.1).at 2 (.bool mb) rfl
  have fx1_3_3 := (HB3.out.2.1).at 3 (.string tb) rfl
  go_wp2_with fail
  refine (H1.out _).mono ?_
  rintro e w1 ⟨rfl, hb⟩
  have HL4 := Lib.hid (bstep HL3.out hb)
  have HB4 := Lib.hid (HB3.out.bel hb)
  clear hb
  clear HL3 HB3 fx0_0_3 fx0_1_3 fx0_2_3 fx0_3_3 fx1_0_3 fx1_1_3 fx1_2_3 fx1_3_3
  have fx2_0_4 := (HB4.out.1).at 0 (.bool false) rfl
  have fz2_0_4 := (HB4.out.1).z 0 (show 0 < 4 by decide)
  have fx2_1_4 := (HB4.out.1).at 1 (.string ⟨#[]⟩) rfl
  have fz2_1_4 := (HB4.out.1).z 1 (show 1 < 4 by decide)
  have fx2_2_4 := (HB4.out.1).at 2 (.bool false) rfl
  have fz2_2_4 := (HB4.out.1).z 2 (show 2 < 4 by decide)
  have fx2_3_4 := (HB4.out.1).at 3 (.string ⟨#[]⟩) rfl
  have fz2_3_4 := (HB4.out.1).z 3 (show 3 < 4 by decide)
  have HL5 := Below.setCs (c := w.heap.size + 1 + 1) (by have := HO0.out; have := HO1.out; have := HO2.out; omega) [.bool nr, .string sr, .bool mr, .string tr] _ 0 HL4.out
  have HB5 := Bs.store (c := w.heap.size + 1 + 1) [.bool nr, .string sr, .bool mr, .string tr] 0 0 HB4.out (by simp only [Bs.ap, Bs.ap0, List.length_cons, List.length_nil, and_true, true_and]; have := HO0.out; have := HO1.out; have := HO2.out; omega)
  simp only [setCs, setL, Bs.put, List.set_cons_succ, List.set_cons_zero, Nat.zero_add, Nat.reduceAdd] at HL5 HB5
  replace HL5 := Lib.hid HL5
  replace HB5 := Lib.hid HB5
  clear HL4 HB4
  have fx2_0_5 := (HB5.out.1).at 0 (.bool nr) rfl
  have fx2_1_5 := (HB5.out.1).at 1 (.string sr) rfl
  have fx2_2_5 := (HB5.out.1).at 2 (.bool mr) rfl
  have fx2_3_5 := (HB5.out.1).at 3 (.string tr) rfl
  go_wp2
  refine bodyPost_ret (v := .agg #[.bool nr, .string sr, .bool mr, .string tr]) (by simp [results, Tryd.results17, go_sem, fx2_0_5, fx2_1_5, fx2_2_5, fx2_3_5]) rfl ?_
  exact ⟨rfl, HL5.out⟩
end Go.Proofs.Gv

namespace Go.Proofs.Gv
open Go Go.RowKit

set_option maxRecDepth 100000 in
set_option maxHeartbeats 4000000 in
theorem ratQuo_w {nb mb mc na ma nr mr : Bool} {sb tb tc sa ta sr tr : ByteArray} (nc : Bool) (sc : ByteArray) (hq : eqI nc sc false ⟨#[]⟩ = false) (w : World)
    (H1 : ∀ W, Calls Tryd.prog 36 #[.agg #[.bool nb, .string sb, .bool mb, .string tb]] W fun e w' => e = .returned (.agg #[.bool nc, .string sc, .bool mc, .string tc]) ∧ Below W.heap.size W w')
    (H2 : ∀ W, Calls Tryd.prog 38 #[.int .i64 3, .agg #[.bool na, .string sa, .bool ma, .string ta], .agg #[.bool nb, .string sb, .bool mb, .string tb]] W fun e w' => e = .returned (.agg #[.bool nr, .string sr, .bool mr, .string tr]) ∧ Below W.heap.size W w')
    : Calls Tryd.prog 21 #[.agg #[.bool na, .string sa, .bool ma, .string ta], .agg #[.bool nb, .string sb, .bool mb, .string tb]] w fun e w' => e = .returned (.tuple #[.agg #[.bool nr, .string sr, .bool mr, .string tr], .int .i64 0]) ∧ Below w.heap.size w w' := by
  replace H1 := Lib.hid H1
  replace H2 := Lib.hid H2
  go_enter Tryd.func21, Tryd.ntmps21
  have HL0 := Lib.hid (Below.refl w.heap.size w)
  have HB0 := Lib.hid (show Bs [] w from trivial)
  have HO0 := Lib.hid (show w.heap.size ≤ w.heap.size from by have := HL0.out.size; first | omega | (simp at this; omega))
  have HL1 := Lib.hid (HL0.out.alloc HL0.out.size (.cells #[.bool na, .string sa, .bool ma, .string ta] 25))
  have HB1 := Lib.hid (HB0.out.push (w.heap.size) #[.bool na, .string sa, .bool ma, .string ta] 25 (by first | rfl | simp))
  clear HL0 HB0
  have HO1 := Lib.hid (show w.heap.size < w.heap.size + 1 from by have := (HB1.out.1).lt; first | omega | (simp at this; omega))
  have HL2 := Lib.hid (HL1.out.alloc HL1.out.size (.cells #[.bool nb, .string sb, .bool mb, .string tb] 25))
  have HB2 := Lib.hid (HB1.out.push (w.heap.size + 1) #[.bool nb, .string sb, .bool mb, .string tb] 25 (by first | rfl | simp))
  clear HL1 HB1
  have HO2 := Lib.hid (show w.heap.size + 1 < w.heap.size + 1 + 1 from by have := (HB2.out.1).lt; first | omega | (simp at this; omega))
  have HL3 := Lib.hid (HL2.out.alloc HL2.out.size (.cells #[.bool false, .string ⟨#[]⟩, .bool false, .string ⟨#[]⟩] 25))
  have HB3 := Lib.hid (HB2.out.push (w.heap.size + 1 + 1) #[.bool false, .string ⟨#[]⟩, .bool false, .string ⟨#[]⟩] 25 (by first | rfl | simp))
  clear HL2 HB2
  have fx1_0_3 := (HB3.out.2.1).at 0 (.bool nb) rfl
  have fx1_1_3 := (HB3.out.2.1).at 1 (.string sb) rfl
  have fx1_2_3 := (HB3.out.2.1).at 2 (.bool mb) rfl
  have fx1_3_3 := (HB3.out.2.1).at 3 (.string tb) rfl
  go_wp2_with fail
  refine (H1.out _).mono ?_
  rintro e w1 ⟨rfl, hb⟩
  have HL4 := Lib.hid (bstep HL3.out hb)
  have HB4 := Lib.hid (HB3.out.bel hb)
  clear hb
  clear HL3 HB3 fx1_0_3 fx1_1_3 fx1_2_3 fx1_3_3
  have fx0_0_4 := (HB4.out.2.2.1).at 0 (.bool na) rfl
  have fx0_1_4 := (HB4.out.2.2.1).at 1 (.string sa) rfl
  have fx0_2_4 := (HB4.out.2.2.1).at 2 (.bool ma) rfl
  have fx0_3_4 := (HB4.out.2.2.1).at 3 (.string ta) rfl
  have fx1_0_4 := (HB4.out.2.1).at 0 (.bool nb) rfl
  have fx1_1_4 := (HB4.out.2.1).at 1 (.string sb) rfl
  have fx1_2_4 := (HB4.out.2.1).at 2 (.bool mb) rfl
  have fx1_3_4 := (HB4.out.2.1).at 3 (.string tb) rfl
  go_wp2_with fail
  refine (H2.out _).mono ?_
  rintro e w2 ⟨rfl, hb⟩
  have HL5 := Lib.hid (bstep HL4.out hb)
  have HB5 := Lib.hid (HB4.out.bel hb)
  clear hb
  clear HL4 HB4 fx0_0_4 fx0_1_4 fx0_2_4 fx0_3_4 fx1_0_4 fx1_1_4 fx1_2_4 fx1_3_4
  have fx2_0_5 := (HB5.out.1).at 0 (.bool false) rfl
  have fz2_0_5 := (HB5.out.1).z 0 (show 0 < 4 by decide)
  have fx2_1_5 := (HB5.out.1).at 1 (.string ⟨#[]⟩) rfl
  have fz2_1_5 := (HB5.out.1).z 1 (show 1 < 4 by decide)
  have fx2_2_5 := (HB5.out.1).at 2 (.bool false) rfl
  have fz2_2_5 := (HB5.out.1).z 2 (show 2 < 4 by decide)
  have fx2_3_5 := (HB5.out.1).at 3 (.string ⟨#[]⟩) rfl
  have fz2_3_5 := (HB5.out.1).z 3 (show 3 < 4 by decide)
  have HL6 := Below.setCs (c := w.heap.size + 1 + 1) (by have := HO0.out; have := HO1.out; have := HO2.out; omega) [.bool nr, .string sr, .bool mr, .string tr] _ 0 HL5.out
  have HB6 := Bs.store (c := w.heap.size + 1 + 1) [.bool nr, .string sr, .bool mr, .string tr] 0 0 HB5.out (by simp only [Bs.ap, Bs.ap0, List.length_cons, List.length_nil, and_true, true_and]; have := HO0.out; have := HO1.out; have := HO2.out; omega)
  simp only [setCs, setL, Bs.put, List.set_cons_succ, List.set_cons_zero, Nat.zero_add, Nat.reduceAdd] at HL6 HB6
  replace HL6 := Lib.hid HL6
  replace HB6 := Lib.hid HB6
  clear HL5 HB5
  have fx2_0_6 := (HB6.out.1).at 0 (.bool nr) rfl
  have fx2_1_6 := (HB6.out.1).at 1 (.string sr) rfl
  have fx2_2_6 := (HB6.out.1).at 2 (.bool mr) rfl
  have fx2_3_6 := (HB6.out.1).at 3 (.string tr) rfl
  go_wp2
  refine bodyPost_ret (v := .tuple #[.agg #[.bool nr, .string sr, .bool mr, .string tr], .int .i64 0]) (by simp [results, Tryd.results21, go_sem, fx2_0_6, fx2_1_6, fx2_2_6, fx2_3_6]) rfl ?_
  exact ⟨rfl, HL6.out⟩
end Go.Proofs.Gv
