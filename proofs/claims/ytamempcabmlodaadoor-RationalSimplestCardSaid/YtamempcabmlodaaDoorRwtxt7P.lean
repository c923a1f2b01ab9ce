/- Layer 02: functions of rational, walked over the results of what they call (printed by gen02c.py). -/
import Derived.Test.YtamempcabmlodaaDoorRatTabP
set_option linter.unusedSimpArgs false
set_option linter.unusedVariables false
namespace Go.Proofs.Gv
open Go Go.RowKit

set_option maxRecDepth 100000 in
set_option maxHeartbeats 4000000 in
theorem ratParse_bad1_f {sA sB : ByteArray} (s0 : ByteArray) (hl : decide ((65536 : Int) < s0.size) = false) (w : World)
    (H1 : ∀ W, Calls Tryd.prog 34 #[.string s0, .string ⟨#[47]⟩] W fun e w' => e = .returned (.tuple #[.string sA, .string sB, .bool true]) ∧ Below W.heap.size W w')
    (H2 : ∀ W, Calls Tryd.prog 35 #[.string sA] W fun e w' => e = .returned (.tuple #[.agg #[.bool false, .string ⟨#[]⟩], .int .i64 3]) ∧ Below W.heap.size W w')
    : Calls Tryd.prog 12 #[.string s0] w fun e w' => e = .returned (.tuple #[.agg #[.bool false, .string ⟨#[]⟩, .bool false, .string ⟨#[]⟩], .int .i64 3]) ∧ Below w.heap.size w w' := by
  replace H1 := Lib.hid H1
  replace H2 := Lib.hid H2
  go_enter Tryd.func12, Tryd.ntmps12
  have HL0 := Lib.hid (Below.refl w.heap.size w)
  have HB0 := Lib.hid (show Bs [] w from trivial)
  have HO0 := Lib.hid (show w.heap.size ≤ w.heap.size from by have := HL0.out.size; first | omega | (simp at this; omega))
  have HL1 := Lib.hid (HL0.out.alloc HL0.out.size (.cells #[.bool false, .string ⟨#[]⟩, .bool false, .string ⟨#[]⟩] 25))
  have HB1 := Lib.hid (HB0.out.push (w.heap.size) #[.bool false, .string ⟨#[]⟩, .bool false, .string ⟨#[]⟩] 25 (by first | rfl | simp))
  clear HL0 HB0
  go_wp2_with fail
  refine (H1.out _).mono ?_
  rintro e w1 ⟨rfl, hb⟩
  have HL2 := Lib.hid (bstep HL1.out hb)
  have HB2 := Lib.hid (HB1.out.bel hb)
  clear hb
  clear HL1 HB1
  go_wp2_with fail
  refine (H2.out _).mono ?_
  rintro e w2 ⟨rfl, hb⟩
  have HL3 := Lib.hid (bstep HL2.out hb)
  have HB3 := Lib.hid (HB2.out.bel hb)
  clear hb
  clear HL2 HB2
  have HO1 := Lib.hid (show w.heap.size < w2.heap.size from by have := (HB3.out.1).lt; first | omega | (simp at this; omega))
  have HL4 := Lib.hid (HL3.out.alloc HL3.out.size (.cells #[.bool false, .string ⟨#[]⟩] 23))
  have HB4 := Lib.hid (HB3.out.push (w2.heap.size) #[.bool false, .string ⟨#[]⟩] 23 (by first | rfl | simp))
  clear HL3 HB3
  have fx0_0_4 := (HB4.out.2.1).at 0 (.bool false) rfl
  have fz0_0_4 := (HB4.out.2.1).z 0 (show 0 < 4 by decide)
  have fx0_1_4 := (HB4.out.2.1).at 1 (.string ⟨#[]⟩) rfl
  have fz0_1_4 := (HB4.out.2.1).z 1 (show 1 < 4 by decide)
  have fx0_2_4 := (HB4.out.2.1).at 2 (.bool false) rfl
  have fz0_2_4 := (HB4.out.2.1).z 2 (show 2 < 4 by decide)
  have fx0_3_4 := (HB4.out.2.1).at 3 (.string ⟨#[]⟩) rfl
  have fz0_3_4 := (HB4.out.2.1).z 3 (show 3 < 4 by decide)
  have HL5 := Below.setCs (c := w.heap.size) (by have := HO0.out; have := HO1.out; omega) [.bool false, .string ⟨#[]⟩, .bool false, .string ⟨#[]⟩] _ 0 HL4.out
  have HB5 := Bs.store (c := w.heap.size) [.bool false, .string ⟨#[]⟩, .bool false, .string ⟨#[]⟩] 0 1 HB4.out (by simp only [Bs.ap, Bs.ap0, List.length_cons, List.length_nil, and_true, true_and]; have := HO0.out; have := HO1.out; omega)
  simp only [setCs, setL, Bs.put, List.set_cons_succ, List.set_cons_zero, Nat.zero_add, Nat.reduceAdd] at HL5 HB5
  replace HL5 := Lib.hid HL5
  replace HB5 := Lib.hid HB5
  clear HL4 HB4
  have fx0_0_5 := (HB5.out.2.1).at 0 (.bool false) rfl
  have fx0_1_5 := (HB5.out.2.1).at 1 (.string ⟨#[]⟩) rfl
  have fx0_2_5 := (HB5.out.2.1).at 2 (.bool false) rfl
  have fx0_3_5 := (HB5.out.2.1).at 3 (.string ⟨#[]⟩) rfl
  go_wp2
  refine bodyPost_ret (v := .tuple #[.agg #[.bool false, .string ⟨#[]⟩, .bool false, .string ⟨#[]⟩], .int .i64 3]) (by simp [results, Tryd.results12, go_sem, fx0_0_5, fx0_1_5, fx0_2_5, fx0_3_5]) rfl ?_
  exact ⟨rfl, HL5.out⟩
end Go.Proofs.Gv

namespace Go.Proofs.Gv
open Go Go.RowKit

set_option maxRecDepth 100000 in
set_option maxHeartbeats 4000000 in
theorem ratParse_bad1_n {sA sB : ByteArray} (s0 : ByteArray) (hl : decide ((65536 : Int) < s0.size) = false) (w : World)
    (H1 : ∀ W, Calls Tryd.prog 34 #[.string s0, .string ⟨#[47]⟩] W fun e w' => e = .returned (.tuple #[.string sA, .string sB, .bool false]) ∧ Below W.heap.size W w')
    (H2 : ∀ W, Calls Tryd.prog 35 #[.string sA] W fun e w' => e = .returned (.tuple #[.agg #[.bool false, .string ⟨#[]⟩], .int .i64 3]) ∧ Below W.heap.size W w')
    : Calls Tryd.prog 12 #[.string s0] w fun e w' => e = .returned (.tuple #[.agg #[.bool false, .string ⟨#[]⟩, .bool false, .string ⟨#[]⟩], .int .i64 3]) ∧ Below w.heap.size w w' := by
  replace H1 := Lib.hid H1
  replace H2 := Lib.hid H2
  go_enter Tryd.func12, Tryd.ntmps12
  have HL0 := Lib.hid (Below.refl w.heap.size w)
  have HB0 := Lib.hid (show Bs [] w from trivial)
  have HO0 := Lib.hid (show w.heap.size ≤ w.heap.size from by have := HL0.out.size; first | omega | (simp at this; omega))
  have HL1 := Lib.hid (HL0.out.alloc HL0.out.size (.cells #[.bool false, .string ⟨#[]⟩, .bool false, .string ⟨#[]⟩] 25))
  have HB1 := Lib.hid (HB0.out.push (w.heap.size) #[.bool false, .string ⟨#[]⟩, .bool false, .string ⟨#[]⟩] 25 (by first | rfl | simp))
  clear HL0 HB0
  go_wp2_with fail
  refine (H1.out _).mono ?_
  rintro e w1 ⟨rfl, hb⟩
  have HL2 := Lib.hid (bstep HL1.out hb)
  have HB2 := Lib.hid (HB1.out.bel hb)
  clear hb
  clear HL1 HB1
  go_wp2_with fail
  refine (H2.out _).mono ?_
  rintro e w2 ⟨rfl, hb⟩
  have HL3 := Lib.hid (bstep HL2.out hb)
  have HB3 := Lib.hid (HB2.out.bel hb)
  clear hb
  clear HL2 HB2
  have HO1 := Lib.hid (show w.heap.size < w2.heap.size from by have := (HB3.out.1).lt; first | omega | (simp at this; omega))
  have HL4 := Lib.hid (HL3.out.alloc HL3.out.size (.cells #[.bool false, .string ⟨#[]⟩] 23))
  have HB4 := Lib.hid (HB3.out.push (w2.heap.size) #[.bool false, .string ⟨#[]⟩] 23 (by first | rfl | simp))
  clear HL3 HB3
  have fx0_0_4 := (HB4.out.2.1).at 0 (.bool false) rfl
  have fz0_0_4 := (HB4.out.2.1).z 0 (show 0 < 4 by decide)
  have fx0_1_4 := (HB4.out.2.1).at 1 (.string ⟨#[]⟩) rfl
  have fz0_1_4 := (HB4.out.2.1).z 1 (show 1 < 4 by decide)
  have fx0_2_4 := (HB4.out.2.1).at 2 (.bool false) rfl
  have fz0_2_4 := (HB4.out.2.1).z 2 (show 2 < 4 by decide)
  have fx0_3_4 := (HB4.out.2.1).at 3 (.string ⟨#[]⟩) rfl
  have fz0_3_4 := (HB4.out.2.1).z 3 (show 3 < 4 by decide)
  have HL5 := Below.setCs (c := w.heap.size) (by have := HO0.out; have := HO1.out; omega) [.bool false, .string ⟨#[]⟩, .bool false, .string ⟨#[]⟩] _ 0 HL4.out
  have HB5 := Bs.store (c := w.heap.size) [.bool false, .string ⟨#[]⟩, .bool false, .string ⟨#[]⟩] 0 1 HB4.out (by simp only [Bs.ap, Bs.ap0, List.length_cons, List.length_nil, and_true, true_and]; have := HO0.out; have := HO1.out; omega)
  simp only [setCs, setL, Bs.put, List.set_cons_succ, List.set_cons_zero, Nat.zero_add, Nat.reduceAdd] at HL5 HB5
  replace HL5 := Lib.hid HL5
  replace HB5 := Lib.hid HB5
  clear HL4 HB4
  have fx0_0_5 := (HB5.out.2.1).at 0 (.bool false) rfl
  have fx0_1_5 := (HB5.out.2.1).at 1 (.string ⟨#[]⟩) rfl
  have fx0_2_5 := (HB5.out.2.1).at 2 (.bool false) rfl
  have fx0_3_5 := (HB5.out.2.1).at 3 (.string ⟨#[]⟩) rfl
  go_wp2
  refine bodyPost_ret (v := .tuple #[.agg #[.bool false, .string ⟨#[]⟩, .bool false, .string ⟨#[]⟩], .int .i64 3]) (by simp [results, Tryd.results12, go_sem, fx0_0_5, fx0_1_5, fx0_2_5, fx0_3_5]) rfl ?_
  exact ⟨rfl, HL5.out⟩
end Go.Proofs.Gv

namespace Go.Proofs.Gv
open Go Go.RowKit

set_option maxRecDepth 100000 in
set_option maxHeartbeats 4000000 in
theorem ratParse_int {na nr mr : Bool} {sA sB sa sr tr : ByteArray} (s0 : ByteArray) (hl : decide ((65536 : Int) < s0.size) = false) (w : World)
    (H1 : ∀ W, Calls Tryd.prog 34 #[.string s0, .string ⟨#[47]⟩] W fun e w' => e = .returned (.tuple #[.string sA, .string sB, .bool false]) ∧ Below W.heap.size W w')
    (H2 : ∀ W, Calls Tryd.prog 35 #[.string sA] W fun e w' => e = .returned (.tuple #[.agg #[.bool na, .string sa], .int .i64 0]) ∧ Below W.heap.size W w')
    (H3 : ∀ W, Calls Tryd.prog 22 #[.agg #[.bool na, .string sa]] W fun e w' => e = .returned (.agg #[.bool nr, .string sr, .bool mr, .string tr]) ∧ Below W.heap.size W w')
    : Calls Tryd.prog 12 #[.string s0] w fun e w' => e = .returned (.tuple #[.agg #[.bool nr, .string sr, .bool mr, .string tr], .int .i64 0]) ∧ Below w.heap.size w w' := by
  replace H1 := Lib.hid H1
  replace H2 := Lib.hid H2
  replace H3 := Lib.hid H3
  go_enter Tryd.func12, Tryd.ntmps12
  have HL0 := Lib.hid (Below.refl w.heap.size w)
  have HB0 := Lib.hid (show Bs [] w from trivial)
  have HO0 := Lib.hid (show w.heap.size ≤ w.heap.size from by have := HL0.out.size; first | omega | (simp at this; omega))
  have HL1 := Lib.hid (HL0.out.alloc HL0.out.size (.cells #[.bool false, .string ⟨#[]⟩, .bool false, .string ⟨#[]⟩] 25))
  have HB1 := Lib.hid (HB0.out.push (w.heap.size) #[.bool false, .string ⟨#[]⟩, .bool false, .string ⟨#[]⟩] 25 (by first | rfl | simp))
  clear HL0 HB0
  go_wp2_with fail
  refine (H1.out _).mono ?_
  rintro e w1 ⟨rfl, hb⟩
  have HL2 := Lib.hid (bstep HL1.out hb)
  have HB2 := Lib.hid (HB1.out.bel hb)
  clear hb
  clear HL1 HB1
  go_wp2_with fail
  refine (H2.out _).mono ?_
  rintro e w2 ⟨rfl, hb⟩
  have HL3 := Lib.hid (bstep HL2.out hb)
  have HB3 := Lib.hid (HB2.out.bel hb)
  clear hb
  clear HL2 HB2
  have HO1 := Lib.hid (show w.heap.size < w2.heap.size from by have := (HB3.out.1).lt; first | omega | (simp at this; omega))
  have HL4 := Lib.hid (HL3.out.alloc HL3.out.size (.cells #[.bool na, .string sa] 23))
  have HB4 := Lib.hid (HB3.out.push (w2.heap.size) #[.bool na, .string sa] 23 (by first | rfl | simp))
  clear HL3 HB3
  have fx1_0_4 := (HB4.out.1).at 0 (.bool na) rfl
  have fx1_1_4 := (HB4.out.1).at 1 (.string sa) rfl
  go_wp2_with fail
  refine (H3.out _).mono ?_
  rintro e w3 ⟨rfl, hb⟩
  have HL5 := Lib.hid (bstep HL4.out hb)
  have HB5 := Lib.hid (HB4.out.bel hb)
  clear hb
  clear HL4 HB4 fx1_0_4 fx1_1_4
  have fx0_0_5 := (HB5.out.2.1).at 0 (.bool false) rfl
  have fz0_0_5 := (HB5.out.2.1).z 0 (show 0 < 4 by decide)
  have fx0_1_5 := (HB5.out.2.1).at 1 (.string ⟨#[]⟩) rfl
  have fz0_1_5 := (HB5.out.2.1).z 1 (show 1 < 4 by decide)
  have fx0_2_5 := (HB5.out.2.1).at 2 (.bool false) rfl
  have fz0_2_5 := (HB5.out.2.1).z 2 (show 2 < 4 by decide)
  have fx0_3_5 := (HB5.out.2.1).at 3 (.string ⟨#[]⟩) rfl
  have fz0_3_5 := (HB5.out.2.1).z 3 (show 3 < 4 by decide)
  have HL6 := Below.setCs (c := w.heap.size) (by have := HO0.out; have := HO1.out; omega) [.bool nr, .string sr, .bool mr, .string tr] _ 0 HL5.out
  have HB6 := Bs.store (c := w.heap.size) [.bool nr, .string sr, .bool mr, .string tr] 0 1 HB5.out (by simp only [Bs.ap, Bs.ap0, List.length_cons, List.length_nil, and_true, true_and]; have := HO0.out; have := HO1.out; omega)
  simp only [setCs, setL, Bs.put, List.set_cons_succ, List.set_cons_zero, Nat.zero_add, Nat.reduceAdd] at HL6 HB6
  replace HL6 := Lib.hid HL6
  replace HB6 := Lib.hid HB6
  clear HL5 HB5
  have fx0_0_6 := (HB6.out.2.1).at 0 (.bool nr) rfl
  have fx0_1_6 := (HB6.out.2.1).at 1 (.string sr) rfl
  have fx0_2_6 := (HB6.out.2.1).at 2 (.bool mr) rfl
  have fx0_3_6 := (HB6.out.2.1).at 3 (.string tr) rfl
  go_wp2
  refine bodyPost_ret (v := .tuple #[.agg #[.bool nr, .string sr, .bool mr, .string tr], .int .i64 0]) (by simp [results, Tryd.results12, go_sem, fx0_0_6, fx0_1_6, fx0_2_6, fx0_3_6]) rfl ?_
  exact ⟨rfl, HL6.out⟩
end Go.Proofs.Gv

namespace Go.Proofs.Gv
open Go Go.RowKit

set_option maxRecDepth 100000 in
set_option maxHeartbeats 4000000 in
theorem ratParse_bad2 {na : Bool} {sA sB sa : ByteArray} (s0 : ByteArray) (hl : decide ((65536 : Int) < s0.size) = false) (w : World)
    (H1 : ∀ W, Calls Tryd.prog 34 #[.string s0, .string ⟨#[47]⟩] W fun e w' => e = .returned (.tuple #[.string sA, .string sB, .bool true]) ∧ Below W.heap.size W w')
    (H2 : ∀ W, Calls Tryd.prog 35 #[.string sA] W fun e w' => e = .returned (.tuple #[.agg #[.bool na, .string sa], .int .i64 0]) ∧ Below W.heap.size W w')
    (H3 : ∀ W, Calls Tryd.prog 35 #[.string sB] W fun e w' => e = .returned (.tuple #[.agg #[.bool false, .string ⟨#[]⟩], .int .i64 3]) ∧ Below W.heap.size W w')
    : Calls Tryd.prog 12 #[.string s0] w fun e w' => e = .returned (.tuple #[.agg #[.bool false, .string ⟨#[]⟩, .bool false, .string ⟨#[]⟩], .int .i64 3]) ∧ Below w.heap.size w w' := by
  replace H1 := Lib.hid H1
  replace H2 := Lib.hid H2
  replace H3 := Lib.hid H3
  go_enter Tryd.func12, Tryd.ntmps12
  have HL0 := Lib.hid (Below.refl w.heap.size w)
  have HB0 := Lib.hid (show Bs [] w from trivial)
  have HO0 := Lib.hid (show w.heap.size ≤ w.heap.size from by have := HL0.out.size; first | omega | (simp at this; omega))
  have HL1 := Lib.hid (HL0.out.alloc HL0.out.size (.cells #[.bool false, .string ⟨#[]⟩, .bool false, .string ⟨#[]⟩] 25))
  have HB1 := Lib.hid (HB0.out.push (w.heap.size) #[.bool false, .string ⟨#[]⟩, .bool false, .string ⟨#[]⟩] 25 (by first | rfl | simp))
  clear HL0 HB0
  go_wp2_with fail
  refine (H1.out _).mono ?_
  rintro e w1 ⟨rfl, hb⟩
  have HL2 := Lib.hid (bstep HL1.out hb)
  have HB2 := Lib.hid (HB1.out.bel hb)
  clear hb
  clear HL1 HB1
  go_wp2_with fail
  refine (H2.out _).mono ?_
  rintro e w2 ⟨rfl, hb⟩
  have HL3 := Lib.hid (bstep HL2.out hb)
  have HB3 := Lib.hid (HB2.out.bel hb)
  clear hb
  clear HL2 HB2
  have HO1 := Lib.hid (show w.heap.size < w2.heap.size from by have := (HB3.out.1).lt; first | omega | (simp at this; omega))
  have HL4 := Lib.hid (HL3.out.alloc HL3.out.size (.cells #[.bool na, .string sa] 23))
  have HB4 := Lib.hid (HB3.out.push (w2.heap.size) #[.bool na, .string sa] 23 (by first | rfl | simp))
  clear HL3 HB3
  go_wp2_with fail
  refine (H3.out _).mono ?_
  rintro e w3 ⟨rfl, hb⟩
  have HL5 := Lib.hid (bstep HL4.out hb)
  have HB5 := Lib.hid (HB4.out.bel hb)
  clear hb
  clear HL4 HB4
  have HO2 := Lib.hid (show w2.heap.size < w3.heap.size from by have := (HB5.out.1).lt; first | omega | (simp at this; omega))
  have HL6 := Lib.hid (HL5.out.alloc HL5.out.size (.cells #[.bool false, .string ⟨#[]⟩] 23))
  have HB6 := Lib.hid (HB5.out.push (w3.heap.size) #[.bool false, .string ⟨#[]⟩] 23 (by first | rfl | simp))
  clear HL5 HB5
  have fx0_0_6 := (HB6.out.2.2.1).at 0 (.bool false) rfl
  have fz0_0_6 := (HB6.out.2.2.1).z 0 (show 0 < 4 by decide)
  have fx0_1_6 := (HB6.out.2.2.1).at 1 (.string ⟨#[]⟩) rfl
  have fz0_1_6 := (HB6.out.2.2.1).z 1 (show 1 < 4 by decide)
  have fx0_2_6 := (HB6.out.2.2.1).at 2 (.bool false) rfl
  have fz0_2_6 := (HB6.out.2.2.1).z 2 (show 2 < 4 by decide)
  have fx0_3_6 := (HB6.out.2.2.1).at 3 (.string ⟨#[]⟩) rfl
  have fz0_3_6 := (HB6.out.2.2.1).z 3 (show 3 < 4 by decide)
  have HL7 := Below.setCs (c := w.heap.size) (by have := HO0.out; have := HO1.out; have := HO2.out; omega) [.bool false, .string ⟨#[]⟩, .bool false, .string ⟨#[]⟩] _ 0 HL6.out
  have HB7 := Bs.store (c := w.heap.size) [.bool false, .string ⟨#[]⟩, .bool false, .string ⟨#[]⟩] 0 2 HB6.out (by simp only [Bs.ap, Bs.ap0, List.length_cons, List.length_nil, and_true, true_and]; have := HO0.out; have := HO1.out; have := HO2.out; omega)
  simp only [setCs, setL, Bs.put, List.set_cons_succ, List.set_cons_zero, Nat.zero_add, Nat.reduceAdd] at HL7 HB7
  replace HL7 := Lib.hid HL7
  replace HB7 := Lib.hid HB7
  clear HL6 HB6
  have fx0_0_7 := (HB7.out.2.2.1).at 0 (.bool false) rfl
  have fx0_1_7 := (HB7.out.2.2.1).at 1 (.string ⟨#[]⟩) rfl
  have fx0_2_7 := (HB7.out.2.2.1).at 2 (.bool false) rfl
  have fx0_3_7 := (HB7.out.2.2.1).at 3 (.string ⟨#[]⟩) rfl
  go_wp2
  refine bodyPost_ret (v := .tuple #[.agg #[.bool false, .string ⟨#[]⟩, .bool false, .string ⟨#[]⟩], .int .i64 3]) (by simp [results, Tryd.results12, go_sem, fx0_0_7, fx0_1_7, fx0_2_7, fx0_3_7]) rfl ?_
  exact ⟨rfl, HL7.out⟩
end Go.Proofs.Gv
