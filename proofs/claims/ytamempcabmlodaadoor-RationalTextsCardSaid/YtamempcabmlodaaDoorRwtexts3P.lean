/- The law RationalFloor, joined. -/
import Derived.Test.YtamempcabmlodaaDoorRatGrP
import Derived.Test.YtamempcabmlodaaDoorRatTabP
set_option linter.unusedSimpArgs false
set_option linter.unusedVariables false
namespace Go.Proofs.Gv
open Go Go.RowKit

/-- A number of few bytes. -/
theorem rq_small {n m : Bool} {s t : ByteArray} (k : Nat) (hk : k ≤ 1000) (h1 : s.size ≤ k) (h2 : t.size ≤ k) : ∃ a N, Rq n s m t a ∧ Qb N a ∧ N ≤ 8 * k + 8 := by
  have h : Rq n s m t (Rat.divInt (iv n s) (iv m t)) := ⟨rfl, by omega, by omega⟩
  exact ⟨_, 8 * (k + 1), h, h.qb (by omega) (by omega) (by omega), by omega⟩
end Go.Proofs.Gv

namespace Go.Proofs.Gv
open Go Go.RowKit

set_option maxRecDepth 100000 in
set_option maxHeartbeats 4000000 in
theorem texts2_great {s0 : ByteArray} (na ma : Bool) (sa ta : ByteArray) (hgz : ∀ x ∈ ([(na, sa, ma, ta)] : List (Bool × ByteArray × Bool × ByteArray)), x.2.1.size ≤ maxLen ∧ x.2.2.2.size ≤ maxLen) (hgr : grQ 24 [(na, sa, ma, ta)] = true) (w : World)
    (H1 : ∀ W, Calls Tryd.prog 11 #[] W fun e w' => e = .returned (.bool true) ∧ Below W.heap.size W w')
    : Calls Tryd.prog 3 #[.agg #[.bool na, .string sa, .bool ma, .string ta], .string s0] w fun e w' => e = .returned (.bool true) ∧ Below w.heap.size w w' := by
  replace H1 := Lib.hid H1
  have HGZ := Lib.hid hgz
  clear hgz
  go_enter Tryd.func3, Tryd.ntmps3
  have HL0 := Lib.hid (Below.refl w.heap.size w)
  have HB0 := Lib.hid (show Bs [] w from trivial)
  have HO0 := Lib.hid (show w.heap.size ≤ w.heap.size from by have := HL0.out.size; first | omega | (simp at this; omega))
  have HL1 := Lib.hid (HL0.out.alloc HL0.out.size (.cells #[.bool na, .string sa, .bool ma, .string ta] 25))
  have HB1 := Lib.hid (HB0.out.push (w.heap.size) #[.bool na, .string sa, .bool ma, .string ta] 25 (by first | rfl | simp))
  clear HL0 HB0
  have fx0_0_1 := (HB1.out.1).at 0 (.bool na) rfl
  have fx0_1_1 := (HB1.out.1).at 1 (.string sa) rfl
  have fx0_2_1 := (HB1.out.1).at 2 (.bool ma) rfl
  have fx0_3_1 := (HB1.out.1).at 3 (.string ta) rfl
  have HO1 := Lib.hid (show w.heap.size < w.heap.size + 1 from by have := (HB1.out.1).lt; first | omega | (simp at this; omega))
  have HL2 := Lib.hid (HL1.out.alloc HL1.out.size (.cells #[.bool na, .string sa, .bool ma, .string ta] 25))
  have HB2 := Lib.hid (HB1.out.push (w.heap.size + 1) #[.bool na, .string sa, .bool ma, .string ta] 25 (by first | rfl | simp))
  clear HL1 HB1
  go_wp2_with fail
  refine (greatQ_box [(na, sa, ma, ta)] (HB2.out.1) (show 1 ≤ 1000 by decide) HGZ.out).mono ?_
  rintro e w1 ⟨rfl, hb⟩
  have HL3 := Lib.hid (bstep HL2.out hb)
  have HB3 := Lib.hid (HB2.out.bel hb)
  clear hb
  clear HL2 HB2 fx0_0_1 fx0_1_1 fx0_2_1 fx0_3_1
  go_wp2_with fail
  refine (H1.out _).mono ?_
  rintro e w2 ⟨rfl, hb⟩
  have HL4 := Lib.hid (bstep HL3.out hb)
  have HB4 := Lib.hid (HB3.out.bel hb)
  clear hb
  clear HL3 HB3
  go_wp2
  go_ret
  exact ⟨rfl, HL4.out⟩
end Go.Proofs.Gv

namespace Go.Proofs.Gv
open Go Go.RowKit

set_option maxRecDepth 100000 in
set_option maxHeartbeats 4000000 in
theorem texts2_long (na ma : Bool) (sa ta : ByteArray) (hgz : ∀ x ∈ ([(na, sa, ma, ta)] : List (Bool × ByteArray × Bool × ByteArray)), x.2.1.size ≤ maxLen ∧ x.2.2.2.size ≤ maxLen) (hgr : grQ 24 [(na, sa, ma, ta)] = false) (s0 : ByteArray) (hl : (200 : Int) < s0.size) (w : World)
    (H1 : ∀ W, Calls Tryd.prog 11 #[] W fun e w' => e = .returned (.bool true) ∧ Below W.heap.size W w')
    : Calls Tryd.prog 3 #[.agg #[.bool na, .string sa, .bool ma, .string ta], .string s0] w fun e w' => e = .returned (.bool true) ∧ Below w.heap.size w w' := by
  replace H1 := Lib.hid H1
  have HGZ := Lib.hid hgz
  clear hgz
  go_enter Tryd.func3, Tryd.ntmps3
  have HL0 := Lib.hid (Below.refl w.heap.size w)
  have HB0 := Lib.hid (show Bs [] w from trivial)
  have HO0 := Lib.hid (show w.heap.size ≤ w.heap.size from by have := HL0.out.size; first | omega | (simp at this; omega))
  have HL1 := Lib.hid (HL0.out.alloc HL0.out.size (.cells #[.bool na, .string sa, .bool ma, .string ta] 25))
  have HB1 := Lib.hid (HB0.out.push (w.heap.size) #[.bool na, .string sa, .bool ma, .string ta] 25 (by first | rfl | simp))
  clear HL0 HB0
  have fx0_0_1 := (HB1.out.1).at 0 (.bool na) rfl
  have fx0_1_1 := (HB1.out.1).at 1 (.string sa) rfl
  have fx0_2_1 := (HB1.out.1).at 2 (.bool ma) rfl
  have fx0_3_1 := (HB1.out.1).at 3 (.string ta) rfl
  have HO1 := Lib.hid (show w.heap.size < w.heap.size + 1 from by have := (HB1.out.1).lt; first | omega | (simp at this; omega))
  have HL2 := Lib.hid (HL1.out.alloc HL1.out.size (.cells #[.bool na, .string sa, .bool ma, .string ta] 25))
  have HB2 := Lib.hid (HB1.out.push (w.heap.size + 1) #[.bool na, .string sa, .bool ma, .string ta] 25 (by first | rfl | simp))
  clear HL1 HB1
  go_wp2_with fail
  refine (greatQ_box [(na, sa, ma, ta)] (HB2.out.1) (show 1 ≤ 1000 by decide) HGZ.out).mono ?_
  rintro e w1 ⟨rfl, hb⟩
  have HL3 := Lib.hid (bstep HL2.out hb)
  have HB3 := Lib.hid (HB2.out.bel hb)
  clear hb
  clear HL2 HB2 fx0_0_1 fx0_1_1 fx0_2_1 fx0_3_1
  go_wp2_with fail
  refine (H1.out _).mono ?_
  rintro e w2 ⟨rfl, hb⟩
  have HL4 := Lib.hid (bstep HL3.out hb)
  have HB4 := Lib.hid (HB3.out.bel hb)
  clear hb
  clear HL3 HB3
  go_wp2
  go_ret
  exact ⟨rfl, HL4.out⟩
end Go.Proofs.Gv

namespace Go.Proofs.Gv
open Go Go.RowKit

set_option maxRecDepth 100000 in
set_option maxHeartbeats 4000000 in
theorem texts2_ok {nx mx ny my : Bool} {sx tx sp sy ty : ByteArray} (na ma : Bool) (sa ta : ByteArray) (hgz : ∀ x ∈ ([(na, sa, ma, ta)] : List (Bool × ByteArray × Bool × ByteArray)), x.2.1.size ≤ maxLen ∧ x.2.2.2.size ≤ maxLen) (hgr : grQ 24 [(na, sa, ma, ta)] = false) (s0 : ByteArray) (hl : decide ((200 : Int) < s0.size) = false) (w : World)
    (H1 : ∀ W, Calls Tryd.prog 12 #[.string s0] W fun e w' => e = .returned (.tuple #[.agg #[.bool nx, .string sx, .bool mx, .string tx], .int .i64 0]) ∧ Below W.heap.size W w')
    (H2 : ∀ W, Calls Tryd.prog 13 #[.agg #[.bool nx, .string sx, .bool mx, .string tx]] W fun e w' => e = .returned (.string s0) ∧ Below W.heap.size W w')
    (H3 : ∀ W, Calls Tryd.prog 14 #[.agg #[.bool nx, .string sx, .bool mx, .string tx]] W fun e w' => e = .returned (.int .i64 0) ∧ Below W.heap.size W w')
    (H4 : ∀ W, Calls Tryd.prog 13 #[.agg #[.bool na, .string sa, .bool ma, .string ta]] W fun e w' => e = .returned (.string sp) ∧ Below W.heap.size W w')
    (H5 : ∀ W, Calls Tryd.prog 12 #[.string sp] W fun e w' => e = .returned (.tuple #[.agg #[.bool ny, .string sy, .bool my, .string ty], .int .i64 0]) ∧ Below W.heap.size W w')
    (H6 : ∀ W, Calls Tryd.prog 15 #[.agg #[.bool na, .string sa, .bool ma, .string ta], .agg #[.bool ny, .string sy, .bool my, .string ty]] W fun e w' => e = .returned (.int .i64 0) ∧ Below W.heap.size W w')
    (H7 : ∀ W, Calls Tryd.prog 14 #[.agg #[.bool ny, .string sy, .bool my, .string ty]] W fun e w' => e = .returned (.int .i64 0) ∧ Below W.heap.size W w')
    (H8 : ∀ W, Calls Tryd.prog 11 #[] W fun e w' => e = .returned (.bool true) ∧ Below W.heap.size W w')
    : Calls Tryd.prog 3 #[.agg #[.bool na, .string sa, .bool ma, .string ta], .string s0] w fun e w' => e = .returned (.bool true) ∧ Below w.heap.size w w' := by
  replace H1 := Lib.hid H1
  replace H2 := Lib.hid H2
  replace H3 := Lib.hid H3
  replace H4 := Lib.hid H4
  replace H5 := Lib.hid H5
  replace H6 := Lib.hid H6
  replace H7 := Lib.hid H7
  replace H8 := Lib.hid H8
  have HGZ := Lib.hid hgz
  clear hgz
  go_enter Tryd.func3, Tryd.ntmps3
  have HL0 := Lib.hid (Below.refl w.heap.size w)
  have HB0 := Lib.hid (show Bs [] w from trivial)
  have HO0 := Lib.hid (show w.heap.size ≤ w.heap.size from by have := HL0.out.size; first | omega | (simp at this; omega))
  have HL1 := Lib.hid (HL0.out.alloc HL0.out.size (.cells #[.bool na, .string sa, .bool ma, .string ta] 25))
  have HB1 := Lib.hid (HB0.out.push (w.heap.size) #[.bool na, .string sa, .bool ma, .string ta] 25 (by first | rfl | simp))
  clear HL0 HB0
  have fx0_0_1 := (HB1.out.1).at 0 (.bool na) rfl
  have fx0_1_1 := (HB1.out.1).at 1 (.string sa) rfl
  have fx0_2_1 := (HB1.out.1).at 2 (.bool ma) rfl
  have fx0_3_1 := (HB1.out.1).at 3 (.string ta) rfl
  have HO1 := Lib.hid (show w.heap.size < w.heap.size + 1 from by have := (HB1.out.1).lt; first | omega | (simp at this; omega))
  have HL2 := Lib.hid (HL1.out.alloc HL1.out.size (.cells #[.bool na, .string sa, .bool ma, .string ta] 25))
  have HB2 := Lib.hid (HB1.out.push (w.heap.size + 1) #[.bool na, .string sa, .bool ma, .string ta] 25 (by first | rfl | simp))
  clear HL1 HB1
  go_wp2_with fail
  refine (greatQ_box [(na, sa, ma, ta)] (HB2.out.1) (show 1 ≤ 1000 by decide) HGZ.out).mono ?_
  rintro e w1 ⟨rfl, hb⟩
  have HL3 := Lib.hid (bstep HL2.out hb)
  have HB3 := Lib.hid (HB2.out.bel hb)
  clear hb
  clear HL2 HB2 fx0_0_1 fx0_1_1 fx0_2_1 fx0_3_1
  go_wp2_with fail
  refine (H1.out _).mono ?_
  rintro e w2 ⟨rfl, hb⟩
  have HL4 := Lib.hid (bstep HL3.out hb)
  have HB4 := Lib.hid (HB3.out.bel hb)
  clear hb
  clear HL3 HB3
  have HO2 := Lib.hid (show w.heap.size + 1 < w2.heap.size from by have := (HB4.out.1).lt; first | omega | (simp at this; omega))
  have HL5 := Lib.hid (HL4.out.alloc HL4.out.size (.cells #[.bool nx, .string sx, .bool mx, .string tx] 25))
  have HB5 := Lib.hid (HB4.out.push (w2.heap.size) #[.bool nx, .string sx, .bool mx, .string tx] 25 (by first | rfl | simp))
  clear HL4 HB4
  have fx2_0_5 := (HB5.out.1).at 0 (.bool nx) rfl
  have fx2_1_5 := (HB5.out.1).at 1 (.string sx) rfl
  have fx2_2_5 := (HB5.out.1).at 2 (.bool mx) rfl
  have fx2_3_5 := (HB5.out.1).at 3 (.string tx) rfl
  go_wp2_with fail
  refine (H2.out _).mono ?_
  rintro e w3 ⟨rfl, hb⟩
  have HL6 := Lib.hid (bstep HL5.out hb)
  have HB6 := Lib.hid (HB5.out.bel hb)
  clear hb
  clear HL5 HB5 fx2_0_5 fx2_1_5 fx2_2_5 fx2_3_5
  have fx2_0_6 := (HB6.out.1).at 0 (.bool nx) rfl
  have fx2_1_6 := (HB6.out.1).at 1 (.string sx) rfl
  have fx2_2_6 := (HB6.out.1).at 2 (.bool mx) rfl
  have fx2_3_6 := (HB6.out.1).at 3 (.string tx) rfl
  go_wp2_with fail
  refine (H3.out _).mono ?_
  rintro e w4 ⟨rfl, hb⟩
  have HL7 := Lib.hid (bstep HL6.out hb)
  have HB7 := Lib.hid (HB6.out.bel hb)
  clear hb
  clear HL6 HB6 fx2_0_6 fx2_1_6 fx2_2_6 fx2_3_6
  have fx0_0_7 := (HB7.out.2.2.1).at 0 (.bool na) rfl
  have fx0_1_7 := (HB7.out.2.2.1).at 1 (.string sa) rfl
  have fx0_2_7 := (HB7.out.2.2.1).at 2 (.bool ma) rfl
  have fx0_3_7 := (HB7.out.2.2.1).at 3 (.string ta) rfl
  go_wp2_with fail
  refine (H4.out _).mono ?_
  rintro e w5 ⟨rfl, hb⟩
  have HL8 := Lib.hid (bstep HL7.out hb)
  have HB8 := Lib.hid (HB7.out.bel hb)
  clear hb
  clear HL7 HB7 fx0_0_7 fx0_1_7 fx0_2_7 fx0_3_7
  go_wp2_with fail
  refine (H5.out _).mono ?_
  rintro e w6 ⟨rfl, hb⟩
  have HL9 := Lib.hid (bstep HL8.out hb)
  have HB9 := Lib.hid (HB8.out.bel hb)
  clear hb
  clear HL8 HB8
  have HO3 := Lib.hid (show w2.heap.size < w6.heap.size from by have := (HB9.out.1).lt; first | omega | (simp at this; omega))
  have HL10 := Lib.hid (HL9.out.alloc HL9.out.size (.cells #[.bool ny, .string sy, .bool my, .string ty] 25))
  have HB10 := Lib.hid (HB9.out.push (w6.heap.size) #[.bool ny, .string sy, .bool my, .string ty] 25 (by first | rfl | simp))
  clear HL9 HB9
  have fx0_0_10 := (HB10.out.2.2.2.1).at 0 (.bool na) rfl
  have fx0_1_10 := (HB10.out.2.2.2.1).at 1 (.string sa) rfl
  have fx0_2_10 := (HB10.out.2.2.2.1).at 2 (.bool ma) rfl
  have fx0_3_10 := (HB10.out.2.2.2.1).at 3 (.string ta) rfl
  have fx3_0_10 := (HB10.out.1).at 0 (.bool ny) rfl
  have fx3_1_10 := (HB10.out.1).at 1 (.string sy) rfl
  have fx3_2_10 := (HB10.out.1).at 2 (.bool my) rfl
  have fx3_3_10 := (HB10.out.1).at 3 (.string ty) rfl
  go_wp2_with fail
  refine (H6.out _).mono ?_
  rintro e w7 ⟨rfl, hb⟩
  have HL11 := Lib.hid (bstep HL10.out hb)
  have HB11 := Lib.hid (HB10.out.bel hb)
  clear hb
  clear HL10 HB10 fx0_0_10 fx0_1_10 fx0_2_10 fx0_3_10 fx3_0_10 fx3_1_10 fx3_2_10 fx3_3_10
  have fx3_0_11 := (HB11.out.1).at 0 (.bool ny) rfl
  have fx3_1_11 := (HB11.out.1).at 1 (.string sy) rfl
  have fx3_2_11 := (HB11.out.1).at 2 (.bool my) rfl
  have fx3_3_11 := (HB11.out.1).at 3 (.string ty) rfl
  go_wp2_with fail
  refine (H7.out _).mono ?_
  rintro e w8 ⟨rfl, hb⟩
  have HL12 := Lib.hid (bstep HL11.out hb)
  have HB12 := Lib.hid (HB11.out.bel hb)
  clear hb
  clear HL11 HB11 fx3_0_11 fx3_1_11 fx3_2_11 fx3_3_11
  go_wp2_with fail
  refine (H8.out _).mono ?_
  rintro e w9 ⟨rfl, hb⟩
  have HL13 := Lib.hid (bstep HL12.out hb)
  have HB13 := Lib.hid (HB12.out.bel hb)
  clear hb
  clear HL12 HB12
  go_wp2
  go_ret
  exact ⟨rfl, HL13.out⟩
end Go.Proofs.Gv
