/- Layer 02: functions of rational, walked over the results of what they call (printed by gen02f.py). -/
import Derived.Test.YtamempcabmlodaaDoorRatTabP
import Derived.Test.YtamempcabmlodaaDoorRatGrP
set_option linter.unusedSimpArgs false
set_option linter.unusedVariables false
namespace Go.Proofs.Gv
open Go Go.RowKit

set_option maxRecDepth 100000 in
set_option maxHeartbeats 4000000 in
theorem floor_great (na ma : Bool) (sa ta : ByteArray) (hgz : ∀ x ∈ ([(na, sa, ma, ta)] : List (Bool × ByteArray × Bool × ByteArray)), x.2.1.size ≤ maxLen ∧ x.2.2.2.size ≤ maxLen) (hgr : grQ 24 [(na, sa, ma, ta)] = true) (w : World)
    (H1 : ∀ W, Calls Tryd.prog 11 #[] W fun e w' => e = .returned (.bool true) ∧ Below W.heap.size W w')
    : Calls Tryd.prog 8 #[.agg #[.bool na, .string sa, .bool ma, .string ta]] w fun e w' => e = .returned (.bool true) ∧ Below w.heap.size w w' := by
  replace H1 := Lib.hid H1
  have HGZ := Lib.hid hgz
  clear hgz
  go_enter Tryd.func8, Tryd.ntmps8
  have HL0 := Lib.hid (Below.refl w.heap.size w)
  have HB0 := Lib.hid (show Bs [] w from trivial)
  have HO0 := Lib.hid (show w.heap.size ≤ w.heap.size from by have := HL0.out.size; first | omega | (simp at this; omega))
  have HL1 := Lib.hid (HL0.out.alloc HL0.out.size (.cells #[.bool na, .string sa, .bool ma, .string ta] 25))
  have HB1 := Lib.hid (HB0.out.push (w.heap.size) #[.bool na, .string sa, .bool ma, .string ta] 25 (by first | rfl | simp))
  clear HL0 HB0
  have fx0_0_1 := (HB1.out.1).at 0 (.bool na) rfl
  have fx0_1_1 := (HB1.out.1).at 1 (.string sa) rfl
  have fx0_2_1 := (HB1.out.1).at 2 (.bool ma) rfl
  have fx0_3_1 := (HB1.out.1).at 3 (.string ta) rfl
  have HO1 := Lib.hid (show w.heap.size < w.heap.size + 1 from by have := (HB1.out.1).lt; first | omega | (simp at this; omega))
  have HL2 := Lib.hid (HL1.out.alloc HL1.out.size (.cells #[.bool na, .string sa, .bool ma, .string ta] 25))
  have HB2 := Lib.hid (HB1.out.push (w.heap.size + 1) #[.bool na, .string sa, .bool ma, .string ta] 25 (by first | rfl | simp))
  clear HL1 HB1
  go_wp2_with fail
  refine (greatQ_box [(na, sa, ma, ta)] (HB2.out.1) (show 1 ≤ 1000 by decide) HGZ.out).mono ?_
  rintro e w1 ⟨rfl, hb⟩
  have HL3 := Lib.hid (bstep HL2.out hb)
  have HB3 := Lib.hid (HB2.out.bel hb)
  clear hb
  clear HL2 HB2 fx0_0_1 fx0_1_1 fx0_2_1 fx0_3_1
  go_wp2_with fail
  refine (H1.out _).mono ?_
  rintro e w2 ⟨rfl, hb⟩
  have HL4 := Lib.hid (bstep HL3.out hb)
  have HB4 := Lib.hid (HB3.out.bel hb)
  clear hb
  clear HL3 HB3
  go_wp2
  go_ret
  exact ⟨rfl, HL4.out⟩
end Go.Proofs.Gv

namespace Go.Proofs.Gv
open Go Go.RowKit

set_option maxRecDepth 100000 in
set_option maxHeartbeats 4000000 in
theorem floor_m {nf nk mk nw mw ns ms : Bool} {sf sk tk sw tw ss ts : ByteArray} (na ma : Bool) (sa ta : ByteArray) (hgz : ∀ x ∈ ([(na, sa, ma, ta)] : List (Bool × ByteArray × Bool × ByteArray)), x.2.1.size ≤ maxLen ∧ x.2.2.2.size ≤ maxLen) (hgr : grQ 24 [(na, sa, ma, ta)] = false) (w : World)
    (H1 : ∀ W, Calls Tryd.prog 30 #[.agg #[.bool na, .string sa, .bool ma, .string ta]] W fun e w' => e = .returned (.agg #[.bool nf, .string sf]) ∧ Below W.heap.size W w')
    (H2 : ∀ W, Calls Tryd.prog 31 #[.agg #[.bool nf, .string sf]] W fun e w' => e = .returned (.int .i64 0) ∧ Below W.heap.size W w')
    (H3 : ∀ W, Calls Tryd.prog 22 #[.agg #[.bool nf, .string sf]] W fun e w' => e = .returned (.agg #[.bool nk, .string sk, .bool mk, .string tk]) ∧ Below W.heap.size W w')
    (H4 : ∀ W, Calls Tryd.prog 15 #[.agg #[.bool nk, .string sk, .bool mk, .string tk], .agg #[.bool na, .string sa, .bool ma, .string ta]] W fun e w' => e = .returned (.int .i64 (-1)) ∧ Below W.heap.size W w')
    (H5 : ∀ W, Calls Tryd.prog 18 #[.int .i64 1, .int .i64 1] W fun e w' => e = .returned (.agg #[.bool nw, .string sw, .bool mw, .string tw]) ∧ Below W.heap.size W w')
    (H6 : ∀ W, Calls Tryd.prog 16 #[.agg #[.bool nk, .string sk, .bool mk, .string tk], .agg #[.bool nw, .string sw, .bool mw, .string tw]] W fun e w' => e = .returned (.agg #[.bool ns, .string ss, .bool ms, .string ts]) ∧ Below W.heap.size W w')
    (H7 : ∀ W, Calls Tryd.prog 15 #[.agg #[.bool na, .string sa, .bool ma, .string ta], .agg #[.bool ns, .string ss, .bool ms, .string ts]] W fun e w' => e = .returned (.int .i64 (-1)) ∧ Below W.heap.size W w')
    (H8 : ∀ W, Calls Tryd.prog 11 #[] W fun e w' => e = .returned (.bool true) ∧ Below W.heap.size W w')
    : Calls Tryd.prog 8 #[.agg #[.bool na, .string sa, .bool ma, .string ta]] w fun e w' => e = .returned (.bool true) ∧ Below w.heap.size w w' := by
  replace H1 := Lib.hid H1
  replace H2 := Lib.hid H2
  replace H3 := Lib.hid H3
  replace H4 := Lib.hid H4
  replace H5 := Lib.hid H5
  replace H6 := Lib.hid H6
  replace H7 := Lib.hid H7
  replace H8 := Lib.hid H8
  have HGZ := Lib.hid hgz
  clear hgz
  go_enter Tryd.func8, Tryd.ntmps8
  have HL0 := Lib.hid (Below.refl w.heap.size w)
  have HB0 := Lib.hid (show Bs [] w from trivial)
  have HO0 := Lib.hid (show w.heap.size ≤ w.heap.size from by have := HL0.out.size; first | omega | (simp at this; omega))
  have HL1 := Lib.hid (HL0.out.alloc HL0.out.size (.cells #[.bool na, .string sa, .bool ma, .string ta] 25))
  have HB1 := Lib.hid (HB0.out.push (w.heap.size) #[.bool na, .string sa, .bool ma, .string ta] 25 (by first | rfl | simp))
  clear HL0 HB0
  have fx0_0_1 := (HB1.out.1).at 0 (.bool na) rfl
  have fx0_1_1 := (HB1.out.1).at 1 (.string sa) rfl
  have fx0_2_1 := (HB1.out.1).at 2 (.bool ma) rfl
  have fx0_3_1 := (HB1.out.1).at 3 (.string ta) rfl
  have HO1 := Lib.hid (show w.heap.size < w.heap.size + 1 from by have := (HB1.out.1).lt; first | omega | (simp at this; omega))
  have HL2 := Lib.hid (HL1.out.alloc HL1.out.size (.cells #[.bool na, .string sa, .bool ma, .string ta] 25))
  have HB2 := Lib.hid (HB1.out.push (w.heap.size + 1) #[.bool na, .string sa, .bool ma, .string ta] 25 (by first | rfl | simp))
  clear HL1 HB1
  go_wp2_with fail
  refine (greatQ_box [(na, sa, ma, ta)] (HB2.out.1) (show 1 ≤ 1000 by decide) HGZ.out).mono ?_
  rintro e w1 ⟨rfl, hb⟩
  have HL3 := Lib.hid (bstep HL2.out hb)
  have HB3 := Lib.hid (HB2.out.bel hb)
  clear hb
  clear HL2 HB2 fx0_0_1 fx0_1_1 fx0_2_1 fx0_3_1
  have fx0_0_3 := (HB3.out.2.1).at 0 (.bool na) rfl
  have fx0_1_3 := (HB3.out.2.1).at 1 (.string sa) rfl
  have fx0_2_3 := (HB3.out.2.1).at 2 (.bool ma) rfl
  have fx0_3_3 := (HB3.out.2.1).at 3 (.string ta) rfl
  go_wp2_with fail
  refine (H1.out _).mono ?_
  rintro e w2 ⟨rfl, hb⟩
  have HL4 := Lib.hid (bstep HL3.out hb)
  have HB4 := Lib.hid (HB3.out.bel hb)
  clear hb
  clear HL3 HB3 fx0_0_3 fx0_1_3 fx0_2_3 fx0_3_3
  have HO2 := Lib.hid (show w.heap.size + 1 < w2.heap.size from by have := (HB4.out.1).lt; first | omega | (simp at this; omega))
  have HL5 := Lib.hid (HL4.out.alloc HL4.out.size (.cells #[.bool nf, .string sf] 23))
  have HB5 := Lib.hid (HB4.out.push (w2.heap.size) #[.bool nf, .string sf] 23 (by first | rfl | simp))
  clear HL4 HB4
  go_wp2_with fail
  obtain ⟨Bw2, hB⟩ : ∃ B, w2.heap.size = B := ⟨_, rfl⟩
  rw [hB] at HB5 ⊢
  try rw [hB] at HO0
  try rw [hB] at HO1
  try rw [hB] at HO2
  clear hB
  obtain ⟨W3, hW⟩ : ∃ W, (w2.alloc (.cells #[.bool nf, .string sf] 23)) = W := ⟨_, rfl⟩
  rw [hW] at HB5 HL5 ⊢
  clear hW
  haveI := cls_some W3
  have fq2_0 : ∀ u : Cl W3, u.x.cell? ⟨Bw2, 0, none⟩ = some (.bool nf) := fun u => ((HB5.out.bel u.h).1).at 0 (.bool nf) rfl
  have fq2_1 : ∀ u : Cl W3, u.x.cell? ⟨Bw2, 1, none⟩ = some (.string sf) := fun u => ((HB5.out.bel u.h).1).at 1 (.string sf) rfl
  have fq0_0 : ∀ u : Cl W3, u.x.cell? ⟨w.heap.size, 0, none⟩ = some (.bool na) := fun u => ((HB5.out.bel u.h).2.2.1).at 0 (.bool na) rfl
  have fq0_1 : ∀ u : Cl W3, u.x.cell? ⟨w.heap.size, 1, none⟩ = some (.string sa) := fun u => ((HB5.out.bel u.h).2.2.1).at 1 (.string sa) rfl
  have fq0_2 : ∀ u : Cl W3, u.x.cell? ⟨w.heap.size, 2, none⟩ = some (.bool ma) := fun u => ((HB5.out.bel u.h).2.2.1).at 2 (.bool ma) rfl
  have fq0_3 : ∀ u : Cl W3, u.x.cell? ⟨w.heap.size, 3, none⟩ = some (.string ta) := fun u => ((HB5.out.bel u.h).2.2.1).at 3 (.string ta) rfl
  refine wp_region_cls (by kernel_rfl) ?_
  iterate 1 (go_big_quiet_step (fail))
  go_big_quiet_step ((go_at_call 31; exact quiet_cls H2.out _))
  iterate 3 (go_big_quiet_step (fail))
  go_big_quiet_step ((go_at_call 22; exact quiet_cls H3.out _))
  iterate 1 (go_big_quiet_step (fail))
  go_big_quiet_step ((go_at_call 15; exact quiet_cls H4.out _))
  iterate 5 (go_big_quiet_step (fail))
  go_big_quiet_step ((go_at_call 22; exact quiet_cls H3.out _))
  go_big_quiet_step ((go_at_call 18; exact quiet_cls H5.out _))
  go_big_quiet_step ((go_at_call 16; exact quiet_cls H6.out _))
  go_big_quiet_step ((go_at_call 15; exact quiet_cls H7.out _))
  iterate 3 (go_big_quiet_step (fail))
  go_big_quiet_step ((go_at_call 11; exact quiet_cls H8.out _))
  iterate 2 (go_big_quiet_step (fail))
  refine wpQuiet_nil ?_
  intro w4 hw9
  have hb : Below W3.heap.size W3 w4 := by obtain ⟨u, rfl⟩ := hw9; exact u.h
  clear hw9 this fq2_0 fq2_1 fq0_0 fq0_1 fq0_2 fq0_3
  have HL6 := Lib.hid (bstep HL5.out hb)
  have HB6 := Lib.hid (HB5.out.bel hb)
  clear hb
  clear HL5 HB5
  go_wp2
  go_ret
  exact ⟨rfl, HL6.out⟩
end Go.Proofs.Gv

namespace Go.Proofs.Gv
open Go Go.RowKit

set_option maxRecDepth 100000 in
set_option maxHeartbeats 4000000 in
theorem floor_z {nf nk mk nw mw ns ms : Bool} {sf sk tk sw tw ss ts : ByteArray} (na ma : Bool) (sa ta : ByteArray) (hgz : ∀ x ∈ ([(na, sa, ma, ta)] : List (Bool × ByteArray × Bool × ByteArray)), x.2.1.size ≤ maxLen ∧ x.2.2.2.size ≤ maxLen) (hgr : grQ 24 [(na, sa, ma, ta)] = false) (w : World)
    (H1 : ∀ W, Calls Tryd.prog 30 #[.agg #[.bool na, .string sa, .bool ma, .string ta]] W fun e w' => e = .returned (.agg #[.bool nf, .string sf]) ∧ Below W.heap.size W w')
    (H2 : ∀ W, Calls Tryd.prog 31 #[.agg #[.bool nf, .string sf]] W fun e w' => e = .returned (.int .i64 0) ∧ Below W.heap.size W w')
    (H3 : ∀ W, Calls Tryd.prog 22 #[.agg #[.bool nf, .string sf]] W fun e w' => e = .returned (.agg #[.bool nk, .string sk, .bool mk, .string tk]) ∧ Below W.heap.size W w')
    (H4 : ∀ W, Calls Tryd.prog 15 #[.agg #[.bool nk, .string sk, .bool mk, .string tk], .agg #[.bool na, .string sa, .bool ma, .string ta]] W fun e w' => e = .returned (.int .i64 0) ∧ Below W.heap.size W w')
    (H5 : ∀ W, Calls Tryd.prog 18 #[.int .i64 1, .int .i64 1] W fun e w' => e = .returned (.agg #[.bool nw, .string sw, .bool mw, .string tw]) ∧ Below W.heap.size W w')
    (H6 : ∀ W, Calls Tryd.prog 16 #[.agg #[.bool nk, .string sk, .bool mk, .string tk], .agg #[.bool nw, .string sw, .bool mw, .string tw]] W fun e w' => e = .returned (.agg #[.bool ns, .string ss, .bool ms, .string ts]) ∧ Below W.heap.size W w')
    (H7 : ∀ W, Calls Tryd.prog 15 #[.agg #[.bool na, .string sa, .bool ma, .string ta], .agg #[.bool ns, .string ss, .bool ms, .string ts]] W fun e w' => e = .returned (.int .i64 (-1)) ∧ Below W.heap.size W w')
    (H8 : ∀ W, Calls Tryd.prog 11 #[] W fun e w' => e = .returned (.bool true) ∧ Below W.heap.size W w')
    : Calls Tryd.prog 8 #[.agg #[.bool na, .string sa, .bool ma, .string ta]] w fun e w' => e = .returned (.bool true) ∧ Below w.heap.size w w' := by
  replace H1 := Lib.hid H1
  replace H2 := Lib.hid H2
  replace H3 := Lib.hid H3
  replace H4 := Lib.hid H4
  replace H5 := Lib.hid H5
  replace H6 := Lib.hid H6
  replace H7 := Lib.hid H7
  replace H8 := Lib.hid H8
  have HGZ := Lib.hid hgz
  clear hgz
  go_enter Tryd.func8, Tryd.ntmps8
  have HL0 := Lib.hid (Below.refl w.heap.size w)
  have HB0 := Lib.hid (show Bs [] w from trivial)
  have HO0 := Lib.hid (show w.heap.size ≤ w.heap.size from by have := HL0.out.size; first | omega | (simp at this; omega))
  have HL1 := Lib.hid (HL0.out.alloc HL0.out.size (.cells #[.bool na, .string sa, .bool ma, .string ta] 25))
  have HB1 := Lib.hid (HB0.out.push (w.heap.size) #[.bool na, .string sa, .bool ma, .string ta] 25 (by first | rfl | simp))
  clear HL0 HB0
  have fx0_0_1 := (HB1.out.1).at 0 (.bool na) rfl
  have fx0_1_1 := (HB1.out.1).at 1 (.string sa) rfl
  have fx0_2_1 := (HB1.out.1).at 2 (.bool ma) rfl
  have fx0_3_1 := (HB1.out.1).at 3 (.string ta) rfl
  have HO1 := Lib.hid (show w.heap.size < w.heap.size + 1 from by have := (HB1.out.1).lt; first | omega | (simp at this; omega))
  have HL2 := Lib.hid (HL1.out.alloc HL1.out.size (.cells #[.bool na, .string sa, .bool ma, .string ta] 25))
  have HB2 := Lib.hid (HB1.out.push (w.heap.size + 1) #[.bool na, .string sa, .bool ma, .string ta] 25 (by first | rfl | simp))
  clear HL1 HB1
  go_wp2_with fail
  refine (greatQ_box [(na, sa, ma, ta)] (HB2.out.1) (show 1 ≤ 1000 by decide) HGZ.out).mono ?_
  rintro e w1 ⟨rfl, hb⟩
  have HL3 := Lib.hid (bstep HL2.out hb)
  have HB3 := Lib.hid (HB2.out.bel hb)
  clear hb
  clear HL2 HB2 fx0_0_1 fx0_1_1 fx0_2_1 fx0_3_1
  have fx0_0_3 := (HB3.out.2.1).at 0 (.bool na) rfl
  have fx0_1_3 := (HB3.out.2.1).at 1 (.string sa) rfl
  have fx0_2_3 := (HB3.out.2.1).at 2 (.bool ma) rfl
  have fx0_3_3 := (HB3.out.2.1).at 3 (.string ta) rfl
  go_wp2_with fail
  refine (H1.out _).mono ?_
  rintro e w2 ⟨rfl, hb⟩
  have HL4 := Lib.hid (bstep HL3.out hb)
  have HB4 := Lib.hid (HB3.out.bel hb)
  clear hb
  clear HL3 HB3 fx0_0_3 fx0_1_3 fx0_2_3 fx0_3_3
  have HO2 := Lib.hid (show w.heap.size + 1 < w2.heap.size from by have := (HB4.out.1).lt; first | omega | (simp at this; omega))
  have HL5 := Lib.hid (HL4.out.alloc HL4.out.size (.cells #[.bool nf, .string sf] 23))
  have HB5 := Lib.hid (HB4.out.push (w2.heap.size) #[.bool nf, .string sf] 23 (by first | rfl | simp))
  clear HL4 HB4
  go_wp2_with fail
  obtain ⟨Bw2, hB⟩ : ∃ B, w2.heap.size = B := ⟨_, rfl⟩
  rw [hB] at HB5 ⊢
  try rw [hB] at HO0
  try rw [hB] at HO1
  try rw [hB] at HO2
  clear hB
  obtain ⟨W3, hW⟩ : ∃ W, (w2.alloc (.cells #[.bool nf, .string sf] 23)) = W := ⟨_, rfl⟩
  rw [hW] at HB5 HL5 ⊢
  clear hW
  haveI := cls_some W3
  have fq2_0 : ∀ u : Cl W3, u.x.cell? ⟨Bw2, 0, none⟩ = some (.bool nf) := fun u => ((HB5.out.bel u.h).1).at 0 (.bool nf) rfl
  have fq2_1 : ∀ u : Cl W3, u.x.cell? ⟨Bw2, 1, none⟩ = some (.string sf) := fun u => ((HB5.out.bel u.h).1).at 1 (.string sf) rfl
  have fq0_0 : ∀ u : Cl W3, u.x.cell? ⟨w.heap.size, 0, none⟩ = some (.bool na) := fun u => ((HB5.out.bel u.h).2.2.1).at 0 (.bool na) rfl
  have fq0_1 : ∀ u : Cl W3, u.x.cell? ⟨w.heap.size, 1, none⟩ = some (.string sa) := fun u => ((HB5.out.bel u.h).2.2.1).at 1 (.string sa) rfl
  have fq0_2 : ∀ u : Cl W3, u.x.cell? ⟨w.heap.size, 2, none⟩ = some (.bool ma) := fun u => ((HB5.out.bel u.h).2.2.1).at 2 (.bool ma) rfl
  have fq0_3 : ∀ u : Cl W3, u.x.cell? ⟨w.heap.size, 3, none⟩ = some (.string ta) := fun u => ((HB5.out.bel u.h).2.2.1).at 3 (.string ta) rfl
  refine wp_region_cls (by kernel_rfl) ?_
  iterate 1 (go_big_quiet_step (fail))
  go_big_quiet_step ((go_at_call 31; exact quiet_cls H2.out _))
  iterate 3 (go_big_quiet_step (fail))
  go_big_quiet_step ((go_at_call 22; exact quiet_cls H3.out _))
  iterate 1 (go_big_quiet_step (fail))
  go_big_quiet_step ((go_at_call 15; exact quiet_cls H4.out _))
  iterate 5 (go_big_quiet_step (fail))
  go_big_quiet_step ((go_at_call 22; exact quiet_cls H3.out _))
  go_big_quiet_step ((go_at_call 18; exact quiet_cls H5.out _))
  go_big_quiet_step ((go_at_call 16; exact quiet_cls H6.out _))
  go_big_quiet_step ((go_at_call 15; exact quiet_cls H7.out _))
  iterate 3 (go_big_quiet_step (fail))
  go_big_quiet_step ((go_at_call 11; exact quiet_cls H8.out _))
  iterate 2 (go_big_quiet_step (fail))
  refine wpQuiet_nil ?_
  intro w4 hw9
  have hb : Below W3.heap.size W3 w4 := by obtain ⟨u, rfl⟩ := hw9; exact u.h
  clear hw9 this fq2_0 fq2_1 fq0_0 fq0_1 fq0_2 fq0_3
  have HL6 := Lib.hid (bstep HL5.out hb)
  have HB6 := Lib.hid (HB5.out.bel hb)
  clear hb
  clear HL5 HB5
  go_wp2
  go_ret
  exact ⟨rfl, HL6.out⟩
end Go.Proofs.Gv

namespace Go.Proofs.Gv
open Go Go.RowKit

/-- A number of few bytes. -/
theorem rq_small {n m : Bool} {s t : ByteArray} (k : Nat) (hk : k ≤ 1000) (h1 : s.size ≤ k) (h2 : t.size ≤ k) : ∃ a N, Rq n s m t a ∧ Qb N a ∧ N ≤ 8 * k + 8 := by
  have h : Rq n s m t (Rat.divInt (iv n s) (iv m t)) := ⟨rfl, by omega, by omega⟩
  exact ⟨_, 8 * (k + 1), h, h.qb (by omega) (by omega) (by omega), by omega⟩
theorem cR11 (W : World) : Calls Tryd.prog 18 #[.int .i64 1, .int .i64 1] W (RetQ W 1) := by
  have := cRatio (x := 1) (y := 1) (by decide) (by decide) (by decide) (by decide) (by decide) W
  rwa [divInt_1, Rat.intCast_one] at this
theorem law_floor (na ma : Bool) (sa ta : ByteArray) (w : World) (hs : sa.size ≤ maxLen) (ht : ta.size ≤ maxLen) :
    Calls Tryd.prog 8 #[.agg #[.bool na, .string sa, .bool ma, .string ta]] w fun e w' => e = .returned (.bool true) ∧ Below w.heap.size w w' := by
  have hz : ∀ x ∈ ([(na, sa, ma, ta)] : List (Bool × ByteArray × Bool × ByteArray)), x.2.1.size ≤ maxLen ∧ x.2.2.2.size ≤ maxLen := fun x hx => by
    obtain rfl : x = (na, sa, ma, ta) := by simpa using hx
    exact ⟨hs, ht⟩
  cases hgr : grQ 24 [(na, sa, ma, ta)] with
  | true => exact floor_great na ma sa ta hz hgr w cAwake02
  | false =>
    obtain ⟨h1, h2⟩ := grQ_false hgr _ (List.mem_cons_self ..)
    obtain ⟨a, N, RA, A, hN⟩ := rq_small (n := na) (m := ma) 24 (by decide) h1 h2
    have fN : a.floor.natAbs < 2 ^ N := A.floor
    have F := cQFloor RA
    have rf := rpV fN (by omega)
    have C := cCheck a.floor rf.sz
    have O := cQOf rf
    have QF : Qb N (a.floor : Rat) := Qb.int fN A.pos
    have C1 := cQCmp (QF.rq (by omega)) RA
    have S := cQAdd (QF.rq (by omega)) (Qb.one.rq (by decide))
    have QS := QF.add Qb.one
    have C2 := cQCmp RA (QS.rq (by omega))
    have hlt : a < (a.floor : Rat) + 1 := by
      have := Rat.lt_floor_add_one a
      rwa [Rat.intCast_add, Rat.intCast_one] at this
    rw [cmpQ_neg hlt] at C2
    rcases cmp_le (Rat.floor_le a) with e | e
    · rw [e] at C1
      exact floor_m na ma sa ta hz hgr w F C O C1 cR11 S C2 cAwake02
    · rw [e] at C1
      exact floor_z na ma sa ta hz hgr w F C O C1 cR11 S C2 cAwake02
end Go.Proofs.Gv
