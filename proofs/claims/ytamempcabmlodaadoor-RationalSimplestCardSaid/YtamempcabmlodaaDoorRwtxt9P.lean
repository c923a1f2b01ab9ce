/- Layer 02: functions of rational, walked over the results of what they call (printed by gen02c.py). -/
import Derived.Test.YtamempcabmlodaaDoorRatTabP
set_option linter.unusedSimpArgs false
set_option linter.unusedVariables false
namespace Go.Proofs.Gv
open Go Go.RowKit

set_option maxRecDepth 100000 in
set_option maxHeartbeats 4000000 in
theorem ratParse_bad3 {na nb : Bool} {sA sB sa sb : ByteArray} (s0 : ByteArray) (hl : decide ((65536 : Int) < s0.size) = false) (w : World)
    (H1 : ∀ W, Calls Tryd.prog 34 #[.string s0, .string ⟨#[47]⟩] W fun e w' => e = .returned (.tuple #[.string sA, .string sB, .bool true]) ∧ Below W.heap.size W w')
    (H2 : ∀ W, Calls Tryd.prog 35 #[.string sA] W fun e w' => e = .returned (.tuple #[.agg #[.bool na, .string sa], .int .i64 0]) ∧ Below W.heap.size W w')
    (H3 : ∀ W, Calls Tryd.prog 35 #[.string sB] W fun e w' => e = .returned (.tuple #[.agg #[.bool nb, .string sb], .int .i64 0]) ∧ Below W.heap.size W w')
    (H4 : ∀ W, Calls Tryd.prog 14 #[.agg #[.bool na, .string sa, .bool nb, .string sb]] W fun e w' => e = .returned (.int .i64 1) ∧ Below W.heap.size W w')
    : Calls Tryd.prog 12 #[.string s0] w fun e w' => e = .returned (.tuple #[.agg #[.bool false, .string ⟨#[]⟩, .bool false, .string ⟨#[]⟩], .int .i64 3]) ∧ Below w.heap.size w w' := by
  replace H1 := Lib.hid H1
  replace H2 := Lib.hid H2
  replace H3 := Lib.hid H3
  replace H4 := Lib.hid H4
  go_enter Tryd.func12, Tryd.ntmps12
  have HL0 := Lib.hid (Below.refl w.heap.size w)
  have HB0 := Lib.hid (show Bs [] w from trivial)
  have HO0 := Lib.hid (show w.heap.size ≤ w.heap.size from by have := HL0.out.size; first | omega | (simp at this; omega))
  have HL1 := Lib.hid (HL0.out.alloc HL0.out.size (.cells #[.bool false, .string ⟨#[]⟩, .bool false, .string ⟨#[]⟩] 25))
  have HB1 := Lib.hid (HB0.out.push (w.heap.size) #[.bool false, .string ⟨#[]⟩, .bool false, .string ⟨#[]⟩] 25 (by first | rfl | simp))
  clear HL0 HB0
  go_wp2_with fail
  refine (H1.out _).mono ?_
  rintro e w1 ⟨rfl, hb⟩
  have HL2 := Lib.hid (bstep HL1.out hb)
  have HB2 := Lib.hid (HB1.out.bel hb)
  clear hb
  clear HL1 HB1
  go_wp2_with fail
  refine (H2.out _).mono ?_
  rintro e w2 ⟨rfl, hb⟩
  have HL3 := Lib.hid (bstep HL2.out hb)
  have HB3 := Lib.hid (HB2.out.bel hb)
  clear hb
  clear HL2 HB2
  have HO1 := Lib.hid (show w.heap.size < w2.heap.size from by have := (HB3.out.1).lt; first | omega | (simp at this; omega))
  have HL4 := Lib.hid (HL3.out.alloc HL3.out.size (.cells #[.bool na, .string sa] 23))
  have HB4 := Lib.hid (HB3.out.push (w2.heap.size) #[.bool na, .string sa] 23 (by first | rfl | simp))
  clear HL3 HB3
  go_wp2_with fail
  refine (H3.out _).mono ?_
  rintro e w3 ⟨rfl, hb⟩
  have HL5 := Lib.hid (bstep HL4.out hb)
  have HB5 := Lib.hid (HB4.out.bel hb)
  clear hb
  clear HL4 HB4
  have HO2 := Lib.hid (show w2.heap.size < w3.heap.size from by have := (HB5.out.1).lt; first | omega | (simp at this; omega))
  have HL6 := Lib.hid (HL5.out.alloc HL5.out.size (.cells #[.bool nb, .string sb] 23))
  have HB6 := Lib.hid (HB5.out.push (w3.heap.size) #[.bool nb, .string sb] 23 (by first | rfl | simp))
  clear HL5 HB5
  have fx1_0_6 := (HB6.out.2.1).at 0 (.bool na) rfl
  have fx1_1_6 := (HB6.out.2.1).at 1 (.string sa) rfl
  have fx2_0_6 := (HB6.out.1).at 0 (.bool nb) rfl
  have fx2_1_6 := (HB6.out.1).at 1 (.string sb) rfl
  have HO3 := Lib.hid (show w3.heap.size < w3.heap.size + 1 from by have := (HB6.out.1).lt; first | omega | (simp at this; omega))
  have HL7 := Lib.hid (HL6.out.alloc HL6.out.size (.cells #[.bool na, .string sa, .bool nb, .string sb] 25))
  have HB7 := Lib.hid (HB6.out.push (w3.heap.size + 1) #[.bool na, .string sa, .bool nb, .string sb] 25 (by first | rfl | simp))
  clear HL6 HB6
  go_wp2_with fail
  obtain ⟨Bw2, hB⟩ : ∃ B, w2.heap.size = B := ⟨_, rfl⟩
  rw [hB] at HB7 ⊢
  try rw [hB] at HO0
  try rw [hB] at HO1
  try rw [hB] at HO2
  try rw [hB] at HO3
  clear hB
  obtain ⟨Bw3, hB⟩ : ∃ B, w3.heap.size = B := ⟨_, rfl⟩
  rw [hB] at HB7 ⊢
  try rw [hB] at HO0
  try rw [hB] at HO1
  try rw [hB] at HO2
  try rw [hB] at HO3
  clear hB
  obtain ⟨W4, hW⟩ : ∃ W, ((w3.alloc (.cells #[.bool nb, .string sb] 23)).alloc (.cells #[.bool na, .string sa, .bool nb, .string sb] 25)) = W := ⟨_, rfl⟩
  rw [hW] at HB7 HL7 ⊢
  clear hW fx1_0_6 fx1_1_6 fx2_0_6 fx2_1_6
  haveI := cls_some W4
  have fq3_0 : ∀ u : Cl W4, u.x.cell? ⟨Bw3 + 1, 0, none⟩ = some (.bool na) := fun u => ((HB7.out.bel u.h).1).at 0 (.bool na) rfl
  have fq3_1 : ∀ u : Cl W4, u.x.cell? ⟨Bw3 + 1, 1, none⟩ = some (.string sa) := fun u => ((HB7.out.bel u.h).1).at 1 (.string sa) rfl
  have fq3_2 : ∀ u : Cl W4, u.x.cell? ⟨Bw3 + 1, 2, none⟩ = some (.bool nb) := fun u => ((HB7.out.bel u.h).1).at 2 (.bool nb) rfl
  have fq3_3 : ∀ u : Cl W4, u.x.cell? ⟨Bw3 + 1, 3, none⟩ = some (.string sb) := fun u => ((HB7.out.bel u.h).1).at 3 (.string sb) rfl
  refine wp_region_cls (by kernel_rfl) ?_
  iterate 1 (go_big_quiet_step (fail))
  go_big_quiet_step ((go_at_call 14; exact quiet_cls H4.out _))
  iterate 6 (go_big_quiet_step (fail))
  refine wpQuiet_nil ?_
  intro w5 hw9
  have hb : Below W4.heap.size W4 w5 := by obtain ⟨u, rfl⟩ := hw9; exact u.h
  clear hw9 this fq3_0 fq3_1 fq3_2 fq3_3
  have HL8 := Lib.hid (bstep HL7.out hb)
  have HB8 := Lib.hid (HB7.out.bel hb)
  clear hb
  clear HL7 HB7
  have fx0_0_8 := (HB8.out.2.2.2.1).at 0 (.bool false) rfl
  have fz0_0_8 := (HB8.out.2.2.2.1).z 0 (show 0 < 4 by decide)
  have fx0_1_8 := (HB8.out.2.2.2.1).at 1 (.string ⟨#[]⟩) rfl
  have fz0_1_8 := (HB8.out.2.2.2.1).z 1 (show 1 < 4 by decide)
  have fx0_2_8 := (HB8.out.2.2.2.1).at 2 (.bool false) rfl
  have fz0_2_8 := (HB8.out.2.2.2.1).z 2 (show 2 < 4 by decide)
  have fx0_3_8 := (HB8.out.2.2.2.1).at 3 (.string ⟨#[]⟩) rfl
  have fz0_3_8 := (HB8.out.2.2.2.1).z 3 (show 3 < 4 by decide)
  have HL9 := Below.setCs (c := w.heap.size) (by have := HO0.out; have := HO1.out; have := HO2.out; have := HO3.out; omega) [.bool false, .string ⟨#[]⟩, .bool false, .string ⟨#[]⟩] _ 0 HL8.out
  have HB9 := Bs.store (c := w.heap.size) [.bool false, .string ⟨#[]⟩, .bool false, .string ⟨#[]⟩] 0 3 HB8.out (by simp only [Bs.ap, Bs.ap0, List.length_cons, List.length_nil, and_true, true_and]; have := HO0.out; have := HO1.out; have := HO2.out; have := HO3.out; omega)
  simp only [setCs, setL, Bs.put, List.set_cons_succ, List.set_cons_zero, Nat.zero_add, Nat.reduceAdd] at HL9 HB9
  replace HL9 := Lib.hid HL9
  replace HB9 := Lib.hid HB9
  clear HL8 HB8
  have fx0_0_9 := (HB9.out.2.2.2.1).at 0 (.bool false) rfl
  have fx0_1_9 := (HB9.out.2.2.2.1).at 1 (.string ⟨#[]⟩) rfl
  have fx0_2_9 := (HB9.out.2.2.2.1).at 2 (.bool false) rfl
  have fx0_3_9 := (HB9.out.2.2.2.1).at 3 (.string ⟨#[]⟩) rfl
  go_wp2
  refine bodyPost_ret (v := .tuple #[.agg #[.bool false, .string ⟨#[]⟩, .bool false, .string ⟨#[]⟩], .int .i64 3]) (by simp [results, Tryd.results12, go_sem, fx0_0_9, fx0_1_9, fx0_2_9, fx0_3_9]) rfl ?_
  exact ⟨rfl, HL9.out⟩
end Go.Proofs.Gv

namespace Go.Proofs.Gv
open Go Go.RowKit

set_option maxRecDepth 100000 in
set_option maxHeartbeats 4000000 in
theorem ratParse_bad4 {na : Bool} {sA sB sa : ByteArray} (s0 : ByteArray) (hl : decide ((65536 : Int) < s0.size) = false) (nb no : Bool) (sb so : ByteArray) (hq : eqI nb sb no so = true) (w : World)
    (H1 : ∀ W, Calls Tryd.prog 34 #[.string s0, .string ⟨#[47]⟩] W fun e w' => e = .returned (.tuple #[.string sA, .string sB, .bool true]) ∧ Below W.heap.size W w')
    (H2 : ∀ W, Calls Tryd.prog 35 #[.string sA] W fun e w' => e = .returned (.tuple #[.agg #[.bool na, .string sa], .int .i64 0]) ∧ Below W.heap.size W w')
    (H3 : ∀ W, Calls Tryd.prog 35 #[.string sB] W fun e w' => e = .returned (.tuple #[.agg #[.bool nb, .string sb], .int .i64 0]) ∧ Below W.heap.size W w')
    (H4 : ∀ W, Calls Tryd.prog 14 #[.agg #[.bool na, .string sa, .bool nb, .string sb]] W fun e w' => e = .returned (.int .i64 0) ∧ Below W.heap.size W w')
    (H5 : ∀ W, Calls Tryd.prog 24 #[.int .i64 1] W fun e w' => e = .returned (.agg #[.bool no, .string so]) ∧ Below W.heap.size W w')
    : Calls Tryd.prog 12 #[.string s0] w fun e w' => e = .returned (.tuple #[.agg #[.bool false, .string ⟨#[]⟩, .bool false, .string ⟨#[]⟩], .int .i64 3]) ∧ Below w.heap.size w w' := by
  replace H1 := Lib.hid H1
  replace H2 := Lib.hid H2
  replace H3 := Lib.hid H3
  replace H4 := Lib.hid H4
  replace H5 := Lib.hid H5
  go_enter Tryd.func12, Tryd.ntmps12
  have HL0 := Lib.hid (Below.refl w.heap.size w)
  have HB0 := Lib.hid (show Bs [] w from trivial)
  have HO0 := Lib.hid (show w.heap.size ≤ w.heap.size from by have := HL0.out.size; first | omega | (simp at this; omega))
  have HL1 := Lib.hid (HL0.out.alloc HL0.out.size (.cells #[.bool false, .string ⟨#[]⟩, .bool false, .string ⟨#[]⟩] 25))
  have HB1 := Lib.hid (HB0.out.push (w.heap.size) #[.bool false, .string ⟨#[]⟩, .bool false, .string ⟨#[]⟩] 25 (by first | rfl | simp))
  clear HL0 HB0
  go_wp2_with fail
  refine (H1.out _).mono ?_
  rintro e w1 ⟨rfl, hb⟩
  have HL2 := Lib.hid (bstep HL1.out hb)
  have HB2 := Lib.hid (HB1.out.bel hb)
  clear hb
  clear HL1 HB1
  go_wp2_with fail
  refine (H2.out _).mono ?_
  rintro e w2 ⟨rfl, hb⟩
  have HL3 := Lib.hid (bstep HL2.out hb)
  have HB3 := Lib.hid (HB2.out.bel hb)
  clear hb
  clear HL2 HB2
  have HO1 := Lib.hid (show w.heap.size < w2.heap.size from by have := (HB3.out.1).lt; first | omega | (simp at this; omega))
  have HL4 := Lib.hid (HL3.out.alloc HL3.out.size (.cells #[.bool na, .string sa] 23))
  have HB4 := Lib.hid (HB3.out.push (w2.heap.size) #[.bool na, .string sa] 23 (by first | rfl | simp))
  clear HL3 HB3
  go_wp2_with fail
  refine (H3.out _).mono ?_
  rintro e w3 ⟨rfl, hb⟩
  have HL5 := Lib.hid (bstep HL4.out hb)
  have HB5 := Lib.hid (HB4.out.bel hb)
  clear hb
  clear HL4 HB4
  have HO2 := Lib.hid (show w2.heap.size < w3.heap.size from by have := (HB5.out.1).lt; first | omega | (simp at this; omega))
  have HL6 := Lib.hid (HL5.out.alloc HL5.out.size (.cells #[.bool nb, .string sb] 23))
  have HB6 := Lib.hid (HB5.out.push (w3.heap.size) #[.bool nb, .string sb] 23 (by first | rfl | simp))
  clear HL5 HB5
  have fx1_0_6 := (HB6.out.2.1).at 0 (.bool na) rfl
  have fx1_1_6 := (HB6.out.2.1).at 1 (.string sa) rfl
  have fx2_0_6 := (HB6.out.1).at 0 (.bool nb) rfl
  have fx2_1_6 := (HB6.out.1).at 1 (.string sb) rfl
  have HO3 := Lib.hid (show w3.heap.size < w3.heap.size + 1 from by have := (HB6.out.1).lt; first | omega | (simp at this; omega))
  have HL7 := Lib.hid (HL6.out.alloc HL6.out.size (.cells #[.bool na, .string sa, .bool nb, .string sb] 25))
  have HB7 := Lib.hid (HB6.out.push (w3.heap.size + 1) #[.bool na, .string sa, .bool nb, .string sb] 25 (by first | rfl | simp))
  clear HL6 HB6
  go_wp2_with fail
  obtain ⟨Bw2, hB⟩ : ∃ B, w2.heap.size = B := ⟨_, rfl⟩
  rw [hB] at HB7 ⊢
  try rw [hB] at HO0
  try rw [hB] at HO1
  try rw [hB] at HO2
  try rw [hB] at HO3
  clear hB
  obtain ⟨Bw3, hB⟩ : ∃ B, w3.heap.size = B := ⟨_, rfl⟩
  rw [hB] at HB7 ⊢
  try rw [hB] at HO0
  try rw [hB] at HO1
  try rw [hB] at HO2
  try rw [hB] at HO3
  clear hB
  obtain ⟨W4, hW⟩ : ∃ W, ((w3.alloc (.cells #[.bool nb, .string sb] 23)).alloc (.cells #[.bool na, .string sa, .bool nb, .string sb] 25)) = W := ⟨_, rfl⟩
  rw [hW] at HB7 HL7 ⊢
  clear hW fx1_0_6 fx1_1_6 fx2_0_6 fx2_1_6
  haveI := cls_some W4
  have fq3_0 : ∀ u : Cl W4, u.x.cell? ⟨Bw3 + 1, 0, none⟩ = some (.bool na) := fun u => ((HB7.out.bel u.h).1).at 0 (.bool na) rfl
  have fq3_1 : ∀ u : Cl W4, u.x.cell? ⟨Bw3 + 1, 1, none⟩ = some (.string sa) := fun u => ((HB7.out.bel u.h).1).at 1 (.string sa) rfl
  have fq3_2 : ∀ u : Cl W4, u.x.cell? ⟨Bw3 + 1, 2, none⟩ = some (.bool nb) := fun u => ((HB7.out.bel u.h).1).at 2 (.bool nb) rfl
  have fq3_3 : ∀ u : Cl W4, u.x.cell? ⟨Bw3 + 1, 3, none⟩ = some (.string sb) := fun u => ((HB7.out.bel u.h).1).at 3 (.string sb) rfl
  have fq2_0 : ∀ u : Cl W4, u.x.cell? ⟨Bw3, 0, none⟩ = some (.bool nb) := fun u => ((HB7.out.bel u.h).2.1).at 0 (.bool nb) rfl
  have fq2_1 : ∀ u : Cl W4, u.x.cell? ⟨Bw3, 1, none⟩ = some (.string sb) := fun u => ((HB7.out.bel u.h).2.1).at 1 (.string sb) rfl
  refine wp_region_cls (by kernel_rfl) ?_
  iterate 1 (go_big_quiet_step (fail))
  go_big_quiet_step ((go_at_call 14; exact quiet_cls H4.out _))
  iterate 3 (go_big_quiet_step (fail))
  go_big_quiet_step ((go_at_call 24; exact quiet_cls H5.out _))
  iterate 2 (go_big_quiet_step (fail))
  refine wpQuiet_nil ?_
  intro w5 hw9
  have hb : Below W4.heap.size W4 w5 := by obtain ⟨u, rfl⟩ := hw9; exact u.h
  clear hw9 this fq3_0 fq3_1 fq3_2 fq3_3 fq2_0 fq2_1
  have HL8 := Lib.hid (bstep HL7.out hb)
  have HB8 := Lib.hid (HB7.out.bel hb)
  clear hb
  clear HL7 HB7
  have fx0_0_8 := (HB8.out.2.2.2.1).at 0 (.bool false) rfl
  have fz0_0_8 := (HB8.out.2.2.2.1).z 0 (show 0 < 4 by decide)
  have fx0_1_8 := (HB8.out.2.2.2.1).at 1 (.string ⟨#[]⟩) rfl
  have fz0_1_8 := (HB8.out.2.2.2.1).z 1 (show 1 < 4 by decide)
  have fx0_2_8 := (HB8.out.2.2.2.1).at 2 (.bool false) rfl
  have fz0_2_8 := (HB8.out.2.2.2.1).z 2 (show 2 < 4 by decide)
  have fx0_3_8 := (HB8.out.2.2.2.1).at 3 (.string ⟨#[]⟩) rfl
  have fz0_3_8 := (HB8.out.2.2.2.1).z 3 (show 3 < 4 by decide)
  have HL9 := Below.setCs (c := w.heap.size) (by have := HO0.out; have := HO1.out; have := HO2.out; have := HO3.out; omega) [.bool false, .string ⟨#[]⟩, .bool false, .string ⟨#[]⟩] _ 0 HL8.out
  have HB9 := Bs.store (c := w.heap.size) [.bool false, .string ⟨#[]⟩, .bool false, .string ⟨#[]⟩] 0 3 HB8.out (by simp only [Bs.ap, Bs.ap0, List.length_cons, List.length_nil, and_true, true_and]; have := HO0.out; have := HO1.out; have := HO2.out; have := HO3.out; omega)
  simp only [setCs, setL, Bs.put, List.set_cons_succ, List.set_cons_zero, Nat.zero_add, Nat.reduceAdd] at HL9 HB9
  replace HL9 := Lib.hid HL9
  replace HB9 := Lib.hid HB9
  clear HL8 HB8
  have fx0_0_9 := (HB9.out.2.2.2.1).at 0 (.bool false) rfl
  have fx0_1_9 := (HB9.out.2.2.2.1).at 1 (.string ⟨#[]⟩) rfl
  have fx0_2_9 := (HB9.out.2.2.2.1).at 2 (.bool false) rfl
  have fx0_3_9 := (HB9.out.2.2.2.1).at 3 (.string ⟨#[]⟩) rfl
  go_wp2
  refine bodyPost_ret (v := .tuple #[.agg #[.bool false, .string ⟨#[]⟩, .bool false, .string ⟨#[]⟩], .int .i64 3]) (by simp [results, Tryd.results12, go_sem, fx0_0_9, fx0_1_9, fx0_2_9, fx0_3_9]) rfl ?_
  exact ⟨rfl, HL9.out⟩
end Go.Proofs.Gv
