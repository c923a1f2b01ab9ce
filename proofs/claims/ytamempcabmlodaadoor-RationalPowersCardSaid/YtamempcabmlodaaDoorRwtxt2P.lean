/- Layer 02: functions of rational, walked over the results of what they call (printed by gen02c.py). -/
import Derived.Test.YtamempcabmlodaaDoorRatTabP
set_option linter.unusedSimpArgs false
set_option linter.unusedVariables false
namespace Go.Proofs.Gv
open Go Go.RowKit

set_option maxRecDepth 100000 in
set_option maxHeartbeats 4000000 in
theorem ratPrint_int {na ma nc : Bool} {sa ta sc sx : ByteArray} (mc no : Bool) (tc so : ByteArray) (hq : eqI mc tc no so = true) (w : World)
    (H1 : ∀ W, Calls Tryd.prog 36 #[.agg #[.bool na, .string sa, .bool ma, .string ta]] W fun e w' => e = .returned (.agg #[.bool nc, .string sc, .bool mc, .string tc]) ∧ Below W.heap.size W w')
    (H2 : ∀ W, Calls Tryd.prog 24 #[.int .i64 1] W fun e w' => e = .returned (.agg #[.bool no, .string so]) ∧ Below W.heap.size W w')
    (H3 : ∀ W, Calls Tryd.prog 37 #[.agg #[.bool nc, .string sc]] W fun e w' => e = .returned (.string sx) ∧ Below W.heap.size W w')
    : Calls Tryd.prog 13 #[.agg #[.bool na, .string sa, .bool ma, .string ta]] w fun e w' => e = .returned (.string sx) ∧ Below w.heap.size w w' := by
  replace H1 := Lib.hid H1
  replace H2 := Lib.hid H2
  replace H3 := Lib.hid H3
  go_enter Tryd.func13, Tryd.ntmps13
  have HL0 := Lib.hid (Below.refl w.heap.size w)
  have HB0 := Lib.hid (show Bs [] w from trivial)
  have HO0 := Lib.hid (show w.heap.size ≤ w.heap.size from by have := HL0.out.size; first | omega | (simp at this; omega))
  have HL1 := Lib.hid (HL0.out.alloc HL0.out.size (.cells #[.bool na, .string sa, .bool ma, .string ta] 25))
  have HB1 := Lib.hid (HB0.out.push (w.heap.size) #[.bool na, .string sa, .bool ma, .string ta] 25 (by first | rfl | simp))
  clear HL0 HB0
  have fx0_0_1 := (HB1.out.1).at 0 (.bool na) rfl
  have fx0_1_1 := (HB1.out.1).at 1 (.string sa) rfl
  have fx0_2_1 := (HB1.out.1).at 2 (.bool ma) rfl
  have fx0_3_1 := (HB1.out.1).at 3 (.string ta) rfl
  go_wp2_with fail
  refine (H1.out _).mono ?_
  rintro e w1 ⟨rfl, hb⟩
  have HL2 := Lib.hid (bstep HL1.out hb)
  have HB2 := Lib.hid (HB1.out.bel hb)
  clear hb
  clear HL1 HB1 fx0_0_1 fx0_1_1 fx0_2_1 fx0_3_1
  have fx0_0_2 := (HB2.out.1).at 0 (.bool na) rfl
  have fz0_0_2 := (HB2.out.1).z 0 (show 0 < 4 by decide)
  have fx0_1_2 := (HB2.out.1).at 1 (.string sa) rfl
  have fz0_1_2 := (HB2.out.1).z 1 (show 1 < 4 by decide)
  have fx0_2_2 := (HB2.out.1).at 2 (.bool ma) rfl
  have fz0_2_2 := (HB2.out.1).z 2 (show 2 < 4 by decide)
  have fx0_3_2 := (HB2.out.1).at 3 (.string ta) rfl
  have fz0_3_2 := (HB2.out.1).z 3 (show 3 < 4 by decide)
  have HL3 := Below.setCs (c := w.heap.size) (by have := HO0.out; omega) [.bool nc, .string sc, .bool mc, .string tc] _ 0 HL2.out
  have HB3 := Bs.store (c := w.heap.size) [.bool nc, .string sc, .bool mc, .string tc] 0 0 HB2.out (by simp only [Bs.ap, Bs.ap0, List.length_cons, List.length_nil, and_true, true_and]; have := HO0.out; omega)
  simp only [setCs, setL, Bs.put, List.set_cons_succ, List.set_cons_zero, Nat.zero_add, Nat.reduceAdd] at HL3 HB3
  replace HL3 := Lib.hid HL3
  replace HB3 := Lib.hid HB3
  clear HL2 HB2
  go_wp2_with fail
  obtain ⟨W2, hW⟩ : ∃ W, ((((w1.setCell ⟨w.heap.size, 0, none⟩ (.bool nc)).setCell ⟨w.heap.size, 1, none⟩ (.string sc)).setCell ⟨w.heap.size, 2, none⟩ (.bool mc)).setCell ⟨w.heap.size, 3, none⟩ (.string tc)) = W := ⟨_, rfl⟩
  rw [hW] at HB3 HL3 ⊢
  clear hW fx0_0_2 fz0_0_2 fx0_1_2 fz0_1_2 fx0_2_2 fz0_2_2 fx0_3_2 fz0_3_2
  haveI := cls_some W2
  have fq0_2 : ∀ u : Cl W2, u.x.cell? ⟨w.heap.size, 2, none⟩ = some (.bool mc) := fun u => ((HB3.out.bel u.h).1).at 2 (.bool mc) rfl
  have fq0_3 : ∀ u : Cl W2, u.x.cell? ⟨w.heap.size, 3, none⟩ = some (.string tc) := fun u => ((HB3.out.bel u.h).1).at 3 (.string tc) rfl
  refine wp_region_cls (by kernel_rfl) ?_
  iterate 2 (go_big_quiet_step (fail))
  go_big_quiet_step ((go_at_call 24; exact quiet_cls H2.out _))
  iterate 1 (go_big_quiet_step (fail))
  refine wpQuiet_nil ?_
  intro w3 hw9
  have hb : Below W2.heap.size W2 w3 := by obtain ⟨u, rfl⟩ := hw9; exact u.h
  clear hw9 this fq0_2 fq0_3
  have HL4 := Lib.hid (bstep HL3.out hb)
  have HB4 := Lib.hid (HB3.out.bel hb)
  clear hb
  clear HL3 HB3
  have fx0_0_4 := (HB4.out.1).at 0 (.bool nc) rfl
  have fx0_1_4 := (HB4.out.1).at 1 (.string sc) rfl
  go_wp2_with fail
  refine (H3.out _).mono ?_
  rintro e w4 ⟨rfl, hb⟩
  have HL5 := Lib.hid (bstep HL4.out hb)
  have HB5 := Lib.hid (HB4.out.bel hb)
  clear hb
  clear HL4 HB4 fx0_0_4 fx0_1_4
  go_wp2
  go_ret
  exact ⟨rfl, HL5.out⟩
end Go.Proofs.Gv

namespace Go.Proofs.Gv
open Go Go.RowKit

set_option maxRecDepth 100000 in
set_option maxHeartbeats 4000000 in
theorem ratPrint_frac {na ma nc : Bool} {sa ta sc : ByteArray} (mc no : Bool) (tc so : ByteArray) (hq : eqI mc tc no so = false) (sx sy : ByteArray) (h1 : sx.size ≤ 1000000) (h2 : sy.size ≤ 1000000) (w : World)
    (H1 : ∀ W, Calls Tryd.prog 36 #[.agg #[.bool na, .string sa, .bool ma, .string ta]] W fun e w' => e = .returned (.agg #[.bool nc, .string sc, .bool mc, .string tc]) ∧ Below W.heap.size W w')
    (H2 : ∀ W, Calls Tryd.prog 24 #[.int .i64 1] W fun e w' => e = .returned (.agg #[.bool no, .string so]) ∧ Below W.heap.size W w')
    (H3 : ∀ W, Calls Tryd.prog 37 #[.agg #[.bool nc, .string sc]] W fun e w' => e = .returned (.string sx) ∧ Below W.heap.size W w')
    (H4 : ∀ W, Calls Tryd.prog 37 #[.agg #[.bool mc, .string tc]] W fun e w' => e = .returned (.string sy) ∧ Below W.heap.size W w')
    : Calls Tryd.prog 13 #[.agg #[.bool na, .string sa, .bool ma, .string ta]] w fun e w' => e = .returned (.string (sx ++ ⟨#[47]⟩ ++ sy)) ∧ Below w.heap.size w w' := by
  replace H1 := Lib.hid H1
  replace H2 := Lib.hid H2
  replace H3 := Lib.hid H3
  replace H4 := Lib.hid H4
  go_enter Tryd.func13, Tryd.ntmps13
  have HL0 := Lib.hid (Below.refl w.heap.size w)
  have HB0 := Lib.hid (show Bs [] w from trivial)
  have HO0 := Lib.hid (show w.heap.size ≤ w.heap.size from by have := HL0.out.size; first | omega | (simp at this; omega))
  have HL1 := Lib.hid (HL0.out.alloc HL0.out.size (.cells #[.bool na, .string sa, .bool ma, .string ta] 25))
  have HB1 := Lib.hid (HB0.out.push (w.heap.size) #[.bool na, .string sa, .bool ma, .string ta] 25 (by first | rfl | simp))
  clear HL0 HB0
  have fx0_0_1 := (HB1.out.1).at 0 (.bool na) rfl
  have fx0_1_1 := (HB1.out.1).at 1 (.string sa) rfl
  have fx0_2_1 := (HB1.out.1).at 2 (.bool ma) rfl
  have fx0_3_1 := (HB1.out.1).at 3 (.string ta) rfl
  go_wp2_with fail
  refine (H1.out _).mono ?_
  rintro e w1 ⟨rfl, hb⟩
  have HL2 := Lib.hid (bstep HL1.out hb)
  have HB2 := Lib.hid (HB1.out.bel hb)
  clear hb
  clear HL1 HB1 fx0_0_1 fx0_1_1 fx0_2_1 fx0_3_1
  have fx0_0_2 := (HB2.out.1).at 0 (.bool na) rfl
  have fz0_0_2 := (HB2.out.1).z 0 (show 0 < 4 by decide)
  have fx0_1_2 := (HB2.out.1).at 1 (.string sa) rfl
  have fz0_1_2 := (HB2.out.1).z 1 (show 1 < 4 by decide)
  have fx0_2_2 := (HB2.out.1).at 2 (.bool ma) rfl
  have fz0_2_2 := (HB2.out.1).z 2 (show 2 < 4 by decide)
  have fx0_3_2 := (HB2.out.1).at 3 (.string ta) rfl
  have fz0_3_2 := (HB2.out.1).z 3 (show 3 < 4 by decide)
  have HL3 := Below.setCs (c := w.heap.size) (by have := HO0.out; omega) [.bool nc, .string sc, .bool mc, .string tc] _ 0 HL2.out
  have HB3 := Bs.store (c := w.heap.size) [.bool nc, .string sc, .bool mc, .string tc] 0 0 HB2.out (by simp only [Bs.ap, Bs.ap0, List.length_cons, List.length_nil, and_true, true_and]; have := HO0.out; omega)
  simp only [setCs, setL, Bs.put, List.set_cons_succ, List.set_cons_zero, Nat.zero_add, Nat.reduceAdd] at HL3 HB3
  replace HL3 := Lib.hid HL3
  replace HB3 := Lib.hid HB3
  clear HL2 HB2
  go_wp2_with fail
  obtain ⟨W2, hW⟩ : ∃ W, ((((w1.setCell ⟨w.heap.size, 0, none⟩ (.bool nc)).setCell ⟨w.heap.size, 1, none⟩ (.string sc)).setCell ⟨w.heap.size, 2, none⟩ (.bool mc)).setCell ⟨w.heap.size, 3, none⟩ (.string tc)) = W := ⟨_, rfl⟩
  rw [hW] at HB3 HL3 ⊢
  clear hW fx0_0_2 fz0_0_2 fx0_1_2 fz0_1_2 fx0_2_2 fz0_2_2 fx0_3_2 fz0_3_2
  haveI := cls_some W2
  have fq0_2 : ∀ u : Cl W2, u.x.cell? ⟨w.heap.size, 2, none⟩ = some (.bool mc) := fun u => ((HB3.out.bel u.h).1).at 2 (.bool mc) rfl
  have fq0_3 : ∀ u : Cl W2, u.x.cell? ⟨w.heap.size, 3, none⟩ = some (.string tc) := fun u => ((HB3.out.bel u.h).1).at 3 (.string tc) rfl
  refine wp_region_cls (by kernel_rfl) ?_
  iterate 2 (go_big_quiet_step (fail))
  go_big_quiet_step ((go_at_call 24; exact quiet_cls H2.out _))
  iterate 1 (go_big_quiet_step (fail))
  refine wpQuiet_nil ?_
  intro w3 hw9
  have hb : Below W2.heap.size W2 w3 := by obtain ⟨u, rfl⟩ := hw9; exact u.h
  clear hw9 this fq0_2 fq0_3
  have HL4 := Lib.hid (bstep HL3.out hb)
  have HB4 := Lib.hid (HB3.out.bel hb)
  clear hb
  clear HL3 HB3
  go_wp2_with fail
  haveI := cls_some w3
  have fq0_0 : ∀ u : Cl w3, u.x.cell? ⟨w.heap.size, 0, none⟩ = some (.bool nc) := fun u => ((HB4.out.bel u.h).1).at 0 (.bool nc) rfl
  have fq0_1 : ∀ u : Cl w3, u.x.cell? ⟨w.heap.size, 1, none⟩ = some (.string sc) := fun u => ((HB4.out.bel u.h).1).at 1 (.string sc) rfl
  have fq0_2 : ∀ u : Cl w3, u.x.cell? ⟨w.heap.size, 2, none⟩ = some (.bool mc) := fun u => ((HB4.out.bel u.h).1).at 2 (.bool mc) rfl
  have fq0_3 : ∀ u : Cl w3, u.x.cell? ⟨w.heap.size, 3, none⟩ = some (.string tc) := fun u => ((HB4.out.bel u.h).1).at 3 (.string tc) rfl
  refine wp_region_cls (by kernel_rfl) ?_
  iterate 2 (go_big_quiet_step (fail))
  go_big_quiet_step ((go_at_call 37; exact quiet_cls H3.out _))
  iterate 3 (go_big_quiet_step (fail))
  go_big_quiet_step ((go_at_call 37; exact quiet_cls H4.out _))
  iterate 2 (go_big_quiet_step (fail))
  refine wpQuiet_nil ?_
  intro w4 hw9
  have hb : Below w3.heap.size w3 w4 := by obtain ⟨u, rfl⟩ := hw9; exact u.h
  clear hw9 this fq0_0 fq0_1 fq0_2 fq0_3
  have HL5 := Lib.hid (bstep HL4.out hb)
  have HB5 := Lib.hid (HB4.out.bel hb)
  clear hb
  clear HL4 HB4
  go_wp2
  go_ret
  exact ⟨rfl, HL5.out⟩
end Go.Proofs.Gv
