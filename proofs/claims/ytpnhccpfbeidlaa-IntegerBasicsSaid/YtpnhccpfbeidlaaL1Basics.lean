/- The law IntegerBasics, walked. -/
import Derived.Test.YtpnhccpfbeidlaaLawKit
namespace Go.Proofs.Gv
open Go Go.RowKit

set_option maxRecDepth 100000 in
set_option maxHeartbeats 4000000 in
theorem basics_great (na nb : Bool) (sa sb : ByteArray) (n0 : Int) (ha : sa.size ≤ maxLen) (hb0 : sb.size ≤ maxLen) (hgr : gr [(na, sa), (nb, sb)] = true) (w : World)
    : Calls Try.prog 11 #[.int .i64 n0, .agg #[.bool na, .string sa], .agg #[.bool nb, .string sb]] w fun e w' => e = .returned (.bool true) ∧ Below w.heap.size w w' := by
  have HA := Lib.hid ha
  have HB := Lib.hid hb0
  clear ha hb0
  go_enter Try.func11, Try.ntmps11
  have HL0 := Lib.hid (Below.refl w.heap.size w)
  have HD0 := Lib.hid (Bxs.nil w)
  have HL1 := Lib.hid (HL0.out.alloc HL0.out.size (.cells #[.bool na, .string sa] 23))
  have HD1 := Lib.hid (HD0.out.push' (w.heap.size) na sa (by simp))
  clear HL0 HD0
  have HL2 := Lib.hid (HL1.out.alloc HL1.out.size (.cells #[.bool nb, .string sb] 23))
  have HD2 := Lib.hid (HD1.out.push' (w.heap.size + 1) nb sb (by simp))
  clear HL1 HD1
  obtain ⟨fx0, fy0⟩ := HD2.out.get (w.heap.size) na sa (by simp)
  obtain ⟨fx1, fy1⟩ := HD2.out.get (w.heap.size + 1) nb sb (by simp)
  go_wp2_with fail
  refine (great2 na sa nb sb _ (w.heap.size + 1 + 1) (by simp) HA.out HB.out).mono ?_
  rintro e w1 ⟨rfl, hb⟩
  have HL3 := Lib.hid (bstep HL2.out hb)
  have HD3 := Lib.hid (HD2.out.below hb)
  clear hb HL2 HD2
  go_wp2_with fail
  refine (awake01 _).mono ?_
  rintro e w2 ⟨rfl, hb⟩
  have HL4 := Lib.hid (bstep HL3.out hb)
  have HD4 := Lib.hid (HD3.out.below hb)
  clear hb HL3 HD3
  go_wp2
  go_ret
  exact ⟨rfl, HL4.out⟩

set_option maxRecDepth 100000 in
set_option maxHeartbeats 4000000 in
theorem basics_law (na nb nng no : Bool) (sa sb sng so : ByteArray) (n0 : Int) (ha : sa.size ≤ maxLen) (hb0 : sb.size ≤ maxLen) (hgr : gr [(na, sa), (nb, sb)] = false) (xs ck c bt : Int) (bs : Bool) (w : World)
    (H1 : ∀ W, Calls Try.prog 34 #[.agg #[.bool na, .string sa]] W fun e w' => e = .returned (.tuple #[.int .i64 xs, .bool bs]) ∧ Below W.heap.size W w')
    (H2 : ∀ W, Calls Try.prog 35 #[.agg #[.bool na, .string sa]] W fun e w' => e = .returned (.tuple #[.int .i64 xs, .bool bs]) ∧ Below W.heap.size W w')
    (H3 : ∀ W, Calls Try.prog 31 #[.int .i64 n0] W fun e w' => e = .returned (.agg #[.bool no, .string so]) ∧ Below W.heap.size W w')
    (H4 : ∀ W, Calls Try.prog 36 #[.int .i64 n0] W fun e w' => e = .returned (.agg #[.bool no, .string so]) ∧ Below W.heap.size W w')
    (H5 : ∀ W, Calls Try.prog 33 #[.agg #[.bool na, .string sa]] W fun e w' => e = .returned (.int .i64 ck) ∧ Below W.heap.size W w')
    (H6 : ∀ W, Calls Try.prog 37 #[.agg #[.bool na, .string sa]] W fun e w' => e = .returned (.int .i64 ck) ∧ Below W.heap.size W w')
    (H7 : ∀ W, Calls Try.prog 30 #[.agg #[.bool na, .string sa]] W fun e w' => e = .returned (.agg #[.bool nng, .string sng]) ∧ Below W.heap.size W w')
    (H8 : ∀ W, Calls Try.prog 38 #[.agg #[.bool na, .string sa]] W fun e w' => e = .returned (.agg #[.bool nng, .string sng]) ∧ Below W.heap.size W w')
    (H9 : ∀ W, Calls Try.prog 29 #[.agg #[.bool na, .string sa], .agg #[.bool nb, .string sb]] W fun e w' => e = .returned (.int .i64 c) ∧ Below W.heap.size W w')
    (H10 : ∀ W, Calls Try.prog 39 #[.agg #[.bool na, .string sa], .agg #[.bool nb, .string sb]] W fun e w' => e = .returned (.int .i64 c) ∧ Below W.heap.size W w')
    (H11 : ∀ W, Calls Try.prog 32 #[.agg #[.bool na, .string sa]] W fun e w' => e = .returned (.int .i64 bt) ∧ Below W.heap.size W w')
    (H12 : ∀ W, Calls Try.prog 40 #[.agg #[.bool na, .string sa]] W fun e w' => e = .returned (.int .i64 bt) ∧ Below W.heap.size W w')
    : Calls Try.prog 11 #[.int .i64 n0, .agg #[.bool na, .string sa], .agg #[.bool nb, .string sb]] w fun e w' => e = .returned (.bool true) ∧ Below w.heap.size w w' := by
  replace H1 := Lib.hid H1
  replace H2 := Lib.hid H2
  replace H3 := Lib.hid H3
  replace H4 := Lib.hid H4
  replace H5 := Lib.hid H5
  replace H6 := Lib.hid H6
  replace H7 := Lib.hid H7
  replace H8 := Lib.hid H8
  replace H9 := Lib.hid H9
  replace H10 := Lib.hid H10
  replace H11 := Lib.hid H11
  replace H12 := Lib.hid H12
  have HA := Lib.hid ha
  have HB := Lib.hid hb0
  clear ha hb0
  have qo : eqI no so no so = true := eqI_iff.mpr ⟨rfl, rfl⟩
  have qng : eqI nng sng nng sng = true := eqI_iff.mpr ⟨rfl, rfl⟩
  go_enter Try.func11, Try.ntmps11
  have HL0 := Lib.hid (Below.refl w.heap.size w)
  have HD0 := Lib.hid (Bxs.nil w)
  have HL1 := Lib.hid (HL0.out.alloc HL0.out.size (.cells #[.bool na, .string sa] 23))
  have HD1 := Lib.hid (HD0.out.push' (w.heap.size) na sa (by simp))
  clear HL0 HD0
  have HL2 := Lib.hid (HL1.out.alloc HL1.out.size (.cells #[.bool nb, .string sb] 23))
  have HD2 := Lib.hid (HD1.out.push' (w.heap.size + 1) nb sb (by simp))
  clear HL1 HD1
  obtain ⟨fx0, fy0⟩ := HD2.out.get (w.heap.size) na sa (by simp)
  obtain ⟨fx1, fy1⟩ := HD2.out.get (w.heap.size + 1) nb sb (by simp)
  go_wp2_with fail
  refine (great2 na sa nb sb _ (w.heap.size + 1 + 1) (by simp) HA.out HB.out).mono ?_
  rintro e w1 ⟨rfl, hb⟩
  have HL3 := Lib.hid (bstep HL2.out hb)
  have HD3 := Lib.hid (HD2.out.below hb)
  clear hb HL2 HD2
  obtain ⟨fx0, fy0⟩ := HD3.out.get (w.heap.size) na sa (by simp)
  go_wp2_with fail
  refine (H1.out _).mono ?_
  rintro e w2 ⟨rfl, hb⟩
  have HL4 := Lib.hid (bstep HL3.out hb)
  have HD4 := Lib.hid (HD3.out.below hb)
  clear hb HL3 HD3
  obtain ⟨fx0, fy0⟩ := HD4.out.get (w.heap.size) na sa (by simp)
  go_wp2_with fail
  refine (H2.out _).mono ?_
  rintro e w3 ⟨rfl, hb⟩
  have HL5 := Lib.hid (bstep HL4.out hb)
  have HD5 := Lib.hid (HD4.out.below hb)
  clear hb HL4 HD4
  go_wp2_with fail
  obtain ⟨W4, hW⟩ : ∃ W, w3 = W := ⟨_, rfl⟩
  rw [hW] at HD5 HL5 ⊢
  clear hW
  haveI := cls_some W4
  have fq0 : ∀ u : Cl W4, u.x.cell? ⟨w.heap.size, 0, none⟩ = some (.bool na) := fun u => ((HD5.out.below u.h).get (w.heap.size) na sa (by simp)).1
  have fr0 : ∀ u : Cl W4, u.x.cell? ⟨w.heap.size, 1, none⟩ = some (.string sa) := fun u => ((HD5.out.below u.h).get (w.heap.size) na sa (by simp)).2
  have fq1 : ∀ u : Cl W4, u.x.cell? ⟨w.heap.size + 1, 0, none⟩ = some (.bool nb) := fun u => ((HD5.out.below u.h).get (w.heap.size + 1) nb sb (by simp)).1
  have fr1 : ∀ u : Cl W4, u.x.cell? ⟨w.heap.size + 1, 1, none⟩ = some (.string sb) := fun u => ((HD5.out.below u.h).get (w.heap.size + 1) nb sb (by simp)).2
  refine wp_region_cls (by kernel_rfl) ?_
  iterate 1 (go_big_quiet_step (fail))
  go_big_quiet_step ((go_at_call 31; exact quiet_cls H3.out _))
  iterate 1 (go_big_quiet_step (fail))
  go_big_quiet_step ((go_at_call 36; exact quiet_cls H4.out _))
  iterate 3 (go_big_quiet_step (fail))
  go_big_quiet_step ((go_at_call 33; exact quiet_cls H5.out _))
  iterate 1 (go_big_quiet_step (fail))
  go_big_quiet_step ((go_at_call 37; exact quiet_cls H6.out _))
  iterate 14 (go_big_quiet_step (fail))
  go_big_quiet_step ((go_at_call 30; exact quiet_cls H7.out _))
  iterate 1 (go_big_quiet_step (fail))
  go_big_quiet_step ((go_at_call 38; exact quiet_cls H8.out _))
  iterate 5 (go_big_quiet_step (fail))
  go_big_quiet_step ((go_at_call 29; exact quiet_cls H9.out _))
  iterate 2 (go_big_quiet_step (fail))
  go_big_quiet_step ((go_at_call 39; exact quiet_cls H10.out _))
  iterate 4 (go_big_quiet_step (fail))
  go_big_quiet_step ((go_at_call 32; exact quiet_cls H11.out _))
  iterate 1 (go_big_quiet_step (fail))
  go_big_quiet_step ((go_at_call 40; exact quiet_cls H12.out _))
  iterate 3 (go_big_quiet_step (fail))
  go_big_quiet_step ((go_at_call 13; exact quiet_cls awake01 _))
  iterate 2 (go_big_quiet_step (fail))
  refine wpQuiet_nil ?_
  intro w5 hw9
  have hB : Below W4.heap.size W4 w5 := by obtain ⟨u, rfl⟩ := hw9; exact u.h
  clear hw9 fq0 fr0 fq1 fr1
  have HL6 := Lib.hid (bstep HL5.out hB)
  have HD6 := Lib.hid (HD5.out.below hB)
  clear hB HL5 HD5
  go_wp2
  go_ret
  exact ⟨rfl, HL6.out⟩

end Go.Proofs.Gv
