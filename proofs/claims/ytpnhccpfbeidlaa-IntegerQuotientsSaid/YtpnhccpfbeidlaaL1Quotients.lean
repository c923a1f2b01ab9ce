/- The law IntegerQuotients, walked. -/
import Derived.Test.YtpnhccpfbeidlaaLawKit
namespace Go.Proofs.Gv
open Go Go.RowKit

set_option maxRecDepth 100000 in
set_option maxHeartbeats 4000000 in
theorem quo_great (na nb : Bool) (sa sb : ByteArray) (n0 : Int) (ha : sa.size ≤ maxLen) (hb0 : sb.size ≤ maxLen) (hgr : gr [(na, sa), (nb, sb)] = true) (w : World)
    : Calls Try.prog 4 #[.agg #[.bool na, .string sa], .agg #[.bool nb, .string sb], .int .i64 n0] w fun e w' => e = .returned (.bool true) ∧ Below w.heap.size w w' := by
  have HA := Lib.hid ha
  have HB := Lib.hid hb0
  clear ha hb0
  go_enter Try.func4, Try.ntmps4
  have HL0 := Lib.hid (Below.refl w.heap.size w)
  have HD0 := Lib.hid (Bxs.nil w)
  have HL1 := Lib.hid (HL0.out.alloc HL0.out.size (.cells #[.bool na, .string sa] 23))
  have HD1 := Lib.hid (HD0.out.push' (w.heap.size) na sa (by simp))
  clear HL0 HD0
  have HL2 := Lib.hid (HL1.out.alloc HL1.out.size (.cells #[.bool nb, .string sb] 23))
  have HD2 := Lib.hid (HD1.out.push' (w.heap.size + 1) nb sb (by simp))
  clear HL1 HD1
  obtain ⟨fx0, fy0⟩ := HD2.out.get (w.heap.size) na sa (by simp)
  obtain ⟨fx1, fy1⟩ := HD2.out.get (w.heap.size + 1) nb sb (by simp)
  go_wp2_with fail
  refine (great2 na sa nb sb _ (w.heap.size + 1 + 1) (by simp) HA.out HB.out).mono ?_
  rintro e w1 ⟨rfl, hb⟩
  have HL3 := Lib.hid (bstep HL2.out hb)
  have HD3 := Lib.hid (HD2.out.below hb)
  clear hb HL2 HD2
  go_wp2_with fail
  refine (awake01 _).mono ?_
  rintro e w2 ⟨rfl, hb⟩
  have HL4 := Lib.hid (bstep HL3.out hb)
  have HD4 := Lib.hid (HD3.out.below hb)
  clear hb HL3 HD3
  go_wp2
  go_ret
  exact ⟨rfl, HL4.out⟩

set_option maxRecDepth 100000 in
set_option maxHeartbeats 4000000 in
theorem quo_heavy (nb na : Bool) (sb sa : ByteArray) (n0 : Int) (ha : sa.size ≤ maxLen) (hb0 : sb.size ≤ maxLen) (hgr : gr [(na, sa), (nb, sb)] = false) (w : World)
    (H1 : ∀ W, Calls Try.prog 20 #[.agg #[.bool nb, .string sb], .int .i64 n0] W fun e w' => e = .returned (.bool true) ∧ Below W.heap.size W w')
    : Calls Try.prog 4 #[.agg #[.bool na, .string sa], .agg #[.bool nb, .string sb], .int .i64 n0] w fun e w' => e = .returned (.bool true) ∧ Below w.heap.size w w' := by
  replace H1 := Lib.hid H1
  have HA := Lib.hid ha
  have HB := Lib.hid hb0
  clear ha hb0
  go_enter Try.func4, Try.ntmps4
  have HL0 := Lib.hid (Below.refl w.heap.size w)
  have HD0 := Lib.hid (Bxs.nil w)
  have HL1 := Lib.hid (HL0.out.alloc HL0.out.size (.cells #[.bool na, .string sa] 23))
  have HD1 := Lib.hid (HD0.out.push' (w.heap.size) na sa (by simp))
  clear HL0 HD0
  have HL2 := Lib.hid (HL1.out.alloc HL1.out.size (.cells #[.bool nb, .string sb] 23))
  have HD2 := Lib.hid (HD1.out.push' (w.heap.size + 1) nb sb (by simp))
  clear HL1 HD1
  obtain ⟨fx0, fy0⟩ := HD2.out.get (w.heap.size) na sa (by simp)
  obtain ⟨fx1, fy1⟩ := HD2.out.get (w.heap.size + 1) nb sb (by simp)
  go_wp2_with fail
  refine (great2 na sa nb sb _ (w.heap.size + 1 + 1) (by simp) HA.out HB.out).mono ?_
  rintro e w1 ⟨rfl, hb⟩
  have HL3 := Lib.hid (bstep HL2.out hb)
  have HD3 := Lib.hid (HD2.out.below hb)
  clear hb HL2 HD2
  obtain ⟨fx1, fy1⟩ := HD3.out.get (w.heap.size + 1) nb sb (by simp)
  go_wp2_with fail
  refine (H1.out _).mono ?_
  rintro e w2 ⟨rfl, hb⟩
  have HL4 := Lib.hid (bstep HL3.out hb)
  have HD4 := Lib.hid (HD3.out.below hb)
  clear hb HL3 HD3
  go_wp2_with fail
  refine (awake01 _).mono ?_
  rintro e w3 ⟨rfl, hb⟩
  have HL5 := Lib.hid (bstep HL4.out hb)
  have HD5 := Lib.hid (HD4.out.below hb)
  clear hb HL4 HD4
  go_wp2
  go_ret
  exact ⟨rfl, HL5.out⟩

set_option maxRecDepth 100000 in
set_option maxHeartbeats 4000000 in
theorem quo_law (na nb ng nq nr nu nx : Bool) (sa sb sg sq sr su sx : ByteArray) (n0 : Int) (ha : sa.size ≤ maxLen) (hb0 : sb.size ≤ maxLen) (hgr : gr [(na, sa), (nb, sb)] = false) (e1 e2 e3 : Int) (w : World)
    (H1 : ∀ W, Calls Try.prog 20 #[.agg #[.bool nb, .string sb], .int .i64 n0] W fun e w' => e = .returned (.bool false) ∧ Below W.heap.size W w')
    (H2 : ∀ W, Calls Try.prog 21 #[.agg #[.bool na, .string sa], .agg #[.bool nb, .string sb]] W fun e w' => e = .returned (.tuple #[.agg #[.bool nq, .string sq], .agg #[.bool nr, .string sr], .int .i64 e1]) ∧ Below W.heap.size W w')
    (H3 : ∀ W, Calls Try.prog 22 #[.agg #[.bool na, .string sa], .agg #[.bool nb, .string sb]] W fun e w' => e = .returned (.tuple #[.agg #[.bool nq, .string sq], .agg #[.bool nr, .string sr], .int .i64 e1]) ∧ Below W.heap.size W w')
    (H4 : ∀ W, Calls Try.prog 23 #[.agg #[.bool na, .string sa], .int .i64 n0] W fun e w' => e = .returned (.tuple #[.agg #[.bool nx, .string sx], .int .i64 e2]) ∧ Below W.heap.size W w')
    (H5 : ∀ W, Calls Try.prog 24 #[.agg #[.bool na, .string sa], .int .i64 n0] W fun e w' => e = .returned (.tuple #[.agg #[.bool nx, .string sx], .int .i64 e2]) ∧ Below W.heap.size W w')
    (H6 : ∀ W, Calls Try.prog 25 #[.agg #[.bool nb, .string sb], .int .i64 n0] W fun e w' => e = .returned (.tuple #[.agg #[.bool nu, .string su], .int .i64 e3]) ∧ Below W.heap.size W w')
    (H7 : ∀ W, Calls Try.prog 26 #[.agg #[.bool nb, .string sb], .int .i64 n0] W fun e w' => e = .returned (.tuple #[.agg #[.bool nu, .string su], .int .i64 e3]) ∧ Below W.heap.size W w')
    (H8 : ∀ W, Calls Try.prog 27 #[.agg #[.bool na, .string sa], .agg #[.bool nb, .string sb]] W fun e w' => e = .returned (.agg #[.bool ng, .string sg]) ∧ Below W.heap.size W w')
    (H9 : ∀ W, Calls Try.prog 28 #[.agg #[.bool na, .string sa], .agg #[.bool nb, .string sb]] W fun e w' => e = .returned (.agg #[.bool ng, .string sg]) ∧ Below W.heap.size W w')
    : Calls Try.prog 4 #[.agg #[.bool na, .string sa], .agg #[.bool nb, .string sb], .int .i64 n0] w fun e w' => e = .returned (.bool true) ∧ Below w.heap.size w w' := by
  replace H1 := Lib.hid H1
  replace H2 := Lib.hid H2
  replace H3 := Lib.hid H3
  replace H4 := Lib.hid H4
  replace H5 := Lib.hid H5
  replace H6 := Lib.hid H6
  replace H7 := Lib.hid H7
  replace H8 := Lib.hid H8
  replace H9 := Lib.hid H9
  have HA := Lib.hid ha
  have HB := Lib.hid hb0
  clear ha hb0
  have qq : eqI nq sq nq sq = true := eqI_iff.mpr ⟨rfl, rfl⟩
  have qr : eqI nr sr nr sr = true := eqI_iff.mpr ⟨rfl, rfl⟩
  have qx : eqI nx sx nx sx = true := eqI_iff.mpr ⟨rfl, rfl⟩
  have qu : eqI nu su nu su = true := eqI_iff.mpr ⟨rfl, rfl⟩
  have qg : eqI ng sg ng sg = true := eqI_iff.mpr ⟨rfl, rfl⟩
  go_enter Try.func4, Try.ntmps4
  have HL0 := Lib.hid (Below.refl w.heap.size w)
  have HD0 := Lib.hid (Bxs.nil w)
  have HL1 := Lib.hid (HL0.out.alloc HL0.out.size (.cells #[.bool na, .string sa] 23))
  have HD1 := Lib.hid (HD0.out.push' (w.heap.size) na sa (by simp))
  clear HL0 HD0
  have HL2 := Lib.hid (HL1.out.alloc HL1.out.size (.cells #[.bool nb, .string sb] 23))
  have HD2 := Lib.hid (HD1.out.push' (w.heap.size + 1) nb sb (by simp))
  clear HL1 HD1
  obtain ⟨fx0, fy0⟩ := HD2.out.get (w.heap.size) na sa (by simp)
  obtain ⟨fx1, fy1⟩ := HD2.out.get (w.heap.size + 1) nb sb (by simp)
  go_wp2_with fail
  refine (great2 na sa nb sb _ (w.heap.size + 1 + 1) (by simp) HA.out HB.out).mono ?_
  rintro e w1 ⟨rfl, hb⟩
  have HL3 := Lib.hid (bstep HL2.out hb)
  have HD3 := Lib.hid (HD2.out.below hb)
  clear hb HL2 HD2
  obtain ⟨fx1, fy1⟩ := HD3.out.get (w.heap.size + 1) nb sb (by simp)
  go_wp2_with fail
  refine (H1.out _).mono ?_
  rintro e w2 ⟨rfl, hb⟩
  have HL4 := Lib.hid (bstep HL3.out hb)
  have HD4 := Lib.hid (HD3.out.below hb)
  clear hb HL3 HD3
  obtain ⟨fx0, fy0⟩ := HD4.out.get (w.heap.size) na sa (by simp)
  obtain ⟨fx1, fy1⟩ := HD4.out.get (w.heap.size + 1) nb sb (by simp)
  go_wp2_with fail
  refine (H2.out _).mono ?_
  rintro e w3 ⟨rfl, hb⟩
  have HL5 := Lib.hid (bstep HL4.out hb)
  have HD5 := Lib.hid (HD4.out.below hb)
  clear hb HL4 HD4
  have HL6 := Lib.hid (HL5.out.alloc HL5.out.size (.cells #[.bool nq, .string sq] 23))
  have HD6 := Lib.hid (HD5.out.push' (w3.heap.size) nq sq (by simp))
  clear HL5 HD5
  have HL7 := Lib.hid (HL6.out.alloc HL6.out.size (.cells #[.bool nr, .string sr] 23))
  have HD7 := Lib.hid (HD6.out.push' (w3.heap.size + 1) nr sr (by simp))
  clear HL6 HD6
  obtain ⟨fx0, fy0⟩ := HD7.out.get (w.heap.size) na sa (by simp)
  obtain ⟨fx1, fy1⟩ := HD7.out.get (w.heap.size + 1) nb sb (by simp)
  go_wp2_with fail
  refine (H3.out _).mono ?_
  rintro e w4 ⟨rfl, hb⟩
  have HL8 := Lib.hid (bstep HL7.out hb)
  have HD8 := Lib.hid (HD7.out.below hb)
  clear hb HL7 HD7
  have HL9 := Lib.hid (HL8.out.alloc HL8.out.size (.cells #[.bool nq, .string sq] 23))
  have HD9 := Lib.hid (HD8.out.push' (w4.heap.size) nq sq (by simp))
  clear HL8 HD8
  have HL10 := Lib.hid (HL9.out.alloc HL9.out.size (.cells #[.bool nr, .string sr] 23))
  have HD10 := Lib.hid (HD9.out.push' (w4.heap.size + 1) nr sr (by simp))
  clear HL9 HD9
  obtain ⟨fx0, fy0⟩ := HD10.out.get (w.heap.size) na sa (by simp)
  go_wp2_with fail
  refine (H4.out _).mono ?_
  rintro e w5 ⟨rfl, hb⟩
  have HL11 := Lib.hid (bstep HL10.out hb)
  have HD11 := Lib.hid (HD10.out.below hb)
  clear hb HL10 HD10
  have HL12 := Lib.hid (HL11.out.alloc HL11.out.size (.cells #[.bool nx, .string sx] 23))
  have HD12 := Lib.hid (HD11.out.push' (w5.heap.size) nx sx (by simp))
  clear HL11 HD11
  obtain ⟨fx0, fy0⟩ := HD12.out.get (w.heap.size) na sa (by simp)
  go_wp2_with fail
  refine (H5.out _).mono ?_
  rintro e w6 ⟨rfl, hb⟩
  have HL13 := Lib.hid (bstep HL12.out hb)
  have HD13 := Lib.hid (HD12.out.below hb)
  clear hb HL12 HD12
  have HL14 := Lib.hid (HL13.out.alloc HL13.out.size (.cells #[.bool nx, .string sx] 23))
  have HD14 := Lib.hid (HD13.out.push' (w6.heap.size) nx sx (by simp))
  clear HL13 HD13
  obtain ⟨fx1, fy1⟩ := HD14.out.get (w.heap.size + 1) nb sb (by simp)
  go_wp2_with fail
  refine (H6.out _).mono ?_
  rintro e w7 ⟨rfl, hb⟩
  have HL15 := Lib.hid (bstep HL14.out hb)
  have HD15 := Lib.hid (HD14.out.below hb)
  clear hb HL14 HD14
  have HL16 := Lib.hid (HL15.out.alloc HL15.out.size (.cells #[.bool nu, .string su] 23))
  have HD16 := Lib.hid (HD15.out.push' (w7.heap.size) nu su (by simp))
  clear HL15 HD15
  obtain ⟨fx1, fy1⟩ := HD16.out.get (w.heap.size + 1) nb sb (by simp)
  go_wp2_with fail
  refine (H7.out _).mono ?_
  rintro e w8 ⟨rfl, hb⟩
  have HL17 := Lib.hid (bstep HL16.out hb)
  have HD17 := Lib.hid (HD16.out.below hb)
  clear hb HL16 HD16
  have HL18 := Lib.hid (HL17.out.alloc HL17.out.size (.cells #[.bool nu, .string su] 23))
  have HD18 := Lib.hid (HD17.out.push' (w8.heap.size) nu su (by simp))
  clear HL17 HD17
  go_wp2_with fail
  obtain ⟨Bw3, hB⟩ : ∃ B, w3.heap.size = B := ⟨_, rfl⟩
  rw [hB] at HD18 ⊢
  clear hB
  obtain ⟨Bw4, hB⟩ : ∃ B, w4.heap.size = B := ⟨_, rfl⟩
  rw [hB] at HD18 ⊢
  clear hB
  obtain ⟨Bw5, hB⟩ : ∃ B, w5.heap.size = B := ⟨_, rfl⟩
  rw [hB] at HD18 ⊢
  clear hB
  obtain ⟨Bw6, hB⟩ : ∃ B, w6.heap.size = B := ⟨_, rfl⟩
  rw [hB] at HD18 ⊢
  clear hB
  obtain ⟨Bw7, hB⟩ : ∃ B, w7.heap.size = B := ⟨_, rfl⟩
  rw [hB] at HD18 ⊢
  clear hB
  obtain ⟨Bw8, hB⟩ : ∃ B, w8.heap.size = B := ⟨_, rfl⟩
  rw [hB] at HD18 ⊢
  clear hB
  obtain ⟨W9, hW⟩ : ∃ W, (w8.alloc (.cells #[.bool nu, .string su] 23)) = W := ⟨_, rfl⟩
  rw [hW] at HD18 HL18 ⊢
  clear hW
  haveI := cls_some W9
  have fq2 : ∀ u : Cl W9, u.x.cell? ⟨Bw3, 0, none⟩ = some (.bool nq) := fun u => ((HD18.out.below u.h).get (Bw3) nq sq (by simp)).1
  have fr2 : ∀ u : Cl W9, u.x.cell? ⟨Bw3, 1, none⟩ = some (.string sq) := fun u => ((HD18.out.below u.h).get (Bw3) nq sq (by simp)).2
  have fq4 : ∀ u : Cl W9, u.x.cell? ⟨Bw4, 0, none⟩ = some (.bool nq) := fun u => ((HD18.out.below u.h).get (Bw4) nq sq (by simp)).1
  have fr4 : ∀ u : Cl W9, u.x.cell? ⟨Bw4, 1, none⟩ = some (.string sq) := fun u => ((HD18.out.below u.h).get (Bw4) nq sq (by simp)).2
  have fq3 : ∀ u : Cl W9, u.x.cell? ⟨Bw3 + 1, 0, none⟩ = some (.bool nr) := fun u => ((HD18.out.below u.h).get (Bw3 + 1) nr sr (by simp)).1
  have fr3 : ∀ u : Cl W9, u.x.cell? ⟨Bw3 + 1, 1, none⟩ = some (.string sr) := fun u => ((HD18.out.below u.h).get (Bw3 + 1) nr sr (by simp)).2
  have fq5 : ∀ u : Cl W9, u.x.cell? ⟨Bw4 + 1, 0, none⟩ = some (.bool nr) := fun u => ((HD18.out.below u.h).get (Bw4 + 1) nr sr (by simp)).1
  have fr5 : ∀ u : Cl W9, u.x.cell? ⟨Bw4 + 1, 1, none⟩ = some (.string sr) := fun u => ((HD18.out.below u.h).get (Bw4 + 1) nr sr (by simp)).2
  have fq0 : ∀ u : Cl W9, u.x.cell? ⟨w.heap.size, 0, none⟩ = some (.bool na) := fun u => ((HD18.out.below u.h).get (w.heap.size) na sa (by simp)).1
  have fr0 : ∀ u : Cl W9, u.x.cell? ⟨w.heap.size, 1, none⟩ = some (.string sa) := fun u => ((HD18.out.below u.h).get (w.heap.size) na sa (by simp)).2
  have fq1 : ∀ u : Cl W9, u.x.cell? ⟨w.heap.size + 1, 0, none⟩ = some (.bool nb) := fun u => ((HD18.out.below u.h).get (w.heap.size + 1) nb sb (by simp)).1
  have fr1 : ∀ u : Cl W9, u.x.cell? ⟨w.heap.size + 1, 1, none⟩ = some (.string sb) := fun u => ((HD18.out.below u.h).get (w.heap.size + 1) nb sb (by simp)).2
  have fq6 : ∀ u : Cl W9, u.x.cell? ⟨Bw5, 0, none⟩ = some (.bool nx) := fun u => ((HD18.out.below u.h).get (Bw5) nx sx (by simp)).1
  have fr6 : ∀ u : Cl W9, u.x.cell? ⟨Bw5, 1, none⟩ = some (.string sx) := fun u => ((HD18.out.below u.h).get (Bw5) nx sx (by simp)).2
  have fq7 : ∀ u : Cl W9, u.x.cell? ⟨Bw6, 0, none⟩ = some (.bool nx) := fun u => ((HD18.out.below u.h).get (Bw6) nx sx (by simp)).1
  have fr7 : ∀ u : Cl W9, u.x.cell? ⟨Bw6, 1, none⟩ = some (.string sx) := fun u => ((HD18.out.below u.h).get (Bw6) nx sx (by simp)).2
  have fq8 : ∀ u : Cl W9, u.x.cell? ⟨Bw7, 0, none⟩ = some (.bool nu) := fun u => ((HD18.out.below u.h).get (Bw7) nu su (by simp)).1
  have fr8 : ∀ u : Cl W9, u.x.cell? ⟨Bw7, 1, none⟩ = some (.string su) := fun u => ((HD18.out.below u.h).get (Bw7) nu su (by simp)).2
  have fq9 : ∀ u : Cl W9, u.x.cell? ⟨Bw8, 0, none⟩ = some (.bool nu) := fun u => ((HD18.out.below u.h).get (Bw8) nu su (by simp)).1
  have fr9 : ∀ u : Cl W9, u.x.cell? ⟨Bw8, 1, none⟩ = some (.string su) := fun u => ((HD18.out.below u.h).get (Bw8) nu su (by simp)).2
  refine wp_region_cls (by kernel_rfl) ?_
  iterate 16 (go_big_quiet_step (fail))
  go_big_quiet_step ((go_at_call 27; exact quiet_cls H8.out _))
  iterate 2 (go_big_quiet_step (fail))
  go_big_quiet_step ((go_at_call 28; exact quiet_cls H9.out _))
  iterate 23 (go_big_quiet_step (fail))
  go_big_quiet_step ((go_at_call 13; exact quiet_cls awake01 _))
  iterate 2 (go_big_quiet_step (fail))
  refine wpQuiet_nil ?_
  intro w10 hw9
  have hB : Below W9.heap.size W9 w10 := by obtain ⟨u, rfl⟩ := hw9; exact u.h
  clear hw9 fq2 fr2 fq4 fr4 fq3 fr3 fq5 fr5 fq0 fr0 fq1 fr1 fq6 fr6 fq7 fr7 fq8 fr8 fq9 fr9
  have HL19 := Lib.hid (bstep HL18.out hB)
  have HD19 := Lib.hid (HD18.out.below hB)
  clear hB HL18 HD18
  go_wp2
  go_ret
  exact ⟨rfl, HL19.out⟩

end Go.Proofs.Gv
