/- The law IntegerDivisors, walked. -/
import Derived.Test.YtpnhccpfbeidlaaLawKit
namespace Go.Proofs.Gv
open Go Go.RowKit

set_option maxRecDepth 100000 in
set_option maxHeartbeats 4000000 in
theorem divisors_great (na nb nc : Bool) (sa sb sc : ByteArray) (ha : sa.size ≤ maxLen) (hb0 : sb.size ≤ maxLen) (hc0 : sc.size ≤ maxLen) (hgr : gr [(na, sa), (nb, sb), (nc, sc)] = true) (w : World)
    : Calls Try.prog 9 #[.agg #[.bool na, .string sa], .agg #[.bool nb, .string sb], .agg #[.bool nc, .string sc]] w fun e w' => e = .returned (.bool true) ∧ Below w.heap.size w w' := by
  have HA := Lib.hid ha
  have HB := Lib.hid hb0
  have HC := Lib.hid hc0
  clear ha hb0 hc0
  have q9 : eqI false ⟨#[]⟩ false ⟨#[]⟩ = true := eqI_iff.mpr ⟨rfl, rfl⟩
  go_enter Try.func9, Try.ntmps9
  have HL0 := Lib.hid (Below.refl w.heap.size w)
  have HD0 := Lib.hid (Bxs.nil w)
  have HL1 := Lib.hid (HL0.out.alloc HL0.out.size (.cells #[.bool na, .string sa] 23))
  have HD1 := Lib.hid (HD0.out.push' (w.heap.size) na sa (by simp))
  clear HL0 HD0
  have HL2 := Lib.hid (HL1.out.alloc HL1.out.size (.cells #[.bool nb, .string sb] 23))
  have HD2 := Lib.hid (HD1.out.push' (w.heap.size + 1) nb sb (by simp))
  clear HL1 HD1
  have HL3 := Lib.hid (HL2.out.alloc HL2.out.size (.cells #[.bool nc, .string sc] 23))
  have HD3 := Lib.hid (HD2.out.push' (w.heap.size + 1 + 1) nc sc (by simp))
  clear HL2 HD2
  obtain ⟨fx0, fy0⟩ := HD3.out.get (w.heap.size) na sa (by simp)
  obtain ⟨fx1, fy1⟩ := HD3.out.get (w.heap.size + 1) nb sb (by simp)
  obtain ⟨fx2, fy2⟩ := HD3.out.get (w.heap.size + 1 + 1) nc sc (by simp)
  go_wp2_with fail
  refine (great3 na sa nb sb nc sc _ (w.heap.size + 1 + 1 + 1) (by simp) HA.out HB.out HC.out).mono ?_
  rintro e w1 ⟨rfl, hb⟩
  have HL4 := Lib.hid (bstep HL3.out hb)
  have HD4 := Lib.hid (HD3.out.below hb)
  clear hb HL3 HD3
  go_wp2_with fail
  refine (awake01 _).mono ?_
  rintro e w2 ⟨rfl, hb⟩
  have HL5 := Lib.hid (bstep HL4.out hb)
  have HD5 := Lib.hid (HD4.out.below hb)
  clear hb HL4 HD4
  go_wp2
  go_ret
  exact ⟨rfl, HL5.out⟩

set_option maxRecDepth 100000 in
set_option maxHeartbeats 4000000 in
theorem divisors_zero_neg (na nac nb nbc nc nh nz : Bool) (sa sac sb sbc sc sh sz : ByteArray) (ha : sa.size ≤ maxLen) (hb0 : sb.size ≤ maxLen) (hc0 : sc.size ≤ maxLen) (hgr : gr [(na, sa), (nb, sb), (nc, sc)] = false) (c1 : Int) (t1 : decide (c1 < 0) = true) (w : World)
    (H1 : ∀ W, Calls Try.prog 27 #[.agg #[.bool na, .string sa], .agg #[.bool nb, .string sb]] W fun e w' => e = .returned (.agg #[.bool false, .string ⟨#[]⟩]) ∧ Below W.heap.size W w')
    (H2 : ∀ W, Calls Try.prog 29 #[.agg #[.bool nc, .string sc], .agg #[.bool false, .string ⟨#[]⟩]] W fun e w' => e = .returned (.int .i64 c1) ∧ Below W.heap.size W w')
    (H3 : ∀ W, Calls Try.prog 30 #[.agg #[.bool nc, .string sc]] W fun e w' => e = .returned (.agg #[.bool nz, .string sz]) ∧ Below W.heap.size W w')
    (H4 : ∀ W, Calls Try.prog 27 #[.agg #[.bool nb, .string sb], .agg #[.bool na, .string sa]] W fun e w' => e = .returned (.agg #[.bool false, .string ⟨#[]⟩]) ∧ Below W.heap.size W w')
    (H5 : ∀ W, Calls Try.prog 18 #[.agg #[.bool na, .string sa], .agg #[.bool nc, .string sc]] W fun e w' => e = .returned (.agg #[.bool nac, .string sac]) ∧ Below W.heap.size W w')
    (H6 : ∀ W, Calls Try.prog 18 #[.agg #[.bool nb, .string sb], .agg #[.bool nc, .string sc]] W fun e w' => e = .returned (.agg #[.bool nbc, .string sbc]) ∧ Below W.heap.size W w')
    (H7 : ∀ W, Calls Try.prog 27 #[.agg #[.bool nac, .string sac], .agg #[.bool nbc, .string sbc]] W fun e w' => e = .returned (.agg #[.bool nh, .string sh]) ∧ Below W.heap.size W w')
    (H8 : ∀ W, Calls Try.prog 18 #[.agg #[.bool false, .string ⟨#[]⟩], .agg #[.bool nz, .string sz]] W fun e w' => e = .returned (.agg #[.bool nh, .string sh]) ∧ Below W.heap.size W w')
    (H9 : ∀ W, Calls Try.prog 29 #[.agg #[.bool na, .string sa], .agg #[.bool false, .string ⟨#[]⟩]] W fun e w' => e = .returned (.int .i64 0) ∧ Below W.heap.size W w')
    (H10 : ∀ W, Calls Try.prog 29 #[.agg #[.bool nb, .string sb], .agg #[.bool false, .string ⟨#[]⟩]] W fun e w' => e = .returned (.int .i64 0) ∧ Below W.heap.size W w')
    : Calls Try.prog 9 #[.agg #[.bool na, .string sa], .agg #[.bool nb, .string sb], .agg #[.bool nc, .string sc]] w fun e w' => e = .returned (.bool true) ∧ Below w.heap.size w w' := by
  replace H1 := Lib.hid H1
  replace H2 := Lib.hid H2
  replace H3 := Lib.hid H3
  replace H4 := Lib.hid H4
  replace H5 := Lib.hid H5
  replace H6 := Lib.hid H6
  replace H7 := Lib.hid H7
  replace H8 := Lib.hid H8
  replace H9 := Lib.hid H9
  replace H10 := Lib.hid H10
  have HA := Lib.hid ha
  have HB := Lib.hid hb0
  have HC := Lib.hid hc0
  clear ha hb0 hc0
  have q9 : eqI false ⟨#[]⟩ false ⟨#[]⟩ = true := eqI_iff.mpr ⟨rfl, rfl⟩
  have q1 : eqI nh sh nh sh = true := eqI_iff.mpr ⟨rfl, rfl⟩
  go_enter Try.func9, Try.ntmps9
  have HL0 := Lib.hid (Below.refl w.heap.size w)
  have HD0 := Lib.hid (Bxs.nil w)
  have HL1 := Lib.hid (HL0.out.alloc HL0.out.size (.cells #[.bool na, .string sa] 23))
  have HD1 := Lib.hid (HD0.out.push' (w.heap.size) na sa (by simp))
  clear HL0 HD0
  have HL2 := Lib.hid (HL1.out.alloc HL1.out.size (.cells #[.bool nb, .string sb] 23))
  have HD2 := Lib.hid (HD1.out.push' (w.heap.size + 1) nb sb (by simp))
  clear HL1 HD1
  have HL3 := Lib.hid (HL2.out.alloc HL2.out.size (.cells #[.bool nc, .string sc] 23))
  have HD3 := Lib.hid (HD2.out.push' (w.heap.size + 1 + 1) nc sc (by simp))
  clear HL2 HD2
  obtain ⟨fx0, fy0⟩ := HD3.out.get (w.heap.size) na sa (by simp)
  obtain ⟨fx1, fy1⟩ := HD3.out.get (w.heap.size + 1) nb sb (by simp)
  obtain ⟨fx2, fy2⟩ := HD3.out.get (w.heap.size + 1 + 1) nc sc (by simp)
  go_wp2_with fail
  refine (great3 na sa nb sb nc sc _ (w.heap.size + 1 + 1 + 1) (by simp) HA.out HB.out HC.out).mono ?_
  rintro e w1 ⟨rfl, hb⟩
  have HL4 := Lib.hid (bstep HL3.out hb)
  have HD4 := Lib.hid (HD3.out.below hb)
  clear hb HL3 HD3
  have HL5 := Lib.hid (HL4.out.alloc HL4.out.size (.cells #[.bool false, .string ⟨#[]⟩] 23))
  have HD5 := Lib.hid (HD4.out.push' (w1.heap.size) false ⟨#[]⟩ (by simp))
  clear HL4 HD4
  obtain ⟨fx0, fy0⟩ := HD5.out.get (w.heap.size) na sa (by simp)
  obtain ⟨fx1, fy1⟩ := HD5.out.get (w.heap.size + 1) nb sb (by simp)
  go_wp2_with fail
  refine (H1.out _).mono ?_
  rintro e w2 ⟨rfl, hb⟩
  have HL6 := Lib.hid (bstep HL5.out hb)
  have HD6 := Lib.hid (HD5.out.below hb)
  clear hb HL5 HD5
  have HL7 := Lib.hid (HL6.out.alloc HL6.out.size (.cells #[.bool false, .string ⟨#[]⟩] 23))
  have HD7 := Lib.hid (HD6.out.push' (w2.heap.size) false ⟨#[]⟩ (by simp))
  clear HL6 HD6
  obtain ⟨fx2, fy2⟩ := HD7.out.get (w.heap.size + 1 + 1) nc sc (by simp)
  have hne3_9 : w.heap.size < w2.heap.size + 1 := by have := (HD7.out (w.heap.size, na, sa) (by simp)).lt; first | exact this | (simp at this; omega)
  have hne4_9 : w.heap.size + 1 < w2.heap.size + 1 := by have := (HD7.out (w.heap.size + 1, nb, sb) (by simp)).lt; first | exact this | (simp at this; omega)
  have hne5_9 : w.heap.size + 1 + 1 < w2.heap.size + 1 := by have := (HD7.out (w.heap.size + 1 + 1, nc, sc) (by simp)).lt; first | exact this | (simp at this; omega)
  have hne7_9 : w1.heap.size < w2.heap.size + 1 := by have := (HD7.out (w1.heap.size, false, ⟨#[]⟩) (by simp)).lt; first | exact this | (simp at this; omega)
  have hne8_9 : w2.heap.size < w2.heap.size + 1 := by have := (HD7.out (w2.heap.size, false, ⟨#[]⟩) (by simp)).lt; first | exact this | (simp at this; omega)
  have HL8 := Lib.hid (HL7.out.alloc HL7.out.size (.cells #[.bool nc, .string sc] 23))
  have HD8 := Lib.hid (HD7.out.push' (w2.heap.size + 1) nc sc (by simp))
  clear HL7 HD7
  obtain ⟨fx2, fy2⟩ := HD8.out.get (w.heap.size + 1 + 1) nc sc (by simp)
  obtain ⟨fx3, fy3⟩ := HD8.out.get (w1.heap.size) false ⟨#[]⟩ (by simp)
  go_wp2_with fail
  refine (H2.out _).mono ?_
  rintro e w3 ⟨rfl, hb⟩
  have HL9 := Lib.hid (bstep HL8.out hb)
  have HD9 := Lib.hid (HD8.out.below hb)
  clear hb HL8 HD8
  obtain ⟨fx2, fy2⟩ := HD9.out.get (w.heap.size + 1 + 1) nc sc (by simp)
  go_wp2_with fail
  refine (H3.out _).mono ?_
  rintro e w4 ⟨rfl, hb⟩
  have HL10 := Lib.hid (bstep HL9.out hb)
  have HD10 := Lib.hid (HD9.out.below hb)
  clear hb HL9 HD9
  obtain ⟨fx5, fy5, fz5, ft5, _⟩ := HD10.out (w2.heap.size + 1, nc, sc) (by simp)
  have HL11 := Lib.hid ((HL10.out.setCell (p := ⟨w2.heap.size + 1, 0, none⟩) (by have := HL10.out.size; first | omega | (simp; omega)) (.bool nz)).setCell (p := ⟨w2.heap.size + 1, 1, none⟩) (by have := HL10.out.size; first | omega | (simp; omega)) (.string sz))
  have HD11 := Lib.hid (Bxs.cons (Bxs.cons (Bxs.cons (Bxs.cons (Bxs.cons (Bxs.cons (Bxs.nil ((w4.setCell ⟨w2.heap.size + 1, 0, none⟩ (.bool nz)).setCell ⟨w2.heap.size + 1, 1, none⟩ (.string sz))) ((HD10.out (w.heap.size, na, sa) (by simp)).other (by omega))) ((HD10.out (w.heap.size + 1, nb, sb) (by simp)).other (by omega))) ((HD10.out (w.heap.size + 1 + 1, nc, sc) (by simp)).other (by omega))) ((HD10.out (w1.heap.size, false, ⟨#[]⟩) (by simp)).other (by omega))) ((HD10.out (w2.heap.size, false, ⟨#[]⟩) (by simp)).other (by omega))) ((HD10.out (w2.heap.size + 1, nc, sc) (by simp)).set))
  clear HL10 HD10
  go_wp2_with fail
  obtain ⟨Bw1, hB⟩ : ∃ B, w1.heap.size = B := ⟨_, rfl⟩
  rw [hB] at HD11 ⊢
  try rw [hB] at hne3_9
  try rw [hB] at hne4_9
  try rw [hB] at hne5_9
  try rw [hB] at hne7_9
  try rw [hB] at hne8_9
  clear hB
  obtain ⟨Bw2, hB⟩ : ∃ B, w2.heap.size = B := ⟨_, rfl⟩
  rw [hB] at HD11 ⊢
  rw [hB] at HL11
  try rw [hB] at hne3_9
  try rw [hB] at hne4_9
  try rw [hB] at hne5_9
  try rw [hB] at hne7_9
  try rw [hB] at hne8_9
  clear hB
  obtain ⟨W5, hW⟩ : ∃ W, ((w4.setCell ⟨Bw2 + 1, 0, none⟩ (.bool nz)).setCell ⟨Bw2 + 1, 1, none⟩ (.string sz)) = W := ⟨_, rfl⟩
  rw [hW] at HD11 HL11 ⊢
  clear hW
  haveI := cls_some W5
  have fq4 : ∀ u : Cl W5, u.x.cell? ⟨Bw2, 0, none⟩ = some (.bool false) := fun u => ((HD11.out.below u.h).get (Bw2) false ⟨#[]⟩ (by simp)).1
  have fr4 : ∀ u : Cl W5, u.x.cell? ⟨Bw2, 1, none⟩ = some (.string ⟨#[]⟩) := fun u => ((HD11.out.below u.h).get (Bw2) false ⟨#[]⟩ (by simp)).2
  have fq1 : ∀ u : Cl W5, u.x.cell? ⟨w.heap.size + 1, 0, none⟩ = some (.bool nb) := fun u => ((HD11.out.below u.h).get (w.heap.size + 1) nb sb (by simp)).1
  have fr1 : ∀ u : Cl W5, u.x.cell? ⟨w.heap.size + 1, 1, none⟩ = some (.string sb) := fun u => ((HD11.out.below u.h).get (w.heap.size + 1) nb sb (by simp)).2
  have fq0 : ∀ u : Cl W5, u.x.cell? ⟨w.heap.size, 0, none⟩ = some (.bool na) := fun u => ((HD11.out.below u.h).get (w.heap.size) na sa (by simp)).1
  have fr0 : ∀ u : Cl W5, u.x.cell? ⟨w.heap.size, 1, none⟩ = some (.string sa) := fun u => ((HD11.out.below u.h).get (w.heap.size) na sa (by simp)).2
  have fq2 : ∀ u : Cl W5, u.x.cell? ⟨w.heap.size + 1 + 1, 0, none⟩ = some (.bool nc) := fun u => ((HD11.out.below u.h).get (w.heap.size + 1 + 1) nc sc (by simp)).1
  have fr2 : ∀ u : Cl W5, u.x.cell? ⟨w.heap.size + 1 + 1, 1, none⟩ = some (.string sc) := fun u => ((HD11.out.below u.h).get (w.heap.size + 1 + 1) nc sc (by simp)).2
  have fq5 : ∀ u : Cl W5, u.x.cell? ⟨Bw2 + 1, 0, none⟩ = some (.bool nz) := fun u => ((HD11.out.below u.h).get (Bw2 + 1) nz sz (by simp)).1
  have fr5 : ∀ u : Cl W5, u.x.cell? ⟨Bw2 + 1, 1, none⟩ = some (.string sz) := fun u => ((HD11.out.below u.h).get (Bw2 + 1) nz sz (by simp)).2
  refine wp_region_cls (by kernel_rfl) ?_
  iterate 5 (go_big_quiet_step (fail))
  go_big_quiet_step ((go_at_call 27; exact quiet_cls H4.out _))
  iterate 6 (go_big_quiet_step (fail))
  go_big_quiet_step ((go_at_call 18; exact quiet_cls H5.out _))
  iterate 2 (go_big_quiet_step (fail))
  go_big_quiet_step ((go_at_call 18; exact quiet_cls H6.out _))
  go_big_quiet_step ((go_at_call 27; exact quiet_cls H7.out _))
  iterate 2 (go_big_quiet_step (fail))
  go_big_quiet_step ((go_at_call 18; exact quiet_cls H8.out _))
  iterate 2 (go_big_quiet_step (fail))
  refine wpQuiet_nil ?_
  intro w6 hw9
  have hB : Below W5.heap.size W5 w6 := by obtain ⟨u, rfl⟩ := hw9; exact u.h
  clear hw9 fq4 fr4 fq1 fr1 fq0 fr0 fq2 fr2 fq5 fr5
  have HL12 := Lib.hid (bstep HL11.out hB)
  have HD12 := Lib.hid (HD11.out.below hB)
  clear hB HL11 HD11
  obtain ⟨fx4, fy4⟩ := HD12.out.get (Bw2) false ⟨#[]⟩ (by simp)
  obtain ⟨fx3, fy3⟩ := HD12.out.get (Bw1) false ⟨#[]⟩ (by simp)
  obtain ⟨fx0, fy0⟩ := HD12.out.get (w.heap.size) na sa (by simp)
  obtain ⟨fx3, fy3⟩ := HD12.out.get (Bw1) false ⟨#[]⟩ (by simp)
  go_wp2_with fail
  refine (H9.out _).mono ?_
  rintro e w7 ⟨rfl, hb⟩
  have HL13 := Lib.hid (bstep HL12.out hb)
  have HD13 := Lib.hid (HD12.out.below hb)
  clear hb HL12 HD12
  obtain ⟨fx1, fy1⟩ := HD13.out.get (w.heap.size + 1) nb sb (by simp)
  obtain ⟨fx3, fy3⟩ := HD13.out.get (Bw1) false ⟨#[]⟩ (by simp)
  go_wp2_with fail
  refine (H10.out _).mono ?_
  rintro e w8 ⟨rfl, hb⟩
  have HL14 := Lib.hid (bstep HL13.out hb)
  have HD14 := Lib.hid (HD13.out.below hb)
  clear hb HL13 HD13
  go_wp2_with fail
  refine (awake01 _).mono ?_
  rintro e w9 ⟨rfl, hb⟩
  have HL15 := Lib.hid (bstep HL14.out hb)
  have HD15 := Lib.hid (HD14.out.below hb)
  clear hb HL14 HD14
  go_wp2
  go_ret
  exact ⟨rfl, HL15.out⟩

set_option maxRecDepth 100000 in
set_option maxHeartbeats 4000000 in
theorem divisors_main_neg (na nac nb nbc nc nh np nq nz : Bool) (sa sac sb sbc sc sh sp sq sz : ByteArray) (ha : sa.size ≤ maxLen) (hb0 : sb.size ≤ maxLen) (hc0 : sc.size ≤ maxLen) (hgr : gr [(na, sa), (nb, sb), (nc, sc)] = false) (c1 : Int) (t1 : decide (c1 < 0) = true) (gs os : ByteArray) (hz : eqI false gs false ⟨#[]⟩ = false) (w : World)
    (H1 : ∀ W, Calls Try.prog 27 #[.agg #[.bool na, .string sa], .agg #[.bool nb, .string sb]] W fun e w' => e = .returned (.agg #[.bool false, .string gs]) ∧ Below W.heap.size W w')
    (H2 : ∀ W, Calls Try.prog 29 #[.agg #[.bool nc, .string sc], .agg #[.bool false, .string ⟨#[]⟩]] W fun e w' => e = .returned (.int .i64 c1) ∧ Below W.heap.size W w')
    (H3 : ∀ W, Calls Try.prog 30 #[.agg #[.bool nc, .string sc]] W fun e w' => e = .returned (.agg #[.bool nz, .string sz]) ∧ Below W.heap.size W w')
    (H4 : ∀ W, Calls Try.prog 27 #[.agg #[.bool nb, .string sb], .agg #[.bool na, .string sa]] W fun e w' => e = .returned (.agg #[.bool false, .string gs]) ∧ Below W.heap.size W w')
    (H5 : ∀ W, Calls Try.prog 18 #[.agg #[.bool na, .string sa], .agg #[.bool nc, .string sc]] W fun e w' => e = .returned (.agg #[.bool nac, .string sac]) ∧ Below W.heap.size W w')
    (H6 : ∀ W, Calls Try.prog 18 #[.agg #[.bool nb, .string sb], .agg #[.bool nc, .string sc]] W fun e w' => e = .returned (.agg #[.bool nbc, .string sbc]) ∧ Below W.heap.size W w')
    (H7 : ∀ W, Calls Try.prog 27 #[.agg #[.bool nac, .string sac], .agg #[.bool nbc, .string sbc]] W fun e w' => e = .returned (.agg #[.bool nh, .string sh]) ∧ Below W.heap.size W w')
    (H8 : ∀ W, Calls Try.prog 18 #[.agg #[.bool false, .string gs], .agg #[.bool nz, .string sz]] W fun e w' => e = .returned (.agg #[.bool nh, .string sh]) ∧ Below W.heap.size W w')
    (H9 : ∀ W, Calls Try.prog 21 #[.agg #[.bool na, .string sa], .agg #[.bool false, .string gs]] W fun e w' => e = .returned (.tuple #[.agg #[.bool np, .string sp], .agg #[.bool false, .string ⟨#[]⟩], .int .i64 0]) ∧ Below W.heap.size W w')
    (H10 : ∀ W, Calls Try.prog 21 #[.agg #[.bool nb, .string sb], .agg #[.bool false, .string gs]] W fun e w' => e = .returned (.tuple #[.agg #[.bool nq, .string sq], .agg #[.bool false, .string ⟨#[]⟩], .int .i64 0]) ∧ Below W.heap.size W w')
    (H11 : ∀ W, Calls Try.prog 27 #[.agg #[.bool np, .string sp], .agg #[.bool nq, .string sq]] W fun e w' => e = .returned (.agg #[.bool false, .string os]) ∧ Below W.heap.size W w')
    (H12 : ∀ W, Calls Try.prog 31 #[.int .i64 1] W fun e w' => e = .returned (.agg #[.bool false, .string os]) ∧ Below W.heap.size W w')
    : Calls Try.prog 9 #[.agg #[.bool na, .string sa], .agg #[.bool nb, .string sb], .agg #[.bool nc, .string sc]] w fun e w' => e = .returned (.bool true) ∧ Below w.heap.size w w' := by
  replace H1 := Lib.hid H1
  replace H2 := Lib.hid H2
  replace H3 := Lib.hid H3
  replace H4 := Lib.hid H4
  replace H5 := Lib.hid H5
  replace H6 := Lib.hid H6
  replace H7 := Lib.hid H7
  replace H8 := Lib.hid H8
  replace H9 := Lib.hid H9
  replace H10 := Lib.hid H10
  replace H11 := Lib.hid H11
  replace H12 := Lib.hid H12
  have HA := Lib.hid ha
  have HB := Lib.hid hb0
  have HC := Lib.hid hc0
  clear ha hb0 hc0
  have q9 : eqI false ⟨#[]⟩ false ⟨#[]⟩ = true := eqI_iff.mpr ⟨rfl, rfl⟩
  have q1 : eqI nh sh nh sh = true := eqI_iff.mpr ⟨rfl, rfl⟩
  have q2 : eqI false gs false gs = true := eqI_iff.mpr ⟨rfl, rfl⟩
  have q3 : eqI false os false os = true := eqI_iff.mpr ⟨rfl, rfl⟩
  go_enter Try.func9, Try.ntmps9
  have HL0 := Lib.hid (Below.refl w.heap.size w)
  have HD0 := Lib.hid (Bxs.nil w)
  have HL1 := Lib.hid (HL0.out.alloc HL0.out.size (.cells #[.bool na, .string sa] 23))
  have HD1 := Lib.hid (HD0.out.push' (w.heap.size) na sa (by simp))
  clear HL0 HD0
  have HL2 := Lib.hid (HL1.out.alloc HL1.out.size (.cells #[.bool nb, .string sb] 23))
  have HD2 := Lib.hid (HD1.out.push' (w.heap.size + 1) nb sb (by simp))
  clear HL1 HD1
  have HL3 := Lib.hid (HL2.out.alloc HL2.out.size (.cells #[.bool nc, .string sc] 23))
  have HD3 := Lib.hid (HD2.out.push' (w.heap.size + 1 + 1) nc sc (by simp))
  clear HL2 HD2
  obtain ⟨fx0, fy0⟩ := HD3.out.get (w.heap.size) na sa (by simp)
  obtain ⟨fx1, fy1⟩ := HD3.out.get (w.heap.size + 1) nb sb (by simp)
  obtain ⟨fx2, fy2⟩ := HD3.out.get (w.heap.size + 1 + 1) nc sc (by simp)
  go_wp2_with fail
  refine (great3 na sa nb sb nc sc _ (w.heap.size + 1 + 1 + 1) (by simp) HA.out HB.out HC.out).mono ?_
  rintro e w1 ⟨rfl, hb⟩
  have HL4 := Lib.hid (bstep HL3.out hb)
  have HD4 := Lib.hid (HD3.out.below hb)
  clear hb HL3 HD3
  have HL5 := Lib.hid (HL4.out.alloc HL4.out.size (.cells #[.bool false, .string ⟨#[]⟩] 23))
  have HD5 := Lib.hid (HD4.out.push' (w1.heap.size) false ⟨#[]⟩ (by simp))
  clear HL4 HD4
  obtain ⟨fx0, fy0⟩ := HD5.out.get (w.heap.size) na sa (by simp)
  obtain ⟨fx1, fy1⟩ := HD5.out.get (w.heap.size + 1) nb sb (by simp)
  go_wp2_with fail
  refine (H1.out _).mono ?_
  rintro e w2 ⟨rfl, hb⟩
  have HL6 := Lib.hid (bstep HL5.out hb)
  have HD6 := Lib.hid (HD5.out.below hb)
  clear hb HL5 HD5
  have HL7 := Lib.hid (HL6.out.alloc HL6.out.size (.cells #[.bool false, .string gs] 23))
  have HD7 := Lib.hid (HD6.out.push' (w2.heap.size) false gs (by simp))
  clear HL6 HD6
  obtain ⟨fx2, fy2⟩ := HD7.out.get (w.heap.size + 1 + 1) nc sc (by simp)
  have hne3_9 : w.heap.size < w2.heap.size + 1 := by have := (HD7.out (w.heap.size, na, sa) (by simp)).lt; first | exact this | (simp at this; omega)
  have hne4_9 : w.heap.size + 1 < w2.heap.size + 1 := by have := (HD7.out (w.heap.size + 1, nb, sb) (by simp)).lt; first | exact this | (simp at this; omega)
  have hne5_9 : w.heap.size + 1 + 1 < w2.heap.size + 1 := by have := (HD7.out (w.heap.size + 1 + 1, nc, sc) (by simp)).lt; first | exact this | (simp at this; omega)
  have hne7_9 : w1.heap.size < w2.heap.size + 1 := by have := (HD7.out (w1.heap.size, false, ⟨#[]⟩) (by simp)).lt; first | exact this | (simp at this; omega)
  have hne8_9 : w2.heap.size < w2.heap.size + 1 := by have := (HD7.out (w2.heap.size, false, gs) (by simp)).lt; first | exact this | (simp at this; omega)
  have HL8 := Lib.hid (HL7.out.alloc HL7.out.size (.cells #[.bool nc, .string sc] 23))
  have HD8 := Lib.hid (HD7.out.push' (w2.heap.size + 1) nc sc (by simp))
  clear HL7 HD7
  obtain ⟨fx2, fy2⟩ := HD8.out.get (w.heap.size + 1 + 1) nc sc (by simp)
  obtain ⟨fx3, fy3⟩ := HD8.out.get (w1.heap.size) false ⟨#[]⟩ (by simp)
  go_wp2_with fail
  refine (H2.out _).mono ?_
  rintro e w3 ⟨rfl, hb⟩
  have HL9 := Lib.hid (bstep HL8.out hb)
  have HD9 := Lib.hid (HD8.out.below hb)
  clear hb HL8 HD8
  obtain ⟨fx2, fy2⟩ := HD9.out.get (w.heap.size + 1 + 1) nc sc (by simp)
  go_wp2_with fail
  refine (H3.out _).mono ?_
  rintro e w4 ⟨rfl, hb⟩
  have HL10 := Lib.hid (bstep HL9.out hb)
  have HD10 := Lib.hid (HD9.out.below hb)
  clear hb HL9 HD9
  obtain ⟨fx5, fy5, fz5, ft5, _⟩ := HD10.out (w2.heap.size + 1, nc, sc) (by simp)
  have HL11 := Lib.hid ((HL10.out.setCell (p := ⟨w2.heap.size + 1, 0, none⟩) (by have := HL10.out.size; first | omega | (simp; omega)) (.bool nz)).setCell (p := ⟨w2.heap.size + 1, 1, none⟩) (by have := HL10.out.size; first | omega | (simp; omega)) (.string sz))
  have HD11 := Lib.hid (Bxs.cons (Bxs.cons (Bxs.cons (Bxs.cons (Bxs.cons (Bxs.cons (Bxs.nil ((w4.setCell ⟨w2.heap.size + 1, 0, none⟩ (.bool nz)).setCell ⟨w2.heap.size + 1, 1, none⟩ (.string sz))) ((HD10.out (w.heap.size, na, sa) (by simp)).other (by omega))) ((HD10.out (w.heap.size + 1, nb, sb) (by simp)).other (by omega))) ((HD10.out (w.heap.size + 1 + 1, nc, sc) (by simp)).other (by omega))) ((HD10.out (w1.heap.size, false, ⟨#[]⟩) (by simp)).other (by omega))) ((HD10.out (w2.heap.size, false, gs) (by simp)).other (by omega))) ((HD10.out (w2.heap.size + 1, nc, sc) (by simp)).set))
  clear HL10 HD10
  go_wp2_with fail
  obtain ⟨Bw1, hB⟩ : ∃ B, w1.heap.size = B := ⟨_, rfl⟩
  rw [hB] at HD11 ⊢
  try rw [hB] at hne3_9
  try rw [hB] at hne4_9
  try rw [hB] at hne5_9
  try rw [hB] at hne7_9
  try rw [hB] at hne8_9
  clear hB
  obtain ⟨Bw2, hB⟩ : ∃ B, w2.heap.size = B := ⟨_, rfl⟩
  rw [hB] at HD11 ⊢
  rw [hB] at HL11
  try rw [hB] at hne3_9
  try rw [hB] at hne4_9
  try rw [hB] at hne5_9
  try rw [hB] at hne7_9
  try rw [hB] at hne8_9
  clear hB
  obtain ⟨W5, hW⟩ : ∃ W, ((w4.setCell ⟨Bw2 + 1, 0, none⟩ (.bool nz)).setCell ⟨Bw2 + 1, 1, none⟩ (.string sz)) = W := ⟨_, rfl⟩
  rw [hW] at HD11 HL11 ⊢
  clear hW
  haveI := cls_some W5
  have fq4 : ∀ u : Cl W5, u.x.cell? ⟨Bw2, 0, none⟩ = some (.bool false) := fun u => ((HD11.out.below u.h).get (Bw2) false gs (by simp)).1
  have fr4 : ∀ u : Cl W5, u.x.cell? ⟨Bw2, 1, none⟩ = some (.string gs) := fun u => ((HD11.out.below u.h).get (Bw2) false gs (by simp)).2
  have fq1 : ∀ u : Cl W5, u.x.cell? ⟨w.heap.size + 1, 0, none⟩ = some (.bool nb) := fun u => ((HD11.out.below u.h).get (w.heap.size + 1) nb sb (by simp)).1
  have fr1 : ∀ u : Cl W5, u.x.cell? ⟨w.heap.size + 1, 1, none⟩ = some (.string sb) := fun u => ((HD11.out.below u.h).get (w.heap.size + 1) nb sb (by simp)).2
  have fq0 : ∀ u : Cl W5, u.x.cell? ⟨w.heap.size, 0, none⟩ = some (.bool na) := fun u => ((HD11.out.below u.h).get (w.heap.size) na sa (by simp)).1
  have fr0 : ∀ u : Cl W5, u.x.cell? ⟨w.heap.size, 1, none⟩ = some (.string sa) := fun u => ((HD11.out.below u.h).get (w.heap.size) na sa (by simp)).2
  have fq2 : ∀ u : Cl W5, u.x.cell? ⟨w.heap.size + 1 + 1, 0, none⟩ = some (.bool nc) := fun u => ((HD11.out.below u.h).get (w.heap.size + 1 + 1) nc sc (by simp)).1
  have fr2 : ∀ u : Cl W5, u.x.cell? ⟨w.heap.size + 1 + 1, 1, none⟩ = some (.string sc) := fun u => ((HD11.out.below u.h).get (w.heap.size + 1 + 1) nc sc (by simp)).2
  have fq5 : ∀ u : Cl W5, u.x.cell? ⟨Bw2 + 1, 0, none⟩ = some (.bool nz) := fun u => ((HD11.out.below u.h).get (Bw2 + 1) nz sz (by simp)).1
  have fr5 : ∀ u : Cl W5, u.x.cell? ⟨Bw2 + 1, 1, none⟩ = some (.string sz) := fun u => ((HD11.out.below u.h).get (Bw2 + 1) nz sz (by simp)).2
  refine wp_region_cls (by kernel_rfl) ?_
  iterate 5 (go_big_quiet_step (fail))
  go_big_quiet_step ((go_at_call 27; exact quiet_cls H4.out _))
  iterate 6 (go_big_quiet_step (fail))
  go_big_quiet_step ((go_at_call 18; exact quiet_cls H5.out _))
  iterate 2 (go_big_quiet_step (fail))
  go_big_quiet_step ((go_at_call 18; exact quiet_cls H6.out _))
  go_big_quiet_step ((go_at_call 27; exact quiet_cls H7.out _))
  iterate 2 (go_big_quiet_step (fail))
  go_big_quiet_step ((go_at_call 18; exact quiet_cls H8.out _))
  iterate 2 (go_big_quiet_step (fail))
  refine wpQuiet_nil ?_
  intro w6 hw9
  have hB : Below W5.heap.size W5 w6 := by obtain ⟨u, rfl⟩ := hw9; exact u.h
  clear hw9 fq4 fr4 fq1 fr1 fq0 fr0 fq2 fr2 fq5 fr5
  have HL12 := Lib.hid (bstep HL11.out hB)
  have HD12 := Lib.hid (HD11.out.below hB)
  clear hB HL11 HD11
  obtain ⟨fx4, fy4⟩ := HD12.out.get (Bw2) false gs (by simp)
  obtain ⟨fx3, fy3⟩ := HD12.out.get (Bw1) false ⟨#[]⟩ (by simp)
  obtain ⟨fx0, fy0⟩ := HD12.out.get (w.heap.size) na sa (by simp)
  obtain ⟨fx4, fy4⟩ := HD12.out.get (Bw2) false gs (by simp)
  go_wp2_with fail
  refine (H9.out _).mono ?_
  rintro e w7 ⟨rfl, hb⟩
  have HL13 := Lib.hid (bstep HL12.out hb)
  have HD13 := Lib.hid (HD12.out.below hb)
  clear hb HL12 HD12
  have HL14 := Lib.hid (HL13.out.alloc HL13.out.size (.cells #[.bool np, .string sp] 23))
  have HD14 := Lib.hid (HD13.out.push' (w7.heap.size) np sp (by simp))
  clear HL13 HD13
  have HL15 := Lib.hid (HL14.out.alloc HL14.out.size (.cells #[.bool false, .string ⟨#[]⟩] 23))
  have HD15 := Lib.hid (HD14.out.push' (w7.heap.size + 1) false ⟨#[]⟩ (by simp))
  clear HL14 HD14
  obtain ⟨fx1, fy1⟩ := HD15.out.get (w.heap.size + 1) nb sb (by simp)
  obtain ⟨fx4, fy4⟩ := HD15.out.get (Bw2) false gs (by simp)
  go_wp2_with fail
  refine (H10.out _).mono ?_
  rintro e w8 ⟨rfl, hb⟩
  have HL16 := Lib.hid (bstep HL15.out hb)
  have HD16 := Lib.hid (HD15.out.below hb)
  clear hb HL15 HD15
  have HL17 := Lib.hid (HL16.out.alloc HL16.out.size (.cells #[.bool nq, .string sq] 23))
  have HD17 := Lib.hid (HD16.out.push' (w8.heap.size) nq sq (by simp))
  clear HL16 HD16
  have HL18 := Lib.hid (HL17.out.alloc HL17.out.size (.cells #[.bool false, .string ⟨#[]⟩] 23))
  have HD18 := Lib.hid (HD17.out.push' (w8.heap.size + 1) false ⟨#[]⟩ (by simp))
  clear HL17 HD17
  obtain ⟨fx7, fy7⟩ := HD18.out.get (w7.heap.size + 1) false ⟨#[]⟩ (by simp)
  obtain ⟨fx3, fy3⟩ := HD18.out.get (Bw1) false ⟨#[]⟩ (by simp)
  obtain ⟨fx9, fy9⟩ := HD18.out.get (w8.heap.size + 1) false ⟨#[]⟩ (by simp)
  obtain ⟨fx3, fy3⟩ := HD18.out.get (Bw1) false ⟨#[]⟩ (by simp)
  obtain ⟨fx6, fy6⟩ := HD18.out.get (w7.heap.size) np sp (by simp)
  obtain ⟨fx8, fy8⟩ := HD18.out.get (w8.heap.size) nq sq (by simp)
  go_wp2_with fail
  refine (H11.out _).mono ?_
  rintro e w9 ⟨rfl, hb⟩
  have HL19 := Lib.hid (bstep HL18.out hb)
  have HD19 := Lib.hid (HD18.out.below hb)
  clear hb HL18 HD18
  go_wp2_with fail
  refine (H12.out _).mono ?_
  rintro e w10 ⟨rfl, hb⟩
  have HL20 := Lib.hid (bstep HL19.out hb)
  have HD20 := Lib.hid (HD19.out.below hb)
  clear hb HL19 HD19
  go_wp2_with fail
  refine (awake01 _).mono ?_
  rintro e w11 ⟨rfl, hb⟩
  have HL21 := Lib.hid (bstep HL20.out hb)
  have HD21 := Lib.hid (HD20.out.below hb)
  clear hb HL20 HD20
  go_wp2
  go_ret
  exact ⟨rfl, HL21.out⟩

set_option maxRecDepth 100000 in
set_option maxHeartbeats 4000000 in
theorem divisors_zero_pos (na nac nb nbc nc nh : Bool) (sa sac sb sbc sc sh : ByteArray) (ha : sa.size ≤ maxLen) (hb0 : sb.size ≤ maxLen) (hc0 : sc.size ≤ maxLen) (hgr : gr [(na, sa), (nb, sb), (nc, sc)] = false) (c1 : Int) (t1 : decide (c1 < 0) = false) (w : World)
    (H1 : ∀ W, Calls Try.prog 27 #[.agg #[.bool na, .string sa], .agg #[.bool nb, .string sb]] W fun e w' => e = .returned (.agg #[.bool false, .string ⟨#[]⟩]) ∧ Below W.heap.size W w')
    (H2 : ∀ W, Calls Try.prog 29 #[.agg #[.bool nc, .string sc], .agg #[.bool false, .string ⟨#[]⟩]] W fun e w' => e = .returned (.int .i64 c1) ∧ Below W.heap.size W w')
    (H3 : ∀ W, Calls Try.prog 27 #[.agg #[.bool nb, .string sb], .agg #[.bool na, .string sa]] W fun e w' => e = .returned (.agg #[.bool false, .string ⟨#[]⟩]) ∧ Below W.heap.size W w')
    (H4 : ∀ W, Calls Try.prog 18 #[.agg #[.bool na, .string sa], .agg #[.bool nc, .string sc]] W fun e w' => e = .returned (.agg #[.bool nac, .string sac]) ∧ Below W.heap.size W w')
    (H5 : ∀ W, Calls Try.prog 18 #[.agg #[.bool nb, .string sb], .agg #[.bool nc, .string sc]] W fun e w' => e = .returned (.agg #[.bool nbc, .string sbc]) ∧ Below W.heap.size W w')
    (H6 : ∀ W, Calls Try.prog 27 #[.agg #[.bool nac, .string sac], .agg #[.bool nbc, .string sbc]] W fun e w' => e = .returned (.agg #[.bool nh, .string sh]) ∧ Below W.heap.size W w')
    (H7 : ∀ W, Calls Try.prog 18 #[.agg #[.bool false, .string ⟨#[]⟩], .agg #[.bool nc, .string sc]] W fun e w' => e = .returned (.agg #[.bool nh, .string sh]) ∧ Below W.heap.size W w')
    (H8 : ∀ W, Calls Try.prog 29 #[.agg #[.bool na, .string sa], .agg #[.bool false, .string ⟨#[]⟩]] W fun e w' => e = .returned (.int .i64 0) ∧ Below W.heap.size W w')
    (H9 : ∀ W, Calls Try.prog 29 #[.agg #[.bool nb, .string sb], .agg #[.bool false, .string ⟨#[]⟩]] W fun e w' => e = .returned (.int .i64 0) ∧ Below W.heap.size W w')
    : Calls Try.prog 9 #[.agg #[.bool na, .string sa], .agg #[.bool nb, .string sb], .agg #[.bool nc, .string sc]] w fun e w' => e = .returned (.bool true) ∧ Below w.heap.size w w' := by
  replace H1 := Lib.hid H1
  replace H2 := Lib.hid H2
  replace H3 := Lib.hid H3
  replace H4 := Lib.hid H4
  replace H5 := Lib.hid H5
  replace H6 := Lib.hid H6
  replace H7 := Lib.hid H7
  replace H8 := Lib.hid H8
  replace H9 := Lib.hid H9
  have HA := Lib.hid ha
  have HB := Lib.hid hb0
  have HC := Lib.hid hc0
  clear ha hb0 hc0
  have q9 : eqI false ⟨#[]⟩ false ⟨#[]⟩ = true := eqI_iff.mpr ⟨rfl, rfl⟩
  have q1 : eqI nh sh nh sh = true := eqI_iff.mpr ⟨rfl, rfl⟩
  go_enter Try.func9, Try.ntmps9
  have HL0 := Lib.hid (Below.refl w.heap.size w)
  have HD0 := Lib.hid (Bxs.nil w)
  have HL1 := Lib.hid (HL0.out.alloc HL0.out.size (.cells #[.bool na, .string sa] 23))
  have HD1 := Lib.hid (HD0.out.push' (w.heap.size) na sa (by simp))
  clear HL0 HD0
  have HL2 := Lib.hid (HL1.out.alloc HL1.out.size (.cells #[.bool nb, .string sb] 23))
  have HD2 := Lib.hid (HD1.out.push' (w.heap.size + 1) nb sb (by simp))
  clear HL1 HD1
  have HL3 := Lib.hid (HL2.out.alloc HL2.out.size (.cells #[.bool nc, .string sc] 23))
  have HD3 := Lib.hid (HD2.out.push' (w.heap.size + 1 + 1) nc sc (by simp))
  clear HL2 HD2
  obtain ⟨fx0, fy0⟩ := HD3.out.get (w.heap.size) na sa (by simp)
  obtain ⟨fx1, fy1⟩ := HD3.out.get (w.heap.size + 1) nb sb (by simp)
  obtain ⟨fx2, fy2⟩ := HD3.out.get (w.heap.size + 1 + 1) nc sc (by simp)
  go_wp2_with fail
  refine (great3 na sa nb sb nc sc _ (w.heap.size + 1 + 1 + 1) (by simp) HA.out HB.out HC.out).mono ?_
  rintro e w1 ⟨rfl, hb⟩
  have HL4 := Lib.hid (bstep HL3.out hb)
  have HD4 := Lib.hid (HD3.out.below hb)
  clear hb HL3 HD3
  have HL5 := Lib.hid (HL4.out.alloc HL4.out.size (.cells #[.bool false, .string ⟨#[]⟩] 23))
  have HD5 := Lib.hid (HD4.out.push' (w1.heap.size) false ⟨#[]⟩ (by simp))
  clear HL4 HD4
  obtain ⟨fx0, fy0⟩ := HD5.out.get (w.heap.size) na sa (by simp)
  obtain ⟨fx1, fy1⟩ := HD5.out.get (w.heap.size + 1) nb sb (by simp)
  go_wp2_with fail
  refine (H1.out _).mono ?_
  rintro e w2 ⟨rfl, hb⟩
  have HL6 := Lib.hid (bstep HL5.out hb)
  have HD6 := Lib.hid (HD5.out.below hb)
  clear hb HL5 HD5
  have HL7 := Lib.hid (HL6.out.alloc HL6.out.size (.cells #[.bool false, .string ⟨#[]⟩] 23))
  have HD7 := Lib.hid (HD6.out.push' (w2.heap.size) false ⟨#[]⟩ (by simp))
  clear HL6 HD6
  obtain ⟨fx2, fy2⟩ := HD7.out.get (w.heap.size + 1 + 1) nc sc (by simp)
  have hne3_9 : w.heap.size < w2.heap.size + 1 := by have := (HD7.out (w.heap.size, na, sa) (by simp)).lt; first | exact this | (simp at this; omega)
  have hne4_9 : w.heap.size + 1 < w2.heap.size + 1 := by have := (HD7.out (w.heap.size + 1, nb, sb) (by simp)).lt; first | exact this | (simp at this; omega)
  have hne5_9 : w.heap.size + 1 + 1 < w2.heap.size + 1 := by have := (HD7.out (w.heap.size + 1 + 1, nc, sc) (by simp)).lt; first | exact this | (simp at this; omega)
  have hne7_9 : w1.heap.size < w2.heap.size + 1 := by have := (HD7.out (w1.heap.size, false, ⟨#[]⟩) (by simp)).lt; first | exact this | (simp at this; omega)
  have hne8_9 : w2.heap.size < w2.heap.size + 1 := by have := (HD7.out (w2.heap.size, false, ⟨#[]⟩) (by simp)).lt; first | exact this | (simp at this; omega)
  have HL8 := Lib.hid (HL7.out.alloc HL7.out.size (.cells #[.bool nc, .string sc] 23))
  have HD8 := Lib.hid (HD7.out.push' (w2.heap.size + 1) nc sc (by simp))
  clear HL7 HD7
  obtain ⟨fx2, fy2⟩ := HD8.out.get (w.heap.size + 1 + 1) nc sc (by simp)
  obtain ⟨fx3, fy3⟩ := HD8.out.get (w1.heap.size) false ⟨#[]⟩ (by simp)
  go_wp2_with fail
  refine (H2.out _).mono ?_
  rintro e w3 ⟨rfl, hb⟩
  have HL9 := Lib.hid (bstep HL8.out hb)
  have HD9 := Lib.hid (HD8.out.below hb)
  clear hb HL8 HD8
  go_wp2_with fail
  obtain ⟨Bw1, hB⟩ : ∃ B, w1.heap.size = B := ⟨_, rfl⟩
  rw [hB] at HD9 ⊢
  try rw [hB] at hne3_9
  try rw [hB] at hne4_9
  try rw [hB] at hne5_9
  try rw [hB] at hne7_9
  try rw [hB] at hne8_9
  clear hB
  obtain ⟨Bw2, hB⟩ : ∃ B, w2.heap.size = B := ⟨_, rfl⟩
  rw [hB] at HD9 ⊢
  try rw [hB] at hne3_9
  try rw [hB] at hne4_9
  try rw [hB] at hne5_9
  try rw [hB] at hne7_9
  try rw [hB] at hne8_9
  clear hB
  obtain ⟨W4, hW⟩ : ∃ W, w3 = W := ⟨_, rfl⟩
  rw [hW] at HD9 HL9 ⊢
  clear hW
  haveI := cls_some W4
  have fq4 : ∀ u : Cl W4, u.x.cell? ⟨Bw2, 0, none⟩ = some (.bool false) := fun u => ((HD9.out.below u.h).get (Bw2) false ⟨#[]⟩ (by simp)).1
  have fr4 : ∀ u : Cl W4, u.x.cell? ⟨Bw2, 1, none⟩ = some (.string ⟨#[]⟩) := fun u => ((HD9.out.below u.h).get (Bw2) false ⟨#[]⟩ (by simp)).2
  have fq1 : ∀ u : Cl W4, u.x.cell? ⟨w.heap.size + 1, 0, none⟩ = some (.bool nb) := fun u => ((HD9.out.below u.h).get (w.heap.size + 1) nb sb (by simp)).1
  have fr1 : ∀ u : Cl W4, u.x.cell? ⟨w.heap.size + 1, 1, none⟩ = some (.string sb) := fun u => ((HD9.out.below u.h).get (w.heap.size + 1) nb sb (by simp)).2
  have fq0 : ∀ u : Cl W4, u.x.cell? ⟨w.heap.size, 0, none⟩ = some (.bool na) := fun u => ((HD9.out.below u.h).get (w.heap.size) na sa (by simp)).1
  have fr0 : ∀ u : Cl W4, u.x.cell? ⟨w.heap.size, 1, none⟩ = some (.string sa) := fun u => ((HD9.out.below u.h).get (w.heap.size) na sa (by simp)).2
  have fq2 : ∀ u : Cl W4, u.x.cell? ⟨w.heap.size + 1 + 1, 0, none⟩ = some (.bool nc) := fun u => ((HD9.out.below u.h).get (w.heap.size + 1 + 1) nc sc (by simp)).1
  have fr2 : ∀ u : Cl W4, u.x.cell? ⟨w.heap.size + 1 + 1, 1, none⟩ = some (.string sc) := fun u => ((HD9.out.below u.h).get (w.heap.size + 1 + 1) nc sc (by simp)).2
  have fq5 : ∀ u : Cl W4, u.x.cell? ⟨Bw2 + 1, 0, none⟩ = some (.bool nc) := fun u => ((HD9.out.below u.h).get (Bw2 + 1) nc sc (by simp)).1
  have fr5 : ∀ u : Cl W4, u.x.cell? ⟨Bw2 + 1, 1, none⟩ = some (.string sc) := fun u => ((HD9.out.below u.h).get (Bw2 + 1) nc sc (by simp)).2
  refine wp_region_cls (by kernel_rfl) ?_
  iterate 5 (go_big_quiet_step (fail))
  go_big_quiet_step ((go_at_call 27; exact quiet_cls H3.out _))
  iterate 6 (go_big_quiet_step (fail))
  go_big_quiet_step ((go_at_call 18; exact quiet_cls H4.out _))
  iterate 2 (go_big_quiet_step (fail))
  go_big_quiet_step ((go_at_call 18; exact quiet_cls H5.out _))
  go_big_quiet_step ((go_at_call 27; exact quiet_cls H6.out _))
  iterate 2 (go_big_quiet_step (fail))
  go_big_quiet_step ((go_at_call 18; exact quiet_cls H7.out _))
  iterate 2 (go_big_quiet_step (fail))
  refine wpQuiet_nil ?_
  intro w5 hw9
  have hB : Below W4.heap.size W4 w5 := by obtain ⟨u, rfl⟩ := hw9; exact u.h
  clear hw9 fq4 fr4 fq1 fr1 fq0 fr0 fq2 fr2 fq5 fr5
  have HL10 := Lib.hid (bstep HL9.out hB)
  have HD10 := Lib.hid (HD9.out.below hB)
  clear hB HL9 HD9
  obtain ⟨fx4, fy4⟩ := HD10.out.get (Bw2) false ⟨#[]⟩ (by simp)
  obtain ⟨fx3, fy3⟩ := HD10.out.get (Bw1) false ⟨#[]⟩ (by simp)
  obtain ⟨fx0, fy0⟩ := HD10.out.get (w.heap.size) na sa (by simp)
  obtain ⟨fx3, fy3⟩ := HD10.out.get (Bw1) false ⟨#[]⟩ (by simp)
  go_wp2_with fail
  refine (H8.out _).mono ?_
  rintro e w6 ⟨rfl, hb⟩
  have HL11 := Lib.hid (bstep HL10.out hb)
  have HD11 := Lib.hid (HD10.out.below hb)
  clear hb HL10 HD10
  obtain ⟨fx1, fy1⟩ := HD11.out.get (w.heap.size + 1) nb sb (by simp)
  obtain ⟨fx3, fy3⟩ := HD11.out.get (Bw1) false ⟨#[]⟩ (by simp)
  go_wp2_with fail
  refine (H9.out _).mono ?_
  rintro e w7 ⟨rfl, hb⟩
  have HL12 := Lib.hid (bstep HL11.out hb)
  have HD12 := Lib.hid (HD11.out.below hb)
  clear hb HL11 HD11
  go_wp2_with fail
  refine (awake01 _).mono ?_
  rintro e w8 ⟨rfl, hb⟩
  have HL13 := Lib.hid (bstep HL12.out hb)
  have HD13 := Lib.hid (HD12.out.below hb)
  clear hb HL12 HD12
  go_wp2
  go_ret
  exact ⟨rfl, HL13.out⟩

set_option maxRecDepth 100000 in
set_option maxHeartbeats 4000000 in
theorem divisors_main_pos (na nac nb nbc nc nh np nq : Bool) (sa sac sb sbc sc sh sp sq : ByteArray) (ha : sa.size ≤ maxLen) (hb0 : sb.size ≤ maxLen) (hc0 : sc.size ≤ maxLen) (hgr : gr [(na, sa), (nb, sb), (nc, sc)] = false) (c1 : Int) (t1 : decide (c1 < 0) = false) (gs os : ByteArray) (hz : eqI false gs false ⟨#[]⟩ = false) (w : World)
    (H1 : ∀ W, Calls Try.prog 27 #[.agg #[.bool na, .string sa], .agg #[.bool nb, .string sb]] W fun e w' => e = .returned (.agg #[.bool false, .string gs]) ∧ Below W.heap.size W w')
    (H2 : ∀ W, Calls Try.prog 29 #[.agg #[.bool nc, .string sc], .agg #[.bool false, .string ⟨#[]⟩]] W fun e w' => e = .returned (.int .i64 c1) ∧ Below W.heap.size W w')
    (H3 : ∀ W, Calls Try.prog 27 #[.agg #[.bool nb, .string sb], .agg #[.bool na, .string sa]] W fun e w' => e = .returned (.agg #[.bool false, .string gs]) ∧ Below W.heap.size W w')
    (H4 : ∀ W, Calls Try.prog 18 #[.agg #[.bool na, .string sa], .agg #[.bool nc, .string sc]] W fun e w' => e = .returned (.agg #[.bool nac, .string sac]) ∧ Below W.heap.size W w')
    (H5 : ∀ W, Calls Try.prog 18 #[.agg #[.bool nb, .string sb], .agg #[.bool nc, .string sc]] W fun e w' => e = .returned (.agg #[.bool nbc, .string sbc]) ∧ Below W.heap.size W w')
    (H6 : ∀ W, Calls Try.prog 27 #[.agg #[.bool nac, .string sac], .agg #[.bool nbc, .string sbc]] W fun e w' => e = .returned (.agg #[.bool nh, .string sh]) ∧ Below W.heap.size W w')
    (H7 : ∀ W, Calls Try.prog 18 #[.agg #[.bool false, .string gs], .agg #[.bool nc, .string sc]] W fun e w' => e = .returned (.agg #[.bool nh, .string sh]) ∧ Below W.heap.size W w')
    (H8 : ∀ W, Calls Try.prog 21 #[.agg #[.bool na, .string sa], .agg #[.bool false, .string gs]] W fun e w' => e = .returned (.tuple #[.agg #[.bool np, .string sp], .agg #[.bool false, .string ⟨#[]⟩], .int .i64 0]) ∧ Below W.heap.size W w')
    (H9 : ∀ W, Calls Try.prog 21 #[.agg #[.bool nb, .string sb], .agg #[.bool false, .string gs]] W fun e w' => e = .returned (.tuple #[.agg #[.bool nq, .string sq], .agg #[.bool false, .string ⟨#[]⟩], .int .i64 0]) ∧ Below W.heap.size W w')
    (H10 : ∀ W, Calls Try.prog 27 #[.agg #[.bool np, .string sp], .agg #[.bool nq, .string sq]] W fun e w' => e = .returned (.agg #[.bool false, .string os]) ∧ Below W.heap.size W w')
    (H11 : ∀ W, Calls Try.prog 31 #[.int .i64 1] W fun e w' => e = .returned (.agg #[.bool false, .string os]) ∧ Below W.heap.size W w')
    : Calls Try.prog 9 #[.agg #[.bool na, .string sa], .agg #[.bool nb, .string sb], .agg #[.bool nc, .string sc]] w fun e w' => e = .returned (.bool true) ∧ Below w.heap.size w w' := by
  replace H1 := Lib.hid H1
  replace H2 := Lib.hid H2
  replace H3 := Lib.hid H3
  replace H4 := Lib.hid H4
  replace H5 := Lib.hid H5
  replace H6 := Lib.hid H6
  replace H7 := Lib.hid H7
  replace H8 := Lib.hid H8
  replace H9 := Lib.hid H9
  replace H10 := Lib.hid H10
  replace H11 := Lib.hid H11
  have HA := Lib.hid ha
  have HB := Lib.hid hb0
  have HC := Lib.hid hc0
  clear ha hb0 hc0
  have q9 : eqI false ⟨#[]⟩ false ⟨#[]⟩ = true := eqI_iff.mpr ⟨rfl, rfl⟩
  have q1 : eqI nh sh nh sh = true := eqI_iff.mpr ⟨rfl, rfl⟩
  have q2 : eqI false gs false gs = true := eqI_iff.mpr ⟨rfl, rfl⟩
  have q3 : eqI false os false os = true := eqI_iff.mpr ⟨rfl, rfl⟩
  go_enter Try.func9, Try.ntmps9
  have HL0 := Lib.hid (Below.refl w.heap.size w)
  have HD0 := Lib.hid (Bxs.nil w)
  have HL1 := Lib.hid (HL0.out.alloc HL0.out.size (.cells #[.bool na, .string sa] 23))
  have HD1 := Lib.hid (HD0.out.push' (w.heap.size) na sa (by simp))
  clear HL0 HD0
  have HL2 := Lib.hid (HL1.out.alloc HL1.out.size (.cells #[.bool nb, .string sb] 23))
  have HD2 := Lib.hid (HD1.out.push' (w.heap.size + 1) nb sb (by simp))
  clear HL1 HD1
  have HL3 := Lib.hid (HL2.out.alloc HL2.out.size (.cells #[.bool nc, .string sc] 23))
  have HD3 := Lib.hid (HD2.out.push' (w.heap.size + 1 + 1) nc sc (by simp))
  clear HL2 HD2
  obtain ⟨fx0, fy0⟩ := HD3.out.get (w.heap.size) na sa (by simp)
  obtain ⟨fx1, fy1⟩ := HD3.out.get (w.heap.size + 1) nb sb (by simp)
  obtain ⟨fx2, fy2⟩ := HD3.out.get (w.heap.size + 1 + 1) nc sc (by simp)
  go_wp2_with fail
  refine (great3 na sa nb sb nc sc _ (w.heap.size + 1 + 1 + 1) (by simp) HA.out HB.out HC.out).mono ?_
  rintro e w1 ⟨rfl, hb⟩
  have HL4 := Lib.hid (bstep HL3.out hb)
  have HD4 := Lib.hid (HD3.out.below hb)
  clear hb HL3 HD3
  have HL5 := Lib.hid (HL4.out.alloc HL4.out.size (.cells #[.bool false, .string ⟨#[]⟩] 23))
  have HD5 := Lib.hid (HD4.out.push' (w1.heap.size) false ⟨#[]⟩ (by simp))
  clear HL4 HD4
  obtain ⟨fx0, fy0⟩ := HD5.out.get (w.heap.size) na sa (by simp)
  obtain ⟨fx1, fy1⟩ := HD5.out.get (w.heap.size + 1) nb sb (by simp)
  go_wp2_with fail
  refine (H1.out _).mono ?_
  rintro e w2 ⟨rfl, hb⟩
  have HL6 := Lib.hid (bstep HL5.out hb)
  have HD6 := Lib.hid (HD5.out.below hb)
  clear hb HL5 HD5
  have HL7 := Lib.hid (HL6.out.alloc HL6.out.size (.cells #[.bool false, .string gs] 23))
  have HD7 := Lib.hid (HD6.out.push' (w2.heap.size) false gs (by simp))
  clear HL6 HD6
  obtain ⟨fx2, fy2⟩ := HD7.out.get (w.heap.size + 1 + 1) nc sc (by simp)
  have hne3_9 : w.heap.size < w2.heap.size + 1 := by have := (HD7.out (w.heap.size, na, sa) (by simp)).lt; first | exact this | (simp at this; omega)
  have hne4_9 : w.heap.size + 1 < w2.heap.size + 1 := by have := (HD7.out (w.heap.size + 1, nb, sb) (by simp)).lt; first | exact this | (simp at this; omega)
  have hne5_9 : w.heap.size + 1 + 1 < w2.heap.size + 1 := by have := (HD7.out (w.heap.size + 1 + 1, nc, sc) (by simp)).lt; first | exact this | (simp at this; omega)
  have hne7_9 : w1.heap.size < w2.heap.size + 1 := by have := (HD7.out (w1.heap.size, false, ⟨#[]⟩) (by simp)).lt; first | exact this | (simp at this; omega)
  have hne8_9 : w2.heap.size < w2.heap.size + 1 := by have := (HD7.out (w2.heap.size, false, gs) (by simp)).lt; first | exact this | (simp at this; omega)
  have HL8 := Lib.hid (HL7.out.alloc HL7.out.size (.cells #[.bool nc, .string sc] 23))
  have HD8 := Lib.hid (HD7.out.push' (w2.heap.size + 1) nc sc (by simp))
  clear HL7 HD7
  obtain ⟨fx2, fy2⟩ := HD8.out.get (w.heap.size + 1 + 1) nc sc (by simp)
  obtain ⟨fx3, fy3⟩ := HD8.out.get (w1.heap.size) false ⟨#[]⟩ (by simp)
  go_wp2_with fail
  refine (H2.out _).mono ?_
  rintro e w3 ⟨rfl, hb⟩
  have HL9 := Lib.hid (bstep HL8.out hb)
  have HD9 := Lib.hid (HD8.out.below hb)
  clear hb HL8 HD8
  go_wp2_with fail
  obtain ⟨Bw1, hB⟩ : ∃ B, w1.heap.size = B := ⟨_, rfl⟩
  rw [hB] at HD9 ⊢
  try rw [hB] at hne3_9
  try rw [hB] at hne4_9
  try rw [hB] at hne5_9
  try rw [hB] at hne7_9
  try rw [hB] at hne8_9
  clear hB
  obtain ⟨Bw2, hB⟩ : ∃ B, w2.heap.size = B := ⟨_, rfl⟩
  rw [hB] at HD9 ⊢
  try rw [hB] at hne3_9
  try rw [hB] at hne4_9
  try rw [hB] at hne5_9
  try rw [hB] at hne7_9
  try rw [hB] at hne8_9
  clear hB
  obtain ⟨W4, hW⟩ : ∃ W, w3 = W := ⟨_, rfl⟩
  rw [hW] at HD9 HL9 ⊢
  clear hW
  haveI := cls_some W4
  have fq4 : ∀ u : Cl W4, u.x.cell? ⟨Bw2, 0, none⟩ = some (.bool false) := fun u => ((HD9.out.below u.h).get (Bw2) false gs (by simp)).1
  have fr4 : ∀ u : Cl W4, u.x.cell? ⟨Bw2, 1, none⟩ = some (.string gs) := fun u => ((HD9.out.below u.h).get (Bw2) false gs (by simp)).2
  have fq1 : ∀ u : Cl W4, u.x.cell? ⟨w.heap.size + 1, 0, none⟩ = some (.bool nb) := fun u => ((HD9.out.below u.h).get (w.heap.size + 1) nb sb (by simp)).1
  have fr1 : ∀ u : Cl W4, u.x.cell? ⟨w.heap.size + 1, 1, none⟩ = some (.string sb) := fun u => ((HD9.out.below u.h).get (w.heap.size + 1) nb sb (by simp)).2
  have fq0 : ∀ u : Cl W4, u.x.cell? ⟨w.heap.size, 0, none⟩ = some (.bool na) := fun u => ((HD9.out.below u.h).get (w.heap.size) na sa (by simp)).1
  have fr0 : ∀ u : Cl W4, u.x.cell? ⟨w.heap.size, 1, none⟩ = some (.string sa) := fun u => ((HD9.out.below u.h).get (w.heap.size) na sa (by simp)).2
  have fq2 : ∀ u : Cl W4, u.x.cell? ⟨w.heap.size + 1 + 1, 0, none⟩ = some (.bool nc) := fun u => ((HD9.out.below u.h).get (w.heap.size + 1 + 1) nc sc (by simp)).1
  have fr2 : ∀ u : Cl W4, u.x.cell? ⟨w.heap.size + 1 + 1, 1, none⟩ = some (.string sc) := fun u => ((HD9.out.below u.h).get (w.heap.size + 1 + 1) nc sc (by simp)).2
  have fq5 : ∀ u : Cl W4, u.x.cell? ⟨Bw2 + 1, 0, none⟩ = some (.bool nc) := fun u => ((HD9.out.below u.h).get (Bw2 + 1) nc sc (by simp)).1
  have fr5 : ∀ u : Cl W4, u.x.cell? ⟨Bw2 + 1, 1, none⟩ = some (.string sc) := fun u => ((HD9.out.below u.h).get (Bw2 + 1) nc sc (by simp)).2
  refine wp_region_cls (by kernel_rfl) ?_
  iterate 5 (go_big_quiet_step (fail))
  go_big_quiet_step ((go_at_call 27; exact quiet_cls H3.out _))
  iterate 6 (go_big_quiet_step (fail))
  go_big_quiet_step ((go_at_call 18; exact quiet_cls H4.out _))
  iterate 2 (go_big_quiet_step (fail))
  go_big_quiet_step ((go_at_call 18; exact quiet_cls H5.out _))
  go_big_quiet_step ((go_at_call 27; exact quiet_cls H6.out _))
  iterate 2 (go_big_quiet_step (fail))
  go_big_quiet_step ((go_at_call 18; exact quiet_cls H7.out _))
  iterate 2 (go_big_quiet_step (fail))
  refine wpQuiet_nil ?_
  intro w5 hw9
  have hB : Below W4.heap.size W4 w5 := by obtain ⟨u, rfl⟩ := hw9; exact u.h
  clear hw9 fq4 fr4 fq1 fr1 fq0 fr0 fq2 fr2 fq5 fr5
  have HL10 := Lib.hid (bstep HL9.out hB)
  have HD10 := Lib.hid (HD9.out.below hB)
  clear hB HL9 HD9
  obtain ⟨fx4, fy4⟩ := HD10.out.get (Bw2) false gs (by simp)
  obtain ⟨fx3, fy3⟩ := HD10.out.get (Bw1) false ⟨#[]⟩ (by simp)
  obtain ⟨fx0, fy0⟩ := HD10.out.get (w.heap.size) na sa (by simp)
  obtain ⟨fx4, fy4⟩ := HD10.out.get (Bw2) false gs (by simp)
  go_wp2_with fail
  refine (H8.out _).mono ?_
  rintro e w6 ⟨rfl, hb⟩
  have HL11 := Lib.hid (bstep HL10.out hb)
  have HD11 := Lib.hid (HD10.out.below hb)
  clear hb HL10 HD10
  have HL12 := Lib.hid (HL11.out.alloc HL11.out.size (.cells #[.bool np, .string sp] 23))
  have HD12 := Lib.hid (HD11.out.push' (w6.heap.size) np sp (by simp))
  clear HL11 HD11
  have HL13 := Lib.hid (HL12.out.alloc HL12.out.size (.cells #[.bool false, .string ⟨#[]⟩] 23))
  have HD13 := Lib.hid (HD12.out.push' (w6.heap.size + 1) false ⟨#[]⟩ (by simp))
  clear HL12 HD12
  obtain ⟨fx1, fy1⟩ := HD13.out.get (w.heap.size + 1) nb sb (by simp)
  obtain ⟨fx4, fy4⟩ := HD13.out.get (Bw2) false gs (by simp)
  go_wp2_with fail
  refine (H9.out _).mono ?_
  rintro e w7 ⟨rfl, hb⟩
  have HL14 := Lib.hid (bstep HL13.out hb)
  have HD14 := Lib.hid (HD13.out.below hb)
  clear hb HL13 HD13
  have HL15 := Lib.hid (HL14.out.alloc HL14.out.size (.cells #[.bool nq, .string sq] 23))
  have HD15 := Lib.hid (HD14.out.push' (w7.heap.size) nq sq (by simp))
  clear HL14 HD14
  have HL16 := Lib.hid (HL15.out.alloc HL15.out.size (.cells #[.bool false, .string ⟨#[]⟩] 23))
  have HD16 := Lib.hid (HD15.out.push' (w7.heap.size + 1) false ⟨#[]⟩ (by simp))
  clear HL15 HD15
  obtain ⟨fx7, fy7⟩ := HD16.out.get (w6.heap.size + 1) false ⟨#[]⟩ (by simp)
  obtain ⟨fx3, fy3⟩ := HD16.out.get (Bw1) false ⟨#[]⟩ (by simp)
  obtain ⟨fx9, fy9⟩ := HD16.out.get (w7.heap.size + 1) false ⟨#[]⟩ (by simp)
  obtain ⟨fx3, fy3⟩ := HD16.out.get (Bw1) false ⟨#[]⟩ (by simp)
  obtain ⟨fx6, fy6⟩ := HD16.out.get (w6.heap.size) np sp (by simp)
  obtain ⟨fx8, fy8⟩ := HD16.out.get (w7.heap.size) nq sq (by simp)
  go_wp2_with fail
  refine (H10.out _).mono ?_
  rintro e w8 ⟨rfl, hb⟩
  have HL17 := Lib.hid (bstep HL16.out hb)
  have HD17 := Lib.hid (HD16.out.below hb)
  clear hb HL16 HD16
  go_wp2_with fail
  refine (H11.out _).mono ?_
  rintro e w9 ⟨rfl, hb⟩
  have HL18 := Lib.hid (bstep HL17.out hb)
  have HD18 := Lib.hid (HD17.out.below hb)
  clear hb HL17 HD17
  go_wp2_with fail
  refine (awake01 _).mono ?_
  rintro e w10 ⟨rfl, hb⟩
  have HL19 := Lib.hid (bstep HL18.out hb)
  have HD19 := Lib.hid (HD18.out.below hb)
  clear hb HL18 HD18
  go_wp2
  go_ret
  exact ⟨rfl, HL19.out⟩

end Go.Proofs.Gv
