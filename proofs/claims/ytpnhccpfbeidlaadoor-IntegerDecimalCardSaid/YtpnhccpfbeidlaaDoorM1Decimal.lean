/- The law IntegerDecimal, walked. -/
import Derived.Test.YtpnhccpfbeidlaaDoorLawKit
import Derived.Test.YtpnhccpfbeidlaaDoorFront
import Derived.Test.YtpnhccpfbeidlaaDoorParse
import Derived.Test.YtpnhccpfbeidlaaDoorLawVal
import Derived.Test.YtpnhccpfbeidlaaDoorCmp
import Derived.OpenShut
namespace Go.Proofs.Gv
open Go Go.RowKit

set_option maxRecDepth 100000 in
set_option maxHeartbeats 4000000 in
theorem decimal_great (na : Bool) (sa : ByteArray) (st : ByteArray) (ha : sa.size ≤ maxLen) (hgr : gr [(na, sa)] = true) (w : World)
    : Calls Tryd.prog 4 #[.agg #[.bool na, .string sa], .string st] w fun e w' => e = .returned (.bool true) ∧ Below w.heap.size w w' := by
  have HA := Lib.hid ha
  clear ha
  go_enter Tryd.func4, Tryd.ntmps4
  have HL0 := Lib.hid (Below.refl w.heap.size w)
  have HD0 := Lib.hid (Bxs.nil w)
  have HL1 := Lib.hid (HL0.out.alloc HL0.out.size (.cells #[.bool na, .string sa] 23))
  have HD1 := Lib.hid (HD0.out.push' (w.heap.size) na sa (by simp))
  clear HL0 HD0
  obtain ⟨fx0, fy0⟩ := HD1.out.get (w.heap.size) na sa (by simp)
  go_wp2_with fail
  refine (great1 na sa _ (w.heap.size + 1) (by simp) HA.out).mono ?_
  rintro e w1 ⟨rfl, hb⟩
  have HL2 := Lib.hid (bstep HL1.out hb)
  have HD2 := Lib.hid (HD1.out.below hb)
  clear hb HL1 HD1
  go_wp2_with fail
  refine (awake01 _).mono ?_
  rintro e w2 ⟨rfl, hb⟩
  have HL3 := Lib.hid (bstep HL2.out hb)
  have HD3 := Lib.hid (HD2.out.below hb)
  clear hb HL2 HD2
  go_wp2
  go_ret
  exact ⟨rfl, HL3.out⟩

set_option maxRecDepth 100000 in
set_option maxHeartbeats 4000000 in
theorem decimal_long (na : Bool) (sa : ByteArray) (st : ByteArray) (ha : sa.size ≤ maxLen) (hgr : gr [(na, sa)] = false) (hl : (200 : Int) < st.size) (w : World)
    : Calls Tryd.prog 4 #[.agg #[.bool na, .string sa], .string st] w fun e w' => e = .returned (.bool true) ∧ Below w.heap.size w w' := by
  have HA := Lib.hid ha
  clear ha
  go_enter Tryd.func4, Tryd.ntmps4
  have HL0 := Lib.hid (Below.refl w.heap.size w)
  have HD0 := Lib.hid (Bxs.nil w)
  have HL1 := Lib.hid (HL0.out.alloc HL0.out.size (.cells #[.bool na, .string sa] 23))
  have HD1 := Lib.hid (HD0.out.push' (w.heap.size) na sa (by simp))
  clear HL0 HD0
  obtain ⟨fx0, fy0⟩ := HD1.out.get (w.heap.size) na sa (by simp)
  go_wp2_with fail
  refine (great1 na sa _ (w.heap.size + 1) (by simp) HA.out).mono ?_
  rintro e w1 ⟨rfl, hb⟩
  have HL2 := Lib.hid (bstep HL1.out hb)
  have HD2 := Lib.hid (HD1.out.below hb)
  clear hb HL1 HD1
  go_wp2_with fail
  refine (awake01 _).mono ?_
  rintro e w2 ⟨rfl, hb⟩
  have HL3 := Lib.hid (bstep HL2.out hb)
  have HD3 := Lib.hid (HD2.out.below hb)
  clear hb HL2 HD2
  go_wp2
  go_ret
  exact ⟨rfl, HL3.out⟩

set_option maxRecDepth 100000 in
set_option maxHeartbeats 4000000 in
theorem decimal_zero_good (na nx ny : Bool) (sa sx sy : ByteArray) (st : ByteArray) (ha : sa.size ≤ maxLen) (hgr : gr [(na, sa)] = false) (hl : decide ((200 : Int) < st.size) = false) (tt : ByteArray) (htt : tt.size ≤ 1000) (tb : Bool) (c0 : Int) (t1 : decide (c0 < 0) = tb) (t2 : (tt.toList == [48]) = true) (w : World)
    (H1 : ∀ W, Calls Tryd.prog 9 #[.agg #[.bool na, .string sa]] W fun e w' => e = .returned (.string tt) ∧ Below W.heap.size W w')
    (H2 : ∀ W, Calls Tryd.prog 7 #[.string tt] W fun e w' => e = .returned (.tuple #[.agg #[.bool nx, .string sx], .int .i64 0]) ∧ Below W.heap.size W w')
    (H3 : ∀ W, Calls Tryd.prog 11 #[.agg #[.bool nx, .string sx], .agg #[.bool na, .string sa]] W fun e w' => e = .returned (.int .i64 0) ∧ Below W.heap.size W w')
    (H4 : ∀ W, Calls Tryd.prog 12 #[.agg #[.bool nx, .string sx]] W fun e w' => e = .returned (.int .i64 0) ∧ Below W.heap.size W w')
    (H5 : ∀ W, Calls Tryd.prog 13 #[.string tt, .string ⟨#[45]⟩] W fun e w' => e = .returned (.bool tb) ∧ Below W.heap.size W w')
    (H6 : ∀ W, Calls Tryd.prog 11 #[.agg #[.bool na, .string sa], .agg #[.bool false, .string ⟨#[]⟩]] W fun e w' => e = .returned (.int .i64 c0) ∧ Below W.heap.size W w')
    (H7 : ∀ W, Calls Tryd.prog 7 #[.string (tt ++ ⟨#[48]⟩)] W fun e w' => e = .returned (.tuple #[.agg #[.bool false, .string ⟨#[]⟩], .int .i64 3]) ∧ Below W.heap.size W w')
    (H8 : ∀ W, Calls Tryd.prog 7 #[.string st] W fun e w' => e = .returned (.tuple #[.agg #[.bool ny, .string sy], .int .i64 0]) ∧ Below W.heap.size W w')
    (H9 : ∀ W, Calls Tryd.prog 9 #[.agg #[.bool ny, .string sy]] W fun e w' => e = .returned (.string st) ∧ Below W.heap.size W w')
    : Calls Tryd.prog 4 #[.agg #[.bool na, .string sa], .string st] w fun e w' => e = .returned (.bool true) ∧ Below w.heap.size w w' := by
  replace H1 := Lib.hid H1
  replace H2 := Lib.hid H2
  replace H3 := Lib.hid H3
  replace H4 := Lib.hid H4
  replace H5 := Lib.hid H5
  replace H6 := Lib.hid H6
  replace H7 := Lib.hid H7
  replace H8 := Lib.hid H8
  replace H9 := Lib.hid H9
  have HA := Lib.hid ha
  clear ha
  have q1 : eqI nx sx nx sx = true := eqI_iff.mpr ⟨rfl, rfl⟩
  have qb : (tb == tb) = true := by cases tb <;> rfl
  go_enter Tryd.func4, Tryd.ntmps4
  have HL0 := Lib.hid (Below.refl w.heap.size w)
  have HD0 := Lib.hid (Bxs.nil w)
  have HL1 := Lib.hid (HL0.out.alloc HL0.out.size (.cells #[.bool na, .string sa] 23))
  have HD1 := Lib.hid (HD0.out.push' (w.heap.size) na sa (by simp))
  clear HL0 HD0
  obtain ⟨fx0, fy0⟩ := HD1.out.get (w.heap.size) na sa (by simp)
  go_wp2_with fail
  refine (great1 na sa _ (w.heap.size + 1) (by simp) HA.out).mono ?_
  rintro e w1 ⟨rfl, hb⟩
  have HL2 := Lib.hid (bstep HL1.out hb)
  have HD2 := Lib.hid (HD1.out.below hb)
  clear hb HL1 HD1
  obtain ⟨fx0, fy0⟩ := HD2.out.get (w.heap.size) na sa (by simp)
  go_wp2_with fail
  refine (H1.out _).mono ?_
  rintro e w2 ⟨rfl, hb⟩
  have HL3 := Lib.hid (bstep HL2.out hb)
  have HD3 := Lib.hid (HD2.out.below hb)
  clear hb HL2 HD2
  go_wp2_with fail
  refine (H2.out _).mono ?_
  rintro e w3 ⟨rfl, hb⟩
  have HL4 := Lib.hid (bstep HL3.out hb)
  have HD4 := Lib.hid (HD3.out.below hb)
  clear hb HL3 HD3
  have HL5 := Lib.hid (HL4.out.alloc HL4.out.size (.cells #[.bool nx, .string sx] 23))
  have HD5 := Lib.hid (HD4.out.push' (w3.heap.size) nx sx (by simp))
  clear HL4 HD4
  go_wp2_with fail
  obtain ⟨Bw3, hB⟩ : ∃ B, w3.heap.size = B := ⟨_, rfl⟩
  rw [hB] at HD5 ⊢
  clear hB
  obtain ⟨W4, hW⟩ : ∃ W, (w3.alloc (.cells #[.bool nx, .string sx] 23)) = W := ⟨_, rfl⟩
  rw [hW] at HD5 HL5 ⊢
  clear hW
  haveI := cls_some W4
  have fq1 : ∀ u : Cl W4, u.x.cell? ⟨Bw3, 0, none⟩ = some (.bool nx) := fun u => ((HD5.out.below u.h).get (Bw3) nx sx (by simp)).1
  have fr1 : ∀ u : Cl W4, u.x.cell? ⟨Bw3, 1, none⟩ = some (.string sx) := fun u => ((HD5.out.below u.h).get (Bw3) nx sx (by simp)).2
  have fq0 : ∀ u : Cl W4, u.x.cell? ⟨w.heap.size, 0, none⟩ = some (.bool na) := fun u => ((HD5.out.below u.h).get (w.heap.size) na sa (by simp)).1
  have fr0 : ∀ u : Cl W4, u.x.cell? ⟨w.heap.size, 1, none⟩ = some (.string sa) := fun u => ((HD5.out.below u.h).get (w.heap.size) na sa (by simp)).2
  refine wp_region_cls (by kernel_rfl) ?_
  iterate 5 (go_big_quiet_step (fail))
  go_big_quiet_step ((go_at_call 11; exact quiet_cls H3.out _))
  iterate 4 (go_big_quiet_step (fail))
  go_big_quiet_step ((go_at_call 12; exact quiet_cls H4.out _))
  iterate 4 (go_big_quiet_step (fail))
  go_big_quiet_step ((go_at_call 13; exact quiet_cls H5.out _))
  iterate 2 (go_big_quiet_step (fail))
  go_big_quiet_step ((go_at_call 11; exact quiet_cls H6.out _))
  iterate 3 (go_big_quiet_step (fail))
  refine wpQuiet_nil ?_
  intro w5 hw9
  have hB : Below W4.heap.size W4 w5 := by obtain ⟨u, rfl⟩ := hw9; exact u.h
  clear hw9 fq1 fr1 fq0 fr0
  have HL6 := Lib.hid (bstep HL5.out hB)
  have HD6 := Lib.hid (HD5.out.below hB)
  clear hB HL5 HD5
  go_wp2_with fail
  refine (H7.out _).mono ?_
  rintro e w6 ⟨rfl, hb⟩
  have HL7 := Lib.hid (bstep HL6.out hb)
  have HD7 := Lib.hid (HD6.out.below hb)
  clear hb HL6 HD6
  have HL8 := Lib.hid (HL7.out.alloc HL7.out.size (.cells #[.bool false, .string ⟨#[]⟩] 23))
  have HD8 := Lib.hid (HD7.out.push' (w6.heap.size) false ⟨#[]⟩ (by simp))
  clear HL7 HD7
  go_wp2_with fail
  obtain ⟨Bw6, hB⟩ : ∃ B, w6.heap.size = B := ⟨_, rfl⟩
  rw [hB] at HD8 ⊢
  clear hB
  obtain ⟨W7, hW⟩ : ∃ W, (w6.alloc (.cells #[.bool false, .string ⟨#[]⟩] 23)) = W := ⟨_, rfl⟩
  rw [hW] at HD8 HL8 ⊢
  clear hW
  haveI := cls_some W7
  refine wp_region_cls (by kernel_rfl) ?_
  iterate 16 (go_big_quiet_step (fail))
  refine wpQuiet_nil ?_
  intro w8 hw9
  have hB : Below W7.heap.size W7 w8 := by obtain ⟨u, rfl⟩ := hw9; exact u.h
  clear hw9 
  have HL9 := Lib.hid (bstep HL8.out hB)
  have HD9 := Lib.hid (HD8.out.below hB)
  clear hB HL8 HD8
  go_wp2_with fail
  refine (H8.out _).mono ?_
  rintro e w9 ⟨rfl, hb⟩
  have HL10 := Lib.hid (bstep HL9.out hb)
  have HD10 := Lib.hid (HD9.out.below hb)
  clear hb HL9 HD9
  have HL11 := Lib.hid (HL10.out.alloc HL10.out.size (.cells #[.bool ny, .string sy] 23))
  have HD11 := Lib.hid (HD10.out.push' (w9.heap.size) ny sy (by simp))
  clear HL10 HD10
  obtain ⟨fx3, fy3⟩ := HD11.out.get (w9.heap.size) ny sy (by simp)
  go_wp2_with fail
  refine (H9.out _).mono ?_
  rintro e w10 ⟨rfl, hb⟩
  have HL12 := Lib.hid (bstep HL11.out hb)
  have HD12 := Lib.hid (HD11.out.below hb)
  clear hb HL11 HD11
  go_wp2_with fail
  refine (awake01 _).mono ?_
  rintro e w11 ⟨rfl, hb⟩
  have HL13 := Lib.hid (bstep HL12.out hb)
  have HD13 := Lib.hid (HD12.out.below hb)
  clear hb HL12 HD12
  go_wp2
  go_ret
  exact ⟨rfl, HL13.out⟩

set_option maxRecDepth 100000 in
set_option maxHeartbeats 4000000 in
theorem decimal_zero_bad (na nx : Bool) (sa sx : ByteArray) (st : ByteArray) (ha : sa.size ≤ maxLen) (hgr : gr [(na, sa)] = false) (hl : decide ((200 : Int) < st.size) = false) (tt : ByteArray) (htt : tt.size ≤ 1000) (tb : Bool) (c0 : Int) (t1 : decide (c0 < 0) = tb) (t2 : (tt.toList == [48]) = true) (w : World)
    (H1 : ∀ W, Calls Tryd.prog 9 #[.agg #[.bool na, .string sa]] W fun e w' => e = .returned (.string tt) ∧ Below W.heap.size W w')
    (H2 : ∀ W, Calls Tryd.prog 7 #[.string tt] W fun e w' => e = .returned (.tuple #[.agg #[.bool nx, .string sx], .int .i64 0]) ∧ Below W.heap.size W w')
    (H3 : ∀ W, Calls Tryd.prog 11 #[.agg #[.bool nx, .string sx], .agg #[.bool na, .string sa]] W fun e w' => e = .returned (.int .i64 0) ∧ Below W.heap.size W w')
    (H4 : ∀ W, Calls Tryd.prog 12 #[.agg #[.bool nx, .string sx]] W fun e w' => e = .returned (.int .i64 0) ∧ Below W.heap.size W w')
    (H5 : ∀ W, Calls Tryd.prog 13 #[.string tt, .string ⟨#[45]⟩] W fun e w' => e = .returned (.bool tb) ∧ Below W.heap.size W w')
    (H6 : ∀ W, Calls Tryd.prog 11 #[.agg #[.bool na, .string sa], .agg #[.bool false, .string ⟨#[]⟩]] W fun e w' => e = .returned (.int .i64 c0) ∧ Below W.heap.size W w')
    (H7 : ∀ W, Calls Tryd.prog 7 #[.string (tt ++ ⟨#[48]⟩)] W fun e w' => e = .returned (.tuple #[.agg #[.bool false, .string ⟨#[]⟩], .int .i64 3]) ∧ Below W.heap.size W w')
    (H8 : ∀ W, Calls Tryd.prog 7 #[.string st] W fun e w' => e = .returned (.tuple #[.agg #[.bool false, .string ⟨#[]⟩], .int .i64 3]) ∧ Below W.heap.size W w')
    : Calls Tryd.prog 4 #[.agg #[.bool na, .string sa], .string st] w fun e w' => e = .returned (.bool true) ∧ Below w.heap.size w w' := by
  replace H1 := Lib.hid H1
  replace H2 := Lib.hid H2
  replace H3 := Lib.hid H3
  replace H4 := Lib.hid H4
  replace H5 := Lib.hid H5
  replace H6 := Lib.hid H6
  replace H7 := Lib.hid H7
  replace H8 := Lib.hid H8
  have HA := Lib.hid ha
  clear ha
  have q1 : eqI nx sx nx sx = true := eqI_iff.mpr ⟨rfl, rfl⟩
  have q3 : eqI false ⟨#[]⟩ false ⟨#[]⟩ = true := eqI_iff.mpr ⟨rfl, rfl⟩
  have qb : (tb == tb) = true := by cases tb <;> rfl
  go_enter Tryd.func4, Tryd.ntmps4
  have HL0 := Lib.hid (Below.refl w.heap.size w)
  have HD0 := Lib.hid (Bxs.nil w)
  have HL1 := Lib.hid (HL0.out.alloc HL0.out.size (.cells #[.bool na, .string sa] 23))
  have HD1 := Lib.hid (HD0.out.push' (w.heap.size) na sa (by simp))
  clear HL0 HD0
  obtain ⟨fx0, fy0⟩ := HD1.out.get (w.heap.size) na sa (by simp)
  go_wp2_with fail
  refine (great1 na sa _ (w.heap.size + 1) (by simp) HA.out).mono ?_
  rintro e w1 ⟨rfl, hb⟩
  have HL2 := Lib.hid (bstep HL1.out hb)
  have HD2 := Lib.hid (HD1.out.below hb)
  clear hb HL1 HD1
  obtain ⟨fx0, fy0⟩ := HD2.out.get (w.heap.size) na sa (by simp)
  go_wp2_with fail
  refine (H1.out _).mono ?_
  rintro e w2 ⟨rfl, hb⟩
  have HL3 := Lib.hid (bstep HL2.out hb)
  have HD3 := Lib.hid (HD2.out.below hb)
  clear hb HL2 HD2
  go_wp2_with fail
  refine (H2.out _).mono ?_
  rintro e w3 ⟨rfl, hb⟩
  have HL4 := Lib.hid (bstep HL3.out hb)
  have HD4 := Lib.hid (HD3.out.below hb)
  clear hb HL3 HD3
  have HL5 := Lib.hid (HL4.out.alloc HL4.out.size (.cells #[.bool nx, .string sx] 23))
  have HD5 := Lib.hid (HD4.out.push' (w3.heap.size) nx sx (by simp))
  clear HL4 HD4
  go_wp2_with fail
  obtain ⟨Bw3, hB⟩ : ∃ B, w3.heap.size = B := ⟨_, rfl⟩
  rw [hB] at HD5 ⊢
  clear hB
  obtain ⟨W4, hW⟩ : ∃ W, (w3.alloc (.cells #[.bool nx, .string sx] 23)) = W := ⟨_, rfl⟩
  rw [hW] at HD5 HL5 ⊢
  clear hW
  haveI := cls_some W4
  have fq1 : ∀ u : Cl W4, u.x.cell? ⟨Bw3, 0, none⟩ = some (.bool nx) := fun u => ((HD5.out.below u.h).get (Bw3) nx sx (by simp)).1
  have fr1 : ∀ u : Cl W4, u.x.cell? ⟨Bw3, 1, none⟩ = some (.string sx) := fun u => ((HD5.out.below u.h).get (Bw3) nx sx (by simp)).2
  have fq0 : ∀ u : Cl W4, u.x.cell? ⟨w.heap.size, 0, none⟩ = some (.bool na) := fun u => ((HD5.out.below u.h).get (w.heap.size) na sa (by simp)).1
  have fr0 : ∀ u : Cl W4, u.x.cell? ⟨w.heap.size, 1, none⟩ = some (.string sa) := fun u => ((HD5.out.below u.h).get (w.heap.size) na sa (by simp)).2
  refine wp_region_cls (by kernel_rfl) ?_
  iterate 5 (go_big_quiet_step (fail))
  go_big_quiet_step ((go_at_call 11; exact quiet_cls H3.out _))
  iterate 4 (go_big_quiet_step (fail))
  go_big_quiet_step ((go_at_call 12; exact quiet_cls H4.out _))
  iterate 4 (go_big_quiet_step (fail))
  go_big_quiet_step ((go_at_call 13; exact quiet_cls H5.out _))
  iterate 2 (go_big_quiet_step (fail))
  go_big_quiet_step ((go_at_call 11; exact quiet_cls H6.out _))
  iterate 3 (go_big_quiet_step (fail))
  refine wpQuiet_nil ?_
  intro w5 hw9
  have hB : Below W4.heap.size W4 w5 := by obtain ⟨u, rfl⟩ := hw9; exact u.h
  clear hw9 fq1 fr1 fq0 fr0
  have HL6 := Lib.hid (bstep HL5.out hB)
  have HD6 := Lib.hid (HD5.out.below hB)
  clear hB HL5 HD5
  go_wp2_with fail
  refine (H7.out _).mono ?_
  rintro e w6 ⟨rfl, hb⟩
  have HL7 := Lib.hid (bstep HL6.out hb)
  have HD7 := Lib.hid (HD6.out.below hb)
  clear hb HL6 HD6
  have HL8 := Lib.hid (HL7.out.alloc HL7.out.size (.cells #[.bool false, .string ⟨#[]⟩] 23))
  have HD8 := Lib.hid (HD7.out.push' (w6.heap.size) false ⟨#[]⟩ (by simp))
  clear HL7 HD7
  go_wp2_with fail
  obtain ⟨Bw6, hB⟩ : ∃ B, w6.heap.size = B := ⟨_, rfl⟩
  rw [hB] at HD8 ⊢
  clear hB
  obtain ⟨W7, hW⟩ : ∃ W, (w6.alloc (.cells #[.bool false, .string ⟨#[]⟩] 23)) = W := ⟨_, rfl⟩
  rw [hW] at HD8 HL8 ⊢
  clear hW
  haveI := cls_some W7
  refine wp_region_cls (by kernel_rfl) ?_
  iterate 16 (go_big_quiet_step (fail))
  refine wpQuiet_nil ?_
  intro w8 hw9
  have hB : Below W7.heap.size W7 w8 := by obtain ⟨u, rfl⟩ := hw9; exact u.h
  clear hw9 
  have HL9 := Lib.hid (bstep HL8.out hB)
  have HD9 := Lib.hid (HD8.out.below hB)
  clear hB HL8 HD8
  go_wp2_with fail
  refine (H8.out _).mono ?_
  rintro e w9 ⟨rfl, hb⟩
  have HL10 := Lib.hid (bstep HL9.out hb)
  have HD10 := Lib.hid (HD9.out.below hb)
  clear hb HL9 HD9
  have HL11 := Lib.hid (HL10.out.alloc HL10.out.size (.cells #[.bool false, .string ⟨#[]⟩] 23))
  have HD11 := Lib.hid (HD10.out.push' (w9.heap.size) false ⟨#[]⟩ (by simp))
  clear HL10 HD10
  obtain ⟨fx3, fy3⟩ := HD11.out.get (w9.heap.size) false ⟨#[]⟩ (by simp)
  go_wp2_with fail
  refine (awake01 _).mono ?_
  rintro e w10 ⟨rfl, hb⟩
  have HL12 := Lib.hid (bstep HL11.out hb)
  have HD12 := Lib.hid (HD11.out.below hb)
  clear hb HL11 HD11
  go_wp2
  go_ret
  exact ⟨rfl, HL12.out⟩

set_option maxRecDepth 100000 in
set_option maxHeartbeats 4000000 in
theorem decimal_pos_good (na nm no nx ny : Bool) (sa sm so sx sy : ByteArray) (st : ByteArray) (ha : sa.size ≤ maxLen) (hgr : gr [(na, sa)] = false) (hl : decide ((200 : Int) < st.size) = false) (tt : ByteArray) (htt : tt.size ≤ 1000) (tb : Bool) (c0 : Int) (t1 : decide (c0 < 0) = tb) (t2 : (tt.toList == [48]) = false) (w : World)
    (H1 : ∀ W, Calls Tryd.prog 9 #[.agg #[.bool na, .string sa]] W fun e w' => e = .returned (.string tt) ∧ Below W.heap.size W w')
    (H2 : ∀ W, Calls Tryd.prog 7 #[.string tt] W fun e w' => e = .returned (.tuple #[.agg #[.bool nx, .string sx], .int .i64 0]) ∧ Below W.heap.size W w')
    (H3 : ∀ W, Calls Tryd.prog 11 #[.agg #[.bool nx, .string sx], .agg #[.bool na, .string sa]] W fun e w' => e = .returned (.int .i64 0) ∧ Below W.heap.size W w')
    (H4 : ∀ W, Calls Tryd.prog 12 #[.agg #[.bool nx, .string sx]] W fun e w' => e = .returned (.int .i64 0) ∧ Below W.heap.size W w')
    (H5 : ∀ W, Calls Tryd.prog 13 #[.string tt, .string ⟨#[45]⟩] W fun e w' => e = .returned (.bool tb) ∧ Below W.heap.size W w')
    (H6 : ∀ W, Calls Tryd.prog 11 #[.agg #[.bool na, .string sa], .agg #[.bool false, .string ⟨#[]⟩]] W fun e w' => e = .returned (.int .i64 c0) ∧ Below W.heap.size W w')
    (H7 : ∀ W, Calls Tryd.prog 7 #[.string (tt ++ ⟨#[48]⟩)] W fun e w' => e = .returned (.tuple #[.agg #[.bool nm, .string sm], .int .i64 0]) ∧ Below W.heap.size W w')
    (H8 : ∀ W, Calls Tryd.prog 15 #[.int .i64 10] W fun e w' => e = .returned (.agg #[.bool no, .string so]) ∧ Below W.heap.size W w')
    (H9 : ∀ W, Calls Tryd.prog 14 #[.agg #[.bool nx, .string sx], .agg #[.bool no, .string so]] W fun e w' => e = .returned (.agg #[.bool nm, .string sm]) ∧ Below W.heap.size W w')
    (H10 : ∀ W, Calls Tryd.prog 7 #[.string st] W fun e w' => e = .returned (.tuple #[.agg #[.bool ny, .string sy], .int .i64 0]) ∧ Below W.heap.size W w')
    (H11 : ∀ W, Calls Tryd.prog 9 #[.agg #[.bool ny, .string sy]] W fun e w' => e = .returned (.string st) ∧ Below W.heap.size W w')
    : Calls Tryd.prog 4 #[.agg #[.bool na, .string sa], .string st] w fun e w' => e = .returned (.bool true) ∧ Below w.heap.size w w' := by
  replace H1 := Lib.hid H1
  replace H2 := Lib.hid H2
  replace H3 := Lib.hid H3
  replace H4 := Lib.hid H4
  replace H5 := Lib.hid H5
  replace H6 := Lib.hid H6
  replace H7 := Lib.hid H7
  replace H8 := Lib.hid H8
  replace H9 := Lib.hid H9
  replace H10 := Lib.hid H10
  replace H11 := Lib.hid H11
  have HA := Lib.hid ha
  clear ha
  have q1 : eqI nx sx nx sx = true := eqI_iff.mpr ⟨rfl, rfl⟩
  have q2 : eqI nm sm nm sm = true := eqI_iff.mpr ⟨rfl, rfl⟩
  have qb : (tb == tb) = true := by cases tb <;> rfl
  go_enter Tryd.func4, Tryd.ntmps4
  have HL0 := Lib.hid (Below.refl w.heap.size w)
  have HD0 := Lib.hid (Bxs.nil w)
  have HL1 := Lib.hid (HL0.out.alloc HL0.out.size (.cells #[.bool na, .string sa] 23))
  have HD1 := Lib.hid (HD0.out.push' (w.heap.size) na sa (by simp))
  clear HL0 HD0
  obtain ⟨fx0, fy0⟩ := HD1.out.get (w.heap.size) na sa (by simp)
  go_wp2_with fail
  refine (great1 na sa _ (w.heap.size + 1) (by simp) HA.out).mono ?_
  rintro e w1 ⟨rfl, hb⟩
  have HL2 := Lib.hid (bstep HL1.out hb)
  have HD2 := Lib.hid (HD1.out.below hb)
  clear hb HL1 HD1
  obtain ⟨fx0, fy0⟩ := HD2.out.get (w.heap.size) na sa (by simp)
  go_wp2_with fail
  refine (H1.out _).mono ?_
  rintro e w2 ⟨rfl, hb⟩
  have HL3 := Lib.hid (bstep HL2.out hb)
  have HD3 := Lib.hid (HD2.out.below hb)
  clear hb HL2 HD2
  go_wp2_with fail
  refine (H2.out _).mono ?_
  rintro e w3 ⟨rfl, hb⟩
  have HL4 := Lib.hid (bstep HL3.out hb)
  have HD4 := Lib.hid (HD3.out.below hb)
  clear hb HL3 HD3
  have HL5 := Lib.hid (HL4.out.alloc HL4.out.size (.cells #[.bool nx, .string sx] 23))
  have HD5 := Lib.hid (HD4.out.push' (w3.heap.size) nx sx (by simp))
  clear HL4 HD4
  go_wp2_with fail
  obtain ⟨Bw3, hB⟩ : ∃ B, w3.heap.size = B := ⟨_, rfl⟩
  rw [hB] at HD5 ⊢
  clear hB
  obtain ⟨W4, hW⟩ : ∃ W, (w3.alloc (.cells #[.bool nx, .string sx] 23)) = W := ⟨_, rfl⟩
  rw [hW] at HD5 HL5 ⊢
  clear hW
  haveI := cls_some W4
  have fq1 : ∀ u : Cl W4, u.x.cell? ⟨Bw3, 0, none⟩ = some (.bool nx) := fun u => ((HD5.out.below u.h).get (Bw3) nx sx (by simp)).1
  have fr1 : ∀ u : Cl W4, u.x.cell? ⟨Bw3, 1, none⟩ = some (.string sx) := fun u => ((HD5.out.below u.h).get (Bw3) nx sx (by simp)).2
  have fq0 : ∀ u : Cl W4, u.x.cell? ⟨w.heap.size, 0, none⟩ = some (.bool na) := fun u => ((HD5.out.below u.h).get (w.heap.size) na sa (by simp)).1
  have fr0 : ∀ u : Cl W4, u.x.cell? ⟨w.heap.size, 1, none⟩ = some (.string sa) := fun u => ((HD5.out.below u.h).get (w.heap.size) na sa (by simp)).2
  refine wp_region_cls (by kernel_rfl) ?_
  iterate 5 (go_big_quiet_step (fail))
  go_big_quiet_step ((go_at_call 11; exact quiet_cls H3.out _))
  iterate 4 (go_big_quiet_step (fail))
  go_big_quiet_step ((go_at_call 12; exact quiet_cls H4.out _))
  iterate 4 (go_big_quiet_step (fail))
  go_big_quiet_step ((go_at_call 13; exact quiet_cls H5.out _))
  iterate 2 (go_big_quiet_step (fail))
  go_big_quiet_step ((go_at_call 11; exact quiet_cls H6.out _))
  iterate 3 (go_big_quiet_step (fail))
  refine wpQuiet_nil ?_
  intro w5 hw9
  have hB : Below W4.heap.size W4 w5 := by obtain ⟨u, rfl⟩ := hw9; exact u.h
  clear hw9 fq1 fr1 fq0 fr0
  have HL6 := Lib.hid (bstep HL5.out hB)
  have HD6 := Lib.hid (HD5.out.below hB)
  clear hB HL5 HD5
  go_wp2_with fail
  refine (H7.out _).mono ?_
  rintro e w6 ⟨rfl, hb⟩
  have HL7 := Lib.hid (bstep HL6.out hb)
  have HD7 := Lib.hid (HD6.out.below hb)
  clear hb HL6 HD6
  have HL8 := Lib.hid (HL7.out.alloc HL7.out.size (.cells #[.bool nm, .string sm] 23))
  have HD8 := Lib.hid (HD7.out.push' (w6.heap.size) nm sm (by simp))
  clear HL7 HD7
  go_wp2_with fail
  obtain ⟨Bw6, hB⟩ : ∃ B, w6.heap.size = B := ⟨_, rfl⟩
  rw [hB] at HD8 ⊢
  clear hB
  obtain ⟨W7, hW⟩ : ∃ W, (w6.alloc (.cells #[.bool nm, .string sm] 23)) = W := ⟨_, rfl⟩
  rw [hW] at HD8 HL8 ⊢
  clear hW
  haveI := cls_some W7
  have fq2 : ∀ u : Cl W7, u.x.cell? ⟨Bw6, 0, none⟩ = some (.bool nm) := fun u => ((HD8.out.below u.h).get (Bw6) nm sm (by simp)).1
  have fr2 : ∀ u : Cl W7, u.x.cell? ⟨Bw6, 1, none⟩ = some (.string sm) := fun u => ((HD8.out.below u.h).get (Bw6) nm sm (by simp)).2
  have fq1 : ∀ u : Cl W7, u.x.cell? ⟨Bw3, 0, none⟩ = some (.bool nx) := fun u => ((HD8.out.below u.h).get (Bw3) nx sx (by simp)).1
  have fr1 : ∀ u : Cl W7, u.x.cell? ⟨Bw3, 1, none⟩ = some (.string sx) := fun u => ((HD8.out.below u.h).get (Bw3) nx sx (by simp)).2
  refine wp_region_cls (by kernel_rfl) ?_
  iterate 11 (go_big_quiet_step (fail))
  go_big_quiet_step ((go_at_call 15; exact quiet_cls H8.out _))
  go_big_quiet_step ((go_at_call 14; exact quiet_cls H9.out _))
  iterate 3 (go_big_quiet_step (fail))
  refine wpQuiet_nil ?_
  intro w8 hw9
  have hB : Below W7.heap.size W7 w8 := by obtain ⟨u, rfl⟩ := hw9; exact u.h
  clear hw9 fq2 fr2 fq1 fr1
  have HL9 := Lib.hid (bstep HL8.out hB)
  have HD9 := Lib.hid (HD8.out.below hB)
  clear hB HL8 HD8
  go_wp2_with fail
  refine (H10.out _).mono ?_
  rintro e w9 ⟨rfl, hb⟩
  have HL10 := Lib.hid (bstep HL9.out hb)
  have HD10 := Lib.hid (HD9.out.below hb)
  clear hb HL9 HD9
  have HL11 := Lib.hid (HL10.out.alloc HL10.out.size (.cells #[.bool ny, .string sy] 23))
  have HD11 := Lib.hid (HD10.out.push' (w9.heap.size) ny sy (by simp))
  clear HL10 HD10
  obtain ⟨fx3, fy3⟩ := HD11.out.get (w9.heap.size) ny sy (by simp)
  go_wp2_with fail
  refine (H11.out _).mono ?_
  rintro e w10 ⟨rfl, hb⟩
  have HL12 := Lib.hid (bstep HL11.out hb)
  have HD12 := Lib.hid (HD11.out.below hb)
  clear hb HL11 HD11
  go_wp2_with fail
  refine (awake01 _).mono ?_
  rintro e w11 ⟨rfl, hb⟩
  have HL13 := Lib.hid (bstep HL12.out hb)
  have HD13 := Lib.hid (HD12.out.below hb)
  clear hb HL12 HD12
  go_wp2
  go_ret
  exact ⟨rfl, HL13.out⟩

set_option maxRecDepth 100000 in
set_option maxHeartbeats 4000000 in
theorem decimal_pos_bad (na nm no nx : Bool) (sa sm so sx : ByteArray) (st : ByteArray) (ha : sa.size ≤ maxLen) (hgr : gr [(na, sa)] = false) (hl : decide ((200 : Int) < st.size) = false) (tt : ByteArray) (htt : tt.size ≤ 1000) (tb : Bool) (c0 : Int) (t1 : decide (c0 < 0) = tb) (t2 : (tt.toList == [48]) = false) (w : World)
    (H1 : ∀ W, Calls Tryd.prog 9 #[.agg #[.bool na, .string sa]] W fun e w' => e = .returned (.string tt) ∧ Below W.heap.size W w')
    (H2 : ∀ W, Calls Tryd.prog 7 #[.string tt] W fun e w' => e = .returned (.tuple #[.agg #[.bool nx, .string sx], .int .i64 0]) ∧ Below W.heap.size W w')
    (H3 : ∀ W, Calls Tryd.prog 11 #[.agg #[.bool nx, .string sx], .agg #[.bool na, .string sa]] W fun e w' => e = .returned (.int .i64 0) ∧ Below W.heap.size W w')
    (H4 : ∀ W, Calls Tryd.prog 12 #[.agg #[.bool nx, .string sx]] W fun e w' => e = .returned (.int .i64 0) ∧ Below W.heap.size W w')
    (H5 : ∀ W, Calls Tryd.prog 13 #[.string tt, .string ⟨#[45]⟩] W fun e w' => e = .returned (.bool tb) ∧ Below W.heap.size W w')
    (H6 : ∀ W, Calls Tryd.prog 11 #[.agg #[.bool na, .string sa], .agg #[.bool false, .string ⟨#[]⟩]] W fun e w' => e = .returned (.int .i64 c0) ∧ Below W.heap.size W w')
    (H7 : ∀ W, Calls Tryd.prog 7 #[.string (tt ++ ⟨#[48]⟩)] W fun e w' => e = .returned (.tuple #[.agg #[.bool nm, .string sm], .int .i64 0]) ∧ Below W.heap.size W w')
    (H8 : ∀ W, Calls Tryd.prog 15 #[.int .i64 10] W fun e w' => e = .returned (.agg #[.bool no, .string so]) ∧ Below W.heap.size W w')
    (H9 : ∀ W, Calls Tryd.prog 14 #[.agg #[.bool nx, .string sx], .agg #[.bool no, .string so]] W fun e w' => e = .returned (.agg #[.bool nm, .string sm]) ∧ Below W.heap.size W w')
    (H10 : ∀ W, Calls Tryd.prog 7 #[.string st] W fun e w' => e = .returned (.tuple #[.agg #[.bool false, .string ⟨#[]⟩], .int .i64 3]) ∧ Below W.heap.size W w')
    : Calls Tryd.prog 4 #[.agg #[.bool na, .string sa], .string st] w fun e w' => e = .returned (.bool true) ∧ Below w.heap.size w w' := by
  replace H1 := Lib.hid H1
  replace H2 := Lib.hid H2
  replace H3 := Lib.hid H3
  replace H4 := Lib.hid H4
  replace H5 := Lib.hid H5
  replace H6 := Lib.hid H6
  replace H7 := Lib.hid H7
  replace H8 := Lib.hid H8
  replace H9 := Lib.hid H9
  replace H10 := Lib.hid H10
  have HA := Lib.hid ha
  clear ha
  have q1 : eqI nx sx nx sx = true := eqI_iff.mpr ⟨rfl, rfl⟩
  have q2 : eqI nm sm nm sm = true := eqI_iff.mpr ⟨rfl, rfl⟩
  have q3 : eqI false ⟨#[]⟩ false ⟨#[]⟩ = true := eqI_iff.mpr ⟨rfl, rfl⟩
  have qb : (tb == tb) = true := by cases tb <;> rfl
  go_enter Tryd.func4, Tryd.ntmps4
  have HL0 := Lib.hid (Below.refl w.heap.size w)
  have HD0 := Lib.hid (Bxs.nil w)
  have HL1 := Lib.hid (HL0.out.alloc HL0.out.size (.cells #[.bool na, .string sa] 23))
  have HD1 := Lib.hid (HD0.out.push' (w.heap.size) na sa (by simp))
  clear HL0 HD0
  obtain ⟨fx0, fy0⟩ := HD1.out.get (w.heap.size) na sa (by simp)
  go_wp2_with fail
  refine (great1 na sa _ (w.heap.size + 1) (by simp) HA.out).mono ?_
  rintro e w1 ⟨rfl, hb⟩
  have HL2 := Lib.hid (bstep HL1.out hb)
  have HD2 := Lib.hid (HD1.out.below hb)
  clear hb HL1 HD1
  obtain ⟨fx0, fy0⟩ := HD2.out.get (w.heap.size) na sa (by simp)
  go_wp2_with fail
  refine (H1.out _).mono ?_
  rintro e w2 ⟨rfl, hb⟩
  have HL3 := Lib.hid (bstep HL2.out hb)
  have HD3 := Lib.hid (HD2.out.below hb)
  clear hb HL2 HD2
  go_wp2_with fail
  refine (H2.out _).mono ?_
  rintro e w3 ⟨rfl, hb⟩
  have HL4 := Lib.hid (bstep HL3.out hb)
  have HD4 := Lib.hid (HD3.out.below hb)
  clear hb HL3 HD3
  have HL5 := Lib.hid (HL4.out.alloc HL4.out.size (.cells #[.bool nx, .string sx] 23))
  have HD5 := Lib.hid (HD4.out.push' (w3.heap.size) nx sx (by simp))
  clear HL4 HD4
  go_wp2_with fail
  obtain ⟨Bw3, hB⟩ : ∃ B, w3.heap.size = B := ⟨_, rfl⟩
  rw [hB] at HD5 ⊢
  clear hB
  obtain ⟨W4, hW⟩ : ∃ W, (w3.alloc (.cells #[.bool nx, .string sx] 23)) = W := ⟨_, rfl⟩
  rw [hW] at HD5 HL5 ⊢
  clear hW
  haveI := cls_some W4
  have fq1 : ∀ u : Cl W4, u.x.cell? ⟨Bw3, 0, none⟩ = some (.bool nx) := fun u => ((HD5.out.below u.h).get (Bw3) nx sx (by simp)).1
  have fr1 : ∀ u : Cl W4, u.x.cell? ⟨Bw3, 1, none⟩ = some (.string sx) := fun u => ((HD5.out.below u.h).get (Bw3) nx sx (by simp)).2
  have fq0 : ∀ u : Cl W4, u.x.cell? ⟨w.heap.size, 0, none⟩ = some (.bool na) := fun u => ((HD5.out.below u.h).get (w.heap.size) na sa (by simp)).1
  have fr0 : ∀ u : Cl W4, u.x.cell? ⟨w.heap.size, 1, none⟩ = some (.string sa) := fun u => ((HD5.out.below u.h).get (w.heap.size) na sa (by simp)).2
  refine wp_region_cls (by kernel_rfl) ?_
  iterate 5 (go_big_quiet_step (fail))
  go_big_quiet_step ((go_at_call 11; exact quiet_cls H3.out _))
  iterate 4 (go_big_quiet_step (fail))
  go_big_quiet_step ((go_at_call 12; exact quiet_cls H4.out _))
  iterate 4 (go_big_quiet_step (fail))
  go_big_quiet_step ((go_at_call 13; exact quiet_cls H5.out _))
  iterate 2 (go_big_quiet_step (fail))
  go_big_quiet_step ((go_at_call 11; exact quiet_cls H6.out _))
  iterate 3 (go_big_quiet_step (fail))
  refine wpQuiet_nil ?_
  intro w5 hw9
  have hB : Below W4.heap.size W4 w5 := by obtain ⟨u, rfl⟩ := hw9; exact u.h
  clear hw9 fq1 fr1 fq0 fr0
  have HL6 := Lib.hid (bstep HL5.out hB)
  have HD6 := Lib.hid (HD5.out.below hB)
  clear hB HL5 HD5
  go_wp2_with fail
  refine (H7.out _).mono ?_
  rintro e w6 ⟨rfl, hb⟩
  have HL7 := Lib.hid (bstep HL6.out hb)
  have HD7 := Lib.hid (HD6.out.below hb)
  clear hb HL6 HD6
  have HL8 := Lib.hid (HL7.out.alloc HL7.out.size (.cells #[.bool nm, .string sm] 23))
  have HD8 := Lib.hid (HD7.out.push' (w6.heap.size) nm sm (by simp))
  clear HL7 HD7
  go_wp2_with fail
  obtain ⟨Bw6, hB⟩ : ∃ B, w6.heap.size = B := ⟨_, rfl⟩
  rw [hB] at HD8 ⊢
  clear hB
  obtain ⟨W7, hW⟩ : ∃ W, (w6.alloc (.cells #[.bool nm, .string sm] 23)) = W := ⟨_, rfl⟩
  rw [hW] at HD8 HL8 ⊢
  clear hW
  haveI := cls_some W7
  have fq2 : ∀ u : Cl W7, u.x.cell? ⟨Bw6, 0, none⟩ = some (.bool nm) := fun u => ((HD8.out.below u.h).get (Bw6) nm sm (by simp)).1
  have fr2 : ∀ u : Cl W7, u.x.cell? ⟨Bw6, 1, none⟩ = some (.string sm) := fun u => ((HD8.out.below u.h).get (Bw6) nm sm (by simp)).2
  have fq1 : ∀ u : Cl W7, u.x.cell? ⟨Bw3, 0, none⟩ = some (.bool nx) := fun u => ((HD8.out.below u.h).get (Bw3) nx sx (by simp)).1
  have fr1 : ∀ u : Cl W7, u.x.cell? ⟨Bw3, 1, none⟩ = some (.string sx) := fun u => ((HD8.out.below u.h).get (Bw3) nx sx (by simp)).2
  refine wp_region_cls (by kernel_rfl) ?_
  iterate 11 (go_big_quiet_step (fail))
  go_big_quiet_step ((go_at_call 15; exact quiet_cls H8.out _))
  go_big_quiet_step ((go_at_call 14; exact quiet_cls H9.out _))
  iterate 3 (go_big_quiet_step (fail))
  refine wpQuiet_nil ?_
  intro w8 hw9
  have hB : Below W7.heap.size W7 w8 := by obtain ⟨u, rfl⟩ := hw9; exact u.h
  clear hw9 fq2 fr2 fq1 fr1
  have HL9 := Lib.hid (bstep HL8.out hB)
  have HD9 := Lib.hid (HD8.out.below hB)
  clear hB HL8 HD8
  go_wp2_with fail
  refine (H10.out _).mono ?_
  rintro e w9 ⟨rfl, hb⟩
  have HL10 := Lib.hid (bstep HL9.out hb)
  have HD10 := Lib.hid (HD9.out.below hb)
  clear hb HL9 HD9
  have HL11 := Lib.hid (HL10.out.alloc HL10.out.size (.cells #[.bool false, .string ⟨#[]⟩] 23))
  have HD11 := Lib.hid (HD10.out.push' (w9.heap.size) false ⟨#[]⟩ (by simp))
  clear HL10 HD10
  obtain ⟨fx3, fy3⟩ := HD11.out.get (w9.heap.size) false ⟨#[]⟩ (by simp)
  go_wp2_with fail
  refine (awake01 _).mono ?_
  rintro e w10 ⟨rfl, hb⟩
  have HL12 := Lib.hid (bstep HL11.out hb)
  have HD12 := Lib.hid (HD11.out.below hb)
  clear hb HL11 HD11
  go_wp2
  go_ret
  exact ⟨rfl, HL12.out⟩

end Go.Proofs.Gv

namespace Go.Proofs.Gv
open Go Go.RowKit

section
variable {na : Bool} {sa : ByteArray} {a : Int}
theorem prT_txt (ha : Rp na sa a) : prT na (bv sa.data.toList) = txt a := by
  have h := ha.val
  unfold prT txt
  have hz : bv sa.data.toList = 0 ↔ a = 0 := by
    rw [← h, ← iv_abs na sa]; omega
  by_cases h0 : a = 0
  · rw [if_pos (hz.2 h0), if_pos h0]
  · rw [if_neg (mt hz.1 h0), if_neg h0]
    have h1 : a.natAbs = bv sa.data.toList := by rw [← h, iv_abs]
    rw [h1]
    congr 1
    have hn : bv sa.data.toList ≠ 0 := mt hz.1 h0
    unfold iv at h
    cases na with
    | true => rw [if_pos rfl, if_pos (by simp at h; omega)]
    | false => rw [if_neg (by simp), if_neg (by simp at h; omega)]
theorem cPrint (ha : Rp na sa a) (W : World) :
    Calls Tryd.prog 9 #[.agg #[.bool na, .string sa]] W fun e w' => e = .returned (.string ⟨(txt a).toArray⟩) ∧ Below W.heap.size W w' := by
  have := Print_any na sa W ha.sz
  rwa [prT_txt ha] at this
end
theorem cParse {s : ByteArray} (hs : s.size ≤ 65536) (hg : goodT s.data.toList = true) (W : World) :
    Calls Tryd.prog 7 #[.string s] W fun e w' => e = .returned (.tuple #[.agg #[.bool (sgn (pz s.data.toList)), .string (mg (pz s.data.toList).natAbs)], .int .i64 0]) ∧ Below W.heap.size W w' := Parse_good s W hs hg
theorem cParseB {s : ByteArray} (hs : s.size ≤ 65536) (hg : goodT s.data.toList = false) (W : World) :
    Calls Tryd.prog 7 #[.string s] W fun e w' => e = .returned (.tuple #[.agg #[.bool false, .string ⟨#[]⟩], .int .i64 3]) ∧ Below W.heap.size W w' := Parse_bad s W hs hg

/-- A nought behind the text of a number. -/
theorem bdT_app {l : List UInt8} (h : l ≠ []) (m : List UInt8) : bdT (l ++ m) = bdT l ++ m ∧ ngT (l ++ m) = ngT l := by
  cases l with
  | nil => exact absurd rfl h
  | cons c r =>
    unfold bdT ngT
    rw [List.cons_append, List.head?_cons, List.head?_cons]
    split <;> exact ⟨rfl, rfl⟩
theorem txt_ne (z : Int) : txt z ≠ [] := by
  intro h
  have := (goodT_iff.1 (good_txt z)).1
  rw [h] at this
  exact this rfl
theorem txt0_good {z : Int} (h : z ≠ 0) : goodT (txt z ++ [48]) = true ∧ pz (txt z ++ [48]) = z * 10 := by
  obtain ⟨e1, e2⟩ := bdT_app (txt_ne z) [48]
  obtain ⟨g1, g2⟩ := bdT_txt z
  have hn : z.natAbs ≠ 0 := by omega
  rw [if_neg h] at g1
  rw [g1] at e1
  constructor
  · rw [goodT_iff, e1]
    refine ⟨by simp, fun c hc => ?_, fun hh => ?_⟩
    · rcases List.mem_append.1 hc with hc | hc
      · exact dec_isD _ c hc
      · obtain rfl := List.mem_singleton.1 hc; rfl
    · exfalso
      have := dec_head hn
      cases e : dec z.natAbs with
      | nil => exact dec_ne hn e
      | cons c r => rw [e] at hh this; exact this hh
  · unfold pz
    rw [e1, e2, g2, pval_snoc, pval_dec]
    by_cases h1 : z < 0
    · rw [decide_eq_true h1, if_pos rfl]; show -((10 * z.natAbs + 0 : Nat) : Int) = _; omega
    · rw [decide_eq_false h1]; simp; show ((10 * z.natAbs + 0 : Nat) : Int) = _; omega
theorem txt0_bad : goodT (txt 0 ++ [48]) = false := by decide
theorem txt_head (z : Int) : Lib.hasPrefix (txt z) [45] = decide (z < 0) := by rw [hp_eq, (bdT_txt z).2]
theorem txt_one {z : Int} : ((⟨(txt z).toArray⟩ : ByteArray).toList == [48]) = decide (z = 0) := by
  rw [ByteArray.toList_eq]
  show (txt z == [48]) = decide (z = 0)
  by_cases h : z = 0
  · subst h; rfl
  · rw [decide_eq_false h, beq_eq_false_iff_ne]
    intro e
    have := pz_txt z
    rw [e] at this
    exact h (this.symm.trans (by decide))
theorem txt_len (z : Int) (N : Nat) (h : z.natAbs < 2 ^ N) : (txt z).length ≤ N + 2 := by
  unfold txt
  split
  · simp
  · have := dec_len N _ h
    split <;> simp <;> omega
theorem hasP (s p : ByteArray) (W : World) : Calls Tryd.prog 13 #[.string s, .string p] W fun e w' => e = .returned (.bool (Lib.hasPrefix s.data.toList p.data.toList)) ∧ Below W.heap.size W w' := by
  refine (Tryd.strings_HasPrefix s p W).mono ?_
  rintro e w' ⟨rfl, rfl⟩
  exact ⟨rfl, Below.refl _ _⟩
theorem ten_two (k : Nat) : 10 ^ k ≤ 2 ^ (4 * k) := by rw [Nat.pow_mul]; exact Nat.pow_le_pow_left (by decide) k
theorem ofList {s : ByteArray} {l : List UInt8} (h : l = s.data.toList) : (⟨l.toArray⟩ : ByteArray) = s := by
  subst h; rcases s with ⟨⟨a⟩⟩; rfl

theorem law_decimal (na : Bool) (sa : ByteArray) (st : ByteArray) (w : World) (ha : sa.size ≤ maxLen) (hst : st.size ≤ maxLen) :
    Calls Tryd.prog 4 #[.agg #[.bool na, .string sa], .string st] w fun e w' => e = .returned (.bool true) ∧ Below w.heap.size w w' := by
  cases hgr : gr [(na, sa)] with
  | true => exact decimal_great na sa st ha hgr w
  | false =>
    by_cases hl : (200 : Int) < st.size
    · exact decimal_long na sa st ha hgr hl w
    have hl2 : decide ((200 : Int) < st.size) = false := decide_eq_false hl
    have hst2 : st.size ≤ 65536 := by omega
    have ha6 : sa.size ≤ 60 := gr_false hgr (na, sa) (by simp)
    have ra : Rp na sa (iv na sa) := ⟨rfl, by omega⟩
    obtain ⟨N, hN⟩ : ∃ N, 8 * sa.size = N := ⟨_, rfl⟩
    have hbit : (iv na sa).natAbs < 2 ^ N := by
      have := iv_lt na sa
      rwa [p256, hN] at this
    obtain ⟨a, hA⟩ : ∃ a, iv na sa = a := ⟨_, rfl⟩
    rw [hA] at ra hbit
    have hlen := txt_len a N hbit
    have rv : Rp (sgn a) (mg a.natAbs) a := Rp.V N hbit (by omega)
    have rz : Rp false ⟨#[]⟩ 0 := ⟨rfl, by decide⟩
    obtain ⟨T, hT⟩ : ∃ T : ByteArray, ⟨(txt a).toArray⟩ = T := ⟨_, rfl⟩
    have hTl : T.data.toList = txt a := by rw [← hT]
    have hTs : T.size ≤ 482 := by
      have : T.data.toList.length = T.size := by simp
      rw [hTl] at this; omega
    have hT0 : T ++ ⟨#[48]⟩ = ⟨(txt a ++ [48]).toArray⟩ := by
      rw [← hT, ByteArray.ext_iff, ByteArray.data_append]
      apply Array.ext'; simp
    have h0s : (T ++ ⟨#[48]⟩ : ByteArray).size ≤ 65536 := by rw [ByteArray.size_append]; show T.size + 1 ≤ 65536; omega
    have H1 := cPrint ra
    rw [hT] at H1
    have H2 := cParse (s := T) (by omega) (by rw [hTl]; exact good_txt a)
    rw [hTl, pz_txt] at H2
    have H3 : ∀ W, _ := fun W => cCmp rv ra W
    rw [cmpI_eq] at H3
    have H4 := cCheck a rv.sz
    have H5 := hasP T ⟨#[45]⟩
    rw [hTl, show (⟨#[45]⟩ : ByteArray).data.toList = [45] from rfl, txt_head] at H5
    have H6 := cCmp ra rz
    have t1 : decide (cmpI a 0 < 0) = decide (a < 0) := by
      unfold cmpI
      by_cases h1 : a < 0
      · simp [h1]
      · rw [if_neg h1]; split <;> simp [h1]
    have t2 : (T.toList == [48]) = decide (a = 0) := by rw [← hT]; exact txt_one
    have HP : goodT st.data.toList = true → Rp (sgn (pz st.data.toList)) (mg (pz st.data.toList).natAbs) (pz st.data.toList) ∧ (⟨(txt (pz st.data.toList)).toArray⟩ : ByteArray) = st := fun hg => by
      refine ⟨?_, ofList (txt_pz hg)⟩
      have h1 := pval_lt (bdT st.data.toList) (goodT_iff.1 hg).2.1
      have h2 : (pz st.data.toList).natAbs = pval (bdT st.data.toList) := by unfold pz; exact abs_eq _ _
      have h3 : (bdT st.data.toList).length ≤ 200 := by
        have : st.data.toList.length = st.size := by simp
        unfold bdT
        split
        · rw [List.length_tail]; omega
        · omega
      refine Rp.V (4 * (bdT st.data.toList).length) ?_ (by omega)
      rw [h2]
      exact Nat.lt_of_lt_of_le h1 (ten_two _)
    by_cases h0 : a = 0
    · subst h0
      have H7 := cParseB (s := T ++ ⟨#[48]⟩) h0s (by rw [hT0]; exact txt0_bad)
      cases hg : goodT st.data.toList with
      | true =>
        obtain ⟨hr, he⟩ := HP hg
        have H9 := cPrint hr
        rw [he] at H9
        exact decimal_zero_good _ _ _ _ _ _ st ha hgr hl2 T (by omega) _ _ t1 t2 w H1 H2 H3 H4 H5 H6 H7 (cParse hst2 hg) H9
      | false => exact decimal_zero_bad _ _ _ _ st ha hgr hl2 T (by omega) _ _ t1 t2 w H1 H2 H3 H4 H5 H6 H7 (cParseB hst2 hg)
    · obtain ⟨g1, g2⟩ := txt0_good h0
      rw [decide_eq_false h0] at t2
      have hTl0 : (T ++ ⟨#[48]⟩ : ByteArray).data.toList = txt a ++ [48] := by rw [hT0]
      have H7 := cParse (s := T ++ ⟨#[48]⟩) h0s (by rw [hTl0]; exact g1)
      rw [hTl0, g2] at H7
      have H8 : ∀ W, Calls Tryd.prog 15 #[.int .i64 10] W _ := fun W => Of_any 10 W (by omega) (by omega)
      have r10 : Rp (sgn 10) (mg (10 : Int).natAbs) 10 := Rp.V 4 (by decide) (by decide)
      have H9 := cMul rv r10
      cases hg : goodT st.data.toList with
      | true =>
        obtain ⟨hr, he⟩ := HP hg
        have H11 := cPrint hr
        rw [he] at H11
        exact decimal_pos_good _ _ _ _ _ _ _ _ _ _ st ha hgr hl2 T (by omega) _ _ t1 t2 w H1 H2 H3 H4 H5 H6 H7 H8 H9 (cParse hst2 hg) H11
      | false => exact decimal_pos_bad _ _ _ _ _ _ _ _ st ha hgr hl2 T (by omega) _ _ t1 t2 w H1 H2 H3 H4 H5 H6 H7 H8 H9 (cParseB hst2 hg)
end Go.Proofs.Gv
